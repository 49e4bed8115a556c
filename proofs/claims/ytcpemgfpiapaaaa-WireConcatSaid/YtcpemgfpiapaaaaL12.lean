/- WireConcat: the walk. -/
import Derived.Test.YtcpemgfpiapaaaaApG
import Derived.Test.YtcpemgfpiapaaaaPure
namespace Go.Proofs.Ytcpemgfpiapaaaa
open Go.RowKit

set_option maxRecDepth 100000 in
theorem law12_big (s : ByteArray) (ao : Option Addr) (n c : Nat) (w : World) (hs : s.size ≤ 140737488351232) (hn : n ≤ 140737488351232) (hb : 2000 < s.size + n) :
    Calls Try.prog 12 #[.string s, .slice ao n c] w (Nx w w (.bool true)) := by
  have hb := Below.refl w.heap.size w
  have s0 := True.intro
  go_enter Try.func12, Try.ntmps12
  go_wp2_with (first
    | (clear s0; go_at_call 18; refine (ux_san hb).mono ?_; rintro e w1 ⟨rfl, hb1, hk⟩; have s1 := True.intro))
  go_ret
  exact ⟨rfl, hb1, hk⟩

set_option maxRecDepth 100000 in
set_option maxHeartbeats 1000000 in
theorem law12_small (s : ByteArray) (ao : Option Addr) (n c : Nat) (l : List Int) (w : World) (hl : SlV w ao n c 1 (l.map iv)) (hR : ∀ x ∈ l, InR x) (hsum : s.size + n ≤ 2000) :
    Calls Try.prog 12 #[.string s, .slice ao n c] w (Nx w w (.bool true)) := by
  have hln : l.length = n := by have := hl.len; simpa using this
  obtain ⟨E, hE⟩ : ∃ E, encBytes s = E := ⟨_, rfl⟩
  obtain ⟨F, hF⟩ : ∃ F, encL encInt l = F := ⟨_, rfl⟩
  have hd1 := dec_enc_bytes (s := s) (by omega) F
  have hd2 := decInts_enc hR (by omega) []
  have e1 := encBytes_len s
  have e0 := encBytes_one s
  have e2 : (encL encInt l).length ≤ 20000 := by
    have := flat_le (f := encInt) (size := 9) l (fun x _ => (encInt_len x).2)
    have := encInt_len (l.length : Int)
    unfold encL
    rw [List.length_append]
    omega
  rw [List.append_nil] at hd2
  rw [hE] at hd1 e1 e0
  rw [hF] at hd2 e2
  obtain ⟨L, hL⟩ : ∃ L, E.length = L := ⟨_, rfl⟩
  obtain ⟨M, hM⟩ : ∃ M, F.length = M := ⟨_, rfl⟩
  have hdrop : (E ++ F).drop L = F := by rw [← hL, List.drop_left]
  rw [hL] at hd1 e1 e0
  rw [hM] at hd2 e2
  have HE := Lib.hid hE
  have HF := Lib.hid hF
  have HL := Lib.hid hL
  have HM := Lib.hid hM
  have H1 := Lib.hid hd1
  have H2 := Lib.hid hd2
  have HD := Lib.hid hdrop
  have hT : (encL encInt l).length ≤ 1000000000000 := by rw [hF, hM]; omega
  clear hE hF hL hM hd1 hd2 hdrop hln
  have hb := Below.refl w.heap.size w
  have s0 := True.intro
  go_enter Try.func12, Try.ntmps12
  go_wp2_with (first
    | (clear s0; go_at_call 22; have hb0 := hb.alloc (Nat.le_refl _) (.cells #[] 5); refine (ux_bytes hb0 (by omega)).mono ?_; rw [HE.out, HL.out]; rintro e w1 ⟨sa, sc, rfl, hs, hb1, hk⟩; replace hb := hb1; clear hb1 hk hb0; have s1 := True.intro)
    | (clear s1; at_builtin; refine ap_grow rfl (.tmp 19) (.tmp 21) rfl _ 0 [] rfl (sl_zero _ _ _) _ _ _ _ rfl hs (by omega) (by omega) ?_; intro ao3 cap3 w2 ho3 hk; rw [List.nil_append] at ho3; obtain ⟨hb1, -⟩ := below_on hb hk; have hbs := hb.size; replace ho3 := ho3.base hbs; replace hb := hb1; clear hb1 hk hs hbs; have s2 := True.intro)
    | (clear s2; go_at_call 24; refine (ux_ints hb (hl.below hb (Nat.le_refl _)) hR hT).mono ?_; rw [HF.out, HM.out]; rintro e w3 ⟨sa, sc, rfl, hs, hb1, hk⟩; replace ho3 := ownsRow_below ho3 hk (Nat.le_refl _); replace hb := hb1; clear hb1 hk; have s3 := True.intro)
    | (clear s3; at_builtin; have hbs := hb.size; refine ap_bytes rfl (.tmp 22) (.tmp 24) rfl w.heap.size _ _ _ _ _ (by simp [HL.out]) rfl ho3 _ _ _ HM.out.symm rfl (by rw [HM.out]; exact hs) (by rw [HL.out, HM.out]; omega) hbs ?_; rw [HL.out, HM.out]; intro ao4 cap4 w4 ho4 hk; have hs4 := ho4.sl; rw [List.length_append, HL.out, HM.out] at hs4; replace hb := hb.trans hk; clear hk hs ho3 ho4 hbs; have s4 := True.intro)
    | (clear s4; go_at_call 32; refine (ux_getbytes hb hs4 (by omega) H1.out).mono ?_; rintro e w1 ⟨rfl, hb1, hk⟩; replace hs4 := hs4.below hk (Nat.le_refl _); replace hb := hb1; clear hb1 hk; have s5 := True.intro)
    | (clear s5; refine cut_from rfl 28 (.tmp 45) (.tmp 46) rfl 5 1 Try.underlying28 Try.size5 _ _ _ _ rfl hs4 L _ rfl rfl (by omega) ?_; intro ao5 hs5; replace hs5 := slv_drop hs5; rw [HD.out] at hs5; rw [Nat.add_sub_cancel_left] at hs5 ⊢; have s6 := True.intro)
    | (clear s6; go_at_call 34; refine (ux_getints hb hs5 (by omega) H2.out).mono ?_; rintro e w1 ⟨ya, yc, rfl, hy, hb1, hk⟩; replace hb := hb1; clear hb1 hk; have s7 := True.intro)
    | (clear s7; go_at_call 18; refine (ux_san hb).mono ?_; rintro e w1 ⟨rfl, hb1, hk⟩; replace hy := hy.below hk (Nat.le_refl _); replace hb := hb1; clear hb1 hk; have s8 := True.intro)
    | (clear s8; go_at_call 36; refine (ux_sameints hb hy (hl.below hb (Nat.le_refl _)) rfl).mono ?_; rintro e w1 ⟨rfl, hb1, hk⟩; replace hb := hb1; clear hb1 hk; have s9 := True.intro))
  go_ret
  exact ⟨rfl, hb, hb⟩

/-- WireConcat returns true, and nothing that was there is changed. -/
theorem law12 (s : ByteArray) (ao : Option Addr) (n c : Nat) (l : List Int) (w : World) (hl : SlV w ao n c 1 (l.map iv)) (hR : ∀ x ∈ l, InR x) (hs : s.size ≤ 140737488351232) (hn : n ≤ 140737488351232) : Calls Try.prog 12 #[.string s, .slice ao n c] w (Nx w w (.bool true)) := by
  by_cases h : s.size + n ≤ 2000
  · exact law12_small s ao n c l w hl hR h
  · exact law12_big s ao n c w hs hn (by omega)

end Go.Proofs.Ytcpemgfpiapaaaa
