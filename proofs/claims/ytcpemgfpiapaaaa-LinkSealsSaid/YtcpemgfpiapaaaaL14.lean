/- LinkSeals. -/
import Derived.Test.YtcpemgfpiapaaaaL6
import Derived.BigQuiet
namespace Go.Proofs.Ytcpemgfpiapaaaa
open Go.RowKit

theorem RowC.of0 {w : World} {a : Option Addr} {cp : Nat} {l : List UInt8} (h : SlV w a l.length cp 1 (bvs l)) : RowC (fun _ => 0) w (.slice a l.length cp) l := ⟨a, cp, rfl, h, fun _ _ _ => rfl⟩

theorem RowC.sl {c : Nat → Nat} {w : World} {a : Option Addr} {cp : Nat} {l : List UInt8} (h : RowC c w (.slice a l.length cp) l) : SlV w a l.length cp 1 (bvs l) := by
  obtain ⟨a', cp', e, hs, _⟩ := h
  injection e with e1 _ e2
  subst e1 e2
  exact hs

theorem sl_in (key : Nat) {T : List UInt8} (hT : T.length ≤ 60) : inM (newM 1 key) (sealB key (pktB 1 0 T)) = (delivM (holdM (newM 1 key) 1 T), [T], 0) := by
  refine (in_pkt (newM 1 key) (seq := 1) (ack := 0) (l := T) (by unfold InR; omega) (by unfold InR; omega) ⟨by decide, by decide, by omega, .inl (by decide)⟩).trans ?_
  have e1 : ¬ (((newM 1 key).acked : Int) + ((newM 1 key).waiting.length : Int) < 0 ∨ ((newM 1 key).delivered : Int) + 16 < 1) := by
    show ¬ ((0 : Int) + 0 < 0 ∨ (0 : Int) + 16 < 1)
    omega
  rw [if_neg e1, if_neg (by decide)]
  rfl

set_option maxRecDepth 100000 in
set_option maxHeartbeats 4000000 in
theorem l14_any (W : World) (key other : Nat) (hk : key < 18446744073709551616) (hk2 : other < 18446744073709551616) (ao : Option Addr) (n c : Nat) (b : List UInt8) (hr : SlV W ao n c 1 (bvs b)) (at' : Int) (hat : InR at') (vb : UInt8) :
    Calls Try.prog 14 #[.int .u64 (key : Int), .int .u64 (other : Int), .slice ao n c, .int .i64 at', .int .u8 (vb.toNat : Int)] W (fun e w' => e = .returned (.bool true) ∧ Below W.heap.size W w') := by
  have hk2' := hk2
  obtain ⟨F, hF⟩ : ∃ F, b.take 60 = F := ⟨_, rfl⟩
  have hFl : F.length ≤ 60 := by rw [← hF, List.length_take]; omega
  obtain ⟨X, hX⟩ : ∃ X, sealB key F = X := ⟨_, rfl⟩
  have hXl : X.length = F.length + 8 := by rw [← hX, sealB_length]
  obtain ⟨P, hP⟩ : ∃ P, sealB key (pktB 1 0 F) = P := ⟨_, rfl⟩
  have hpl := pkt_len 1 0 F
  have hPl : P.length = (pktB 1 0 F).length + 8 := by rw [← hP, sealB_length]
  obtain ⟨K, hK, hKa⟩ := around_K (at' := at') (n := X.length) (by omega)
  obtain ⟨x0, hx0⟩ : ∃ x0, X[K]? = some x0 := ⟨_, List.getElem?_eq_getElem hK⟩
  have hin := sl_in key hFl
  rw [hP] at hin
  have hop : openB key X = (F, 0) := by rw [← hX]; exact open_seal key F
  have HF := Lib.hid hF
  have HX := Lib.hid hX
  have HP := Lib.hid hP
  have HIN := Lib.hid hin
  have HX0 := Lib.hid hx0
  have HOP := Lib.hid hop
  have hPb : P.length ≤ 200 := by omega
  have hpb : (pktB 1 0 F).length ≤ 100 := by omega
  have hXb : 8 ≤ X.length ∧ X.length ≤ 68 := by omega
  have hne : ((X.length : Int) != (F.length : Int) + 8) = false := by simp; omega
  have hwr : IntKind.i64.wrap ((F.length : Int) + 8) = (F.length : Int) + 8 := IntWalk.i64_in _ (by omega)
  have HXL := Lib.hid hXl
  obtain ⟨E, hE⟩ : ∃ E, encL encInt [1, 0] = E := ⟨_, rfl⟩
  obtain ⟨G, hG⟩ : ∃ G, encBytes ⟨F.toArray⟩ = G := ⟨_, rfl⟩
  have hEG : E ++ G = pktB 1 0 F := by rw [← hE, ← hG]; rfl
  have hEl : E.length ≤ 27 := by rw [← hE]; exact two_len 1 0
  have hGl : G.length ≤ 100 := by have := congrArg List.length hEG; rw [List.length_append] at this; omega
  have hG0 : 0 < G.length := by
    rw [← hG]
    have := encInt_len (((⟨F.toArray⟩ : ByteArray).size : Nat) : Int)
    unfold encBytes
    rw [List.length_append]
    omega
  have HE := Lib.hid hE
  have HG := Lib.hid hG
  have HEG := Lib.hid hEG
  clear hF hX hP hPl hpl hin hx0 hop hXl hE hG hEG
  have s0 := True.intro
  go_enter Try.func14, Try.ntmps14
  go_upto_region 4 with (first
    | (clear s0; go_at_call 44; refine (few2_any ao n c b 60 _ hr (by decide)).mono ?_; rw [HF.out]; rintro e w1 ⟨a1, k1, rfl, o1, hb1⟩; have s1 := True.intro)
    | (clear s1; go_at_call 43; refine (lseal_any key hk a1 _ k1 F _ o1.sl (by omega)).mono ?_; rw [HX.out]; rintro e w2 ⟨a2, k2, rfl, o2, hb2⟩; have s2 := True.intro)
    | (clear s2; go_at_call 46; refine (lopen_any key hk a2 _ k2 X _ o2.sl (by omega) F 0 HOP.out).mono ?_; rintro e w3 ⟨a3, k3, rfl, sl3, hb3⟩; have s3 := True.intro))
  have hb23 := hb2.trans (hb3.mono hb2.size)
  have hL3 : LS W w3 (fun _ => 0) := ⟨hb1.trans (hb23.mono hb1.size), fun _ _ => rfl, fun _ _ => rfl⟩
  have slF := o1.sl.below hb23 (Nat.le_refl _)
  have slX := o2.sl.below hb3 (Nat.le_refl _)
  clear o1 o2 hb1 hb2 hb3 hb23
  go_cut [15] (fun v wx => ∃ a k, v = .slice a P.length k ∧ SlV wx a P.length k 1 (bvs P) ∧ Below w3.heap.size w3 wx)
  case first =>
    have hcv : ∀ w' : World, Below w3.heap.size w3 w' → (convert 28 9 (.slice a1 F.length k1)).run Try.prog w' = .ok (.string ⟨F.toArray⟩) w' := fun w' h => cv_run (slF.below h (Nat.le_refl _))
    have k0 : Below w3.heap.size w3 w3.drew := (Below.refl _ _).drew
    have k1' := k0.alloc (Nat.le_refl _) (.cells #[.int .i64 1, .int .i64 0] 3)
    have hsz : (⟨F.toArray⟩ : ByteArray).size ≤ 1000000000000 := by show F.toArray.size ≤ _; simp; omega
    have hlit : SlV (w3.drew.alloc (.cells #[.int .i64 1, .int .i64 0] 3)) (some ⟨w3.drew.heap.size, 0, none⟩) 2 2 1 ([1, 0].map iv) :=
      lit_sl w3.drew 3 #[.int .i64 1, .int .i64 0] 2 1 ([1, 0].map iv) rfl rfl (by unfold maxLen; omega)
    have hR := two_inr (a := 1) (b := 0) (by unfold InR; omega) (by unfold InR; omega)
    obtain ⟨i, hi, hz0, hz1, hz2⟩ := info_parts Try.info5
    go_region_held_law (fun w' => (convert 28 9 (.slice a1 F.length k1)).run Try.prog w' = .ok (.string ⟨F.toArray⟩) w') (first | exact hcv _ m5 | exact hcv _ m4 | exact hcv _ m3 | exact hcv _ m2 | exact hcv _ k1' | exact hcv _ k0) (first
      | (go_at_call 24; refine (ints_any _ _ _ [1, 0] _ hlit hR (by rw [HE.out]; omega)).mono ?_; rw [HE.out]; rintro e y1 ⟨e1, f1, rfl, p1, q1⟩; have m2 := k1'.trans (q1.mono k1'.size))
      | (go_at_call 22; refine (bytes_any _ _ hsz).mono ?_; rw [HG.out]; rintro e y2 ⟨e2, f2, rfl, p2, q2⟩; have m3 := m2.trans (q2.mono m2.size); have p1' : y2.ownsRow w3.heap.size 5 1 (.slice e1 E.length f1) E.length (bvs E) := ownsRow_base (p1.below q2 (Nat.le_refl _)) (by simp); obtain ⟨ad, rfl⟩ := p2.sl.has hG0)
      | (refine step_append_lies _ rfl (.tmp 42) (.tmp 45) 28 rfl w3.heap.size 5 i (.int .u8 0) 1 1 Try.underlying28 hi hz0 hz1 hz2 rfl (by decide) _ E.length (bvs E) rfl p1' ad G.length f2 (bvs G) rfl (by simp) (p2.sl.cell ad rfl) (bvs_one G) hG0 (by unfold maxLen; omega) (by omega) m3.size _ rfl ?_; intro g4 f4 y4 p4 q4 at4 lt4; have m4 := m3.trans (grown_below p1' q4 m3.size); have p4' : SlV y4 (some ⟨g4, 0, none⟩) (E.length + G.length) f4 1 (bvs (E ++ G)) := (by rw [bvs_append]; exact ownsRow_sl p4))
      | (go_at_call 43; refine (lseal_any key hk _ _ _ (E ++ G) _ p4' (by omega)).mono ?_; rw [HEG.out, HP.out]; rintro e y5 ⟨e5, f5, rfl, p5, q5⟩; have m5 := m4.trans (q5.mono m4.size)))
    all_goals go_wp2_with fail
    go_meet
    exact ⟨e5, f5, rfl, p5.sl, m5⟩
  case rest =>
    obtain ⟨a4, k4, rfl, slP, hb4⟩ := hcut
    have hL4 := hL3.step hb4
    have rF4 := RowC.of0 (slF.below hb4 (Nat.le_refl _))
    have rX4 := RowC.of0 (slX.below hb4 (Nat.le_refl _))
    have rY4 := RowC.of0 (sl3.below hb4 (Nat.le_refl _))
    have rP4 := RowC.of0 slP
    clear hL3 slF slX sl3 slP hb4
    have s4 := True.intro
    go_upto_region 12 with (first
      | (clear s4; go_at_call 47; refine (lx_new hL4 1 1 key (by decide) (by decide) (by decide)).mono ?_; rintro e w5 ⟨c5, pa, rfl, hL5, st5, hA5⟩; have rF5 := rF4.stp st5 (by decide); have rX5 := rX4.stp st5 (by decide); have rY5 := rY4.stp st5 (by decide); have rP5 := rP4.stp st5 (by decide); clear rF4 rX4 rY4 rP4 hL4 st5; have s5 := True.intro)
      | (clear s5; go_at_call 50; refine (lx_in hL5 (by decide) hA5 (newM_wf (by decide) (by decide) hk) ⟨Nat.zero_le _, Nat.zero_le _⟩ rP5.sl (by omega) HIN.out).mono ?_; rintro e w6 ⟨c6, v6, hL6, st6, hA6, hX6, rfl⟩; have slF6 := (rF5.stp st6 (by decide)).sl; have slX6 := (rX5.stp st6 (by decide)).sl; have slY6 := (rY5.stp st6 (by decide)).sl; clear rF5 rX5 rY5 rP5 hL5 st6 hA5 hA6; obtain ⟨ao6, cap6, rfl⟩ := hX6.len (n := 1) rfl; obtain ⟨a6, rfl⟩ := hX6.some (by simp); obtain ⟨b6, cb6, z6, sl6, _⟩ := hX6.get (j := 0) rfl; have z6' : w6.cell? a6 = some (.slice b6 F.length cb6) := z6; clear z6 hX6; have s6 := True.intro)
      | (clear s6; go_at_call 19; refine (ux_same hL6.below sl6 slF6 rfl).mono ?_; rintro e w7 ⟨rfl, hb7, hc7⟩; have hL7 := hL6.step hc7; have slF7 := slF6.below hc7 (Nat.le_refl _); have slX7 := slX6.below hc7 (Nat.le_refl _); have slY7 := slY6.below hc7 (Nat.le_refl _); clear hL6 slF6 slX6 slY6 sl6 z6' hb7; have s7 := True.intro)
      | (clear s7; go_at_call 19; refine (ux_same hL7.below slY7 slF7 rfl).mono ?_; rintro e w8 ⟨rfl, hb8, hc8⟩; have hL8 := hL7.step hc8; have slF8 := slF7.below hc8 (Nat.le_refl _); have slX8 := slX7.below hc8 (Nat.le_refl _); clear hL7 slF7 slX7 slY7 hc7 hb8 hc8; have s8 := True.intro)
      | (clear s8; go_at_call 48; refine (rseal_any key hk a1 _ k1 F _ slF8 (by omega)).mono ?_; rw [HX.out]; rintro e w9 ⟨a9, k9, rfl, o9, hb9⟩; have hL9 := hL8.step hb9; have slF9 := slF8.below hb9 (Nat.le_refl _); have slX9 := slX8.below hb9 (Nat.le_refl _); clear hL8 slF8 slX8 hb9; have s9 := True.intro)
      | (clear s9; go_at_call 19; refine (ux_same hL9.below slX9 o9.sl rfl).mono ?_; rintro e w10 ⟨rfl, hb10, hc10⟩; have hL10 := hL9.step hc10; have slF10 := slF9.below hc10 (Nat.le_refl _); have slX10 := slX9.below hc10 (Nat.le_refl _); clear hL9 slF9 slX9 o9 hb10 hc10; have s10 := True.intro)
      | (clear s10; go_at_call 44; refine (few2_any a2 _ k2 X X.length _ slX10 (by omega)).mono ?_; rw [List.take_length]; rintro e w11 ⟨a11, k11, rfl, o11, hb11⟩; have s11 := True.intro))
    obtain ⟨g, cap, hg, _, _⟩ := World.ownsRow.form o11 (by omega)
    obtain ⟨rfl, rfl⟩ : a11 = some ⟨g, 0, none⟩ ∧ k11 = cap := by injection hg with x y z; exact ⟨x, z⟩
    clear hg
    obtain ⟨hc11, hf11, hB11, hset⟩ := own_set o11 HX0.out
    have oB := hset vb
    have hbB : Below w10.heap.size w10 (w11.setCell ⟨g, K, none⟩ (.int .u8 (vb.toNat : Int))) := hb11.setCell (p := ⟨g, K, none⟩) hB11 _
    have s12 := True.intro
    go_upto_region 13 with (first
      | (clear s12; go_at_call 45; refine (around_any at' (X.length : Int) hat (by omega) _).mono ?_; rw [hKa]; rintro e w12 ⟨rfl, rfl⟩; have s13 := True.intro))
    generalize w12.setCell ⟨g, K, none⟩ (.int .u8 (vb.toNat : Int)) = wB at oB hbB ⊢
    clear hset hc11 hf11 hb11 o11
    have hLB := hL10.step hbB
    have slFB := slF10.below hbB (Nat.le_refl _)
    have slXB := slX10.below hbB (Nat.le_refl _)
    have slB := oB.sl
    rw [List.length_set] at slB
    clear hL10 slF10 slX10 hbB oB
    obtain ⟨N1, hN1⟩ : ∃ N1 : Nat, (X.length : Int) - 1 = (N1 : Int) := ⟨X.length - 1, by omega⟩
    have hw1 : IntKind.i64.wrap ((X.length : Int) - 1) = (N1 : Int) := by rw [hN1]; exact IntWalk.i64_in _ (by omega)
    have hN1X : N1 ≤ X.length := by omega
    have HN1 := Lib.hid hN1
    have slT := slv_take slXB hN1X
    have hk2 : X.length ≤ k2 := slXB.le
    have hTl : (X.take N1).length = N1 := by rw [List.length_take]; omega
    have HTl := Lib.hid hTl
    clear hN1 hTl
    go_cut [21] (fun v wx => ∃ gg, v = .slice (some ⟨gg, 0, none⟩) 6 6 ∧ SlR wx (some ⟨gg, 0, none⟩) 6 6 [X.set K vb, X.take N1, F, X, [], X ++ [vb]] ∧ Below wB.heap.size wB wx)
    case first =>
      have k0 : Below wB.heap.size wB wB.drew := (Below.refl _ _).drew
      have kA := k0.alloc (Nat.le_refl _) (.cells #[bv vb] 5)
      have slX0 := slXB.below k0 (Nat.le_refl _)
      have slX1 := slXB.below kA (Nat.le_refl _)
      obtain ⟨i, hi, hz0, hz1, hz2⟩ := info_parts Try.info5
      have hszd : wB.drew.heap.size = wB.heap.size := rfl
      go_region_held_law (fun _ => True) (exact trivial) (first
        | (go_at_call 44; refine (few2_any a2 X.length k2 X X.length _ (by first | exact slX0 | exact slX1) (by omega)).mono ?_; rw [List.take_length]; rintro e y1 ⟨e1, f1, rfl, p1, q1⟩; have m1 : Below wB.heap.size wB y1 := (by first | exact k0.trans q1 | exact kA.trans (q1.mono kA.size)); have p1' : y1.ownsRow wB.heap.size 5 1 (.slice e1 X.length f1) X.length (bvs X) := ownsRow_base p1 (by first | exact k0.size | exact kA.size))
        | (refine step_append_lies _ rfl (.tmp 128) (.tmp 130) 28 rfl wB.heap.size 5 i (.int .u8 0) 1 1 Try.underlying28 hi hz0 hz1 hz2 rfl (by decide) _ X.length (bvs X) rfl (p1'.alloc _) ⟨y1.heap.size, 0, none⟩ 1 1 [bv vb] rfl rfl ((sl_new y1 _ _).cell _ rfl) (by intro u hu; simp at hu; subst hu; rfl) (by decide) (by unfold maxLen; omega) (by omega) (by have := m1.size; simp; omega) _ rfl ?_; intro g4 f4 y4 p4 q4 at4 lt4; have p5 : SlV y4 (some ⟨g4, 0, none⟩) (X.length + 1) f4 1 (bvs (X ++ [vb])) := (by rw [bvs_append]; exact ownsRow_sl p4); have m4 : Below wB.heap.size wB y4 := (m1.alloc m1.size _).trans (grown_below (p1'.alloc _) q4 (by have := m1.size; simp; omega)))
        | (refine step_append_lies _ rfl (.tmp 128) (.tmp 130) 28 rfl wB.heap.size 5 i (.int .u8 0) 1 1 Try.underlying28 hi hz0 hz1 hz2 rfl (by decide) _ X.length (bvs X) rfl p1' ⟨wB.heap.size, 0, none⟩ 1 1 [bv vb] rfl rfl (((sl_new wB.drew _ _).below q1 (Nat.le_refl _)).cell _ rfl) (by intro u hu; simp at hu; subst hu; rfl) (by decide) (by unfold maxLen; omega) (by omega) m1.size _ rfl ?_; intro g4 f4 y4 p4 q4 at4 lt4; have p5 : SlV y4 (some ⟨g4, 0, none⟩) (X.length + 1) f4 1 (bvs (X ++ [vb])) := (by rw [bvs_append]; exact ownsRow_sl p4); have m4 : Below wB.heap.size wB y4 := m1.trans (grown_below p1' q4 m1.size)))
      all_goals go_wp2_with fail
      all_goals go_meet
      all_goals exact ⟨_, rfl, lit_rows (RowsV.cons (slB.below m4 (Nat.le_refl _)).row (RowsV.cons (slT.below m4 (Nat.le_refl _)).row (RowsV.cons (slFB.below m4 (Nat.le_refl _)).row (RowsV.cons (slXB.below m4 (Nat.le_refl _)).row (RowsV.cons (sl_zero _ _ _).row (RowsV.cons p5.row (RowsV.nil _))))))) rfl rfl (by simp) rfl, m4.alloc m4.size _⟩
    case rest =>
      obtain ⟨gg, rfl, hR, hbR⟩ := hcut
      have hLR := hLB.step hbR
      clear hLB slFB slXB slB slT hbR
      have hkeys := lit_sl wc 51 #[.int .u64 (key : Int), .int .u64 (other : Int)] 2 1 [.int .u64 (key : Int), .int .u64 (other : Int)] rfl rfl (by unfold maxLen; omega)
      have hba := (Below.refl wc.heap.size wc).alloc (Nat.le_refl _) (.cells #[.int .u64 (key : Int), .int .u64 (other : Int)] 51)
      have hR2 := hR.below hba (Nat.le_refl _)
      have hL2 := hLR.step hba
      clear hR hLR hba
      go_upto_block 0 with fail
      generalize wc.alloc (.cells #[.int .u64 (key : Int), .int .u64 (other : Int)] 51) = W2 at hkeys hR2 hL2 ⊢
      have HK2 : ∀ t, t < 2 → ∃ kt : Nat, kt < 18446744073709551616 ∧ W2.cell? ⟨wc.heap.size, t, none⟩ = some (.int .u64 (kt : Int)) := fun t ht => by
        rcases Nat.lt_or_ge t 1 with h | h
        · obtain rfl : t = 0 := by omega
          exact ⟨key, hk, hkeys.cell _ rfl 0 _ rfl⟩
        · obtain rfl : t = 1 := by omega
          exact ⟨other, hk2', hkeys.cell _ rfl 1 _ rfl⟩
      have HRR : ∀ q, q < 6 → ∃ (l : List UInt8) (b : Option Addr) (cb : Nat), l.length ≤ 100 ∧ W2.cell? ⟨gg, q, none⟩ = some (.slice b l.length cb) ∧ SlV W2 b l.length cb 1 (bvs l) := fun q hq => by
        have hlen := hR2.len
        obtain ⟨l, hl⟩ : ∃ l, [X.set K vb, X.take N1, F, X, [], X ++ [vb]][q]? = some l := ⟨_, List.getElem?_eq_getElem (by simpa using hq)⟩
        obtain ⟨b, cb, h1, h2⟩ := hR2.at hl
        refine ⟨l, b, cb, ?_, by simpa [Addr.add_lit] using h1, h2⟩
        have hm := List.mem_of_getElem? hl
        simp only [List.mem_cons, List.not_mem_nil, or_false] at hm
        rcases hm with rfl | rfl | rfl | rfl | rfl | rfl
        · rw [List.length_set]; omega
        · rw [List.length_take]; omega
        · omega
        · omega
        · simp
        · simp; omega
      have HK3 := Lib.hid HK2
      have HR3 := Lib.hid HRR
      clear HK2 HRR hR2 hkeys
      go_wp2_with fail
      go_loopw [23, 24, 25, 26, 27, 28] (fun i _ _ _ _ _ wx => ∃ q : Nat, q ≤ 6 ∧ i = .int .i64 q ∧ Below W2.heap.size W2 wx) (fun i _ _ _ _ _ _ => 6 - (intOf i).toNat)
      case atStart => exact ⟨0, by omega, rfl, Below.refl _ _⟩
      case round =>
        obtain ⟨q, hq, rfl, hbx⟩ := hrel
        by_cases hq6 : q < 6
        · obtain ⟨l, bb, cb, hll, hc1, hsl⟩ := HR3.out q hq6
          go_wp2_with fail
          rw [show decide ((q : Int) < 6) = true from by simp only [decide_eq_true_eq]; omega]
          go_loopw [24, 25, 26, 27, 28] (fun j _ _ _ _ wy => ∃ t : Nat, t ≤ 2 ∧ j = .int .i64 t ∧ Below W2.heap.size W2 wy) (fun j _ _ _ _ _ => 2 - (intOf j).toNat)
          case atStart => exact ⟨0, by omega, rfl, hbx⟩
          case round =>
            clear hbx
            obtain ⟨t, ht, rfl, hby⟩ := hrel
            by_cases ht2 : t < 2
            · obtain ⟨kt, hkt, hc2⟩ := HK3.out t ht2
              obtain ⟨m, er, hop⟩ : ∃ m er, openB kt l = (m, er) := ⟨_, _, rfl⟩
              have HOPN := Lib.hid hop
              clear hop
              have hS : ∀ w' : World, Below W2.heap.size W2 w' → w'.cell? ⟨wc.heap.size, t, none⟩ = some (.int .u64 (kt : Int)) ∧ w'.cell? ⟨gg, q, none⟩ = some (.slice bb l.length cb) := fun w' h => ⟨cell_later h hc2, cell_later h hc1⟩
              have slr := hsl.below hby (Nat.le_refl _)
              have k0 : Below W2.heap.size W2 wr.drew := hby.drew
              have hsl0 := hsl.below k0 (Nat.le_refl _)
              go_wp2_with fail
              go_region_held (fun w' => w'.cell? ⟨wc.heap.size, t, none⟩ = some (.int .u64 (kt : Int)) ∧ w'.cell? ⟨gg, q, none⟩ = some (.slice bb l.length cb)) (first | exact hS _ k1 | exact hS _ k0) (first
                | (go_at_call 46; refine (lopen_any kt hkt bb _ cb l _ hsl0 (by omega) m er HOPN.out).mono ?_; rintro e y1 ⟨e1, f1, rfl, p1, q1⟩; have k1 := k0.trans (q1.mono k0.size)))
              go_upto_region 22 with fail
              have k2' : Below W2.heap.size W2 y1.drew := k1.drew
              have hsl1 := hsl.below k2' (Nat.le_refl _)
              go_region_held (fun w' => w'.cell? ⟨wc.heap.size, t, none⟩ = some (.int .u64 (kt : Int)) ∧ w'.cell? ⟨gg, q, none⟩ = some (.slice bb l.length cb)) (first | exact hS _ k3' | exact hS _ k2') (first
                | (go_at_call 63; refine (ropen_any kt hkt bb _ cb l _ hsl1 (by omega) m er HOPN.out).mono ?_; rintro e y2 ⟨e2, f2, rfl, p2, q2⟩; have k3' := k2'.trans (q2.mono k2'.size)))
              have herr : (er != er) = false := by simp
              have p1' := p1.below (below_of_drew q2) (Nat.le_refl _)
              have hLy := hL2.step k3'
              have s20 := True.intro
              go_wp2_with (first
                | (clear s20; go_at_call 19; refine (ux_same hLy.below p1' p2 rfl).mono ?_; rintro e y3 ⟨rfl, hby3, hcy3⟩; have s21 := True.intro))
              go_roundw
              case rel => exact ⟨t + 1, by omega, by go_num, k3'.trans (hcy3.mono k3'.size)⟩
              case measure => simp [intOf]; omega
            · obtain rfl : t = 2 := by omega
              go_wp2_with fail
              go_roundw
              case rel => exact ⟨q + 1, by omega, by go_num, hby⟩
              case measure => simp [intOf]; omega
        · obtain rfl : q = 6 := by omega
          have hLx := hL2.step hbx
          have s22 := True.intro
          go_wp2_with (first
            | (clear s22; go_at_call 53; refine (lives_any _).mono ?_; rintro e y9 ⟨rfl, hb9⟩; have hL9 := hLx.step hb9; have s23 := True.intro))
          go_ret
          exact ⟨rfl, hL9.below⟩

theorem law14 (W : World) (key : Nat) (hk : key < 18446744073709551616) (other : Nat) (hk2 : other < 18446744073709551616) (ao : Option Addr) (n c : Nat) (b : List UInt8) (hr : SlV W ao n c 1 (bvs b)) (at' : Int) (hat : InR at') (v : Nat) (hv : v < 256) :
    Calls Try.prog 14 #[.int .u64 (key : Int), .int .u64 (other : Int), .slice ao n c, .int .i64 at', .int .u8 (v : Int)] W (fun e w' => e = .returned (.bool true) ∧ Below W.heap.size W w' ∧ True) := by
  have e : (v : Int) = ((UInt8.ofNat v).toNat : Int) := by rw [UInt8.toNat_ofNat', Nat.mod_eq_of_lt hv]
  rw [e]
  exact (l14_any W key other hk hk2 ao n c b hr at' hat (UInt8.ofNat v)).mono fun _ _ h => ⟨h.1, h.2, trivial⟩

end Go.Proofs.Ytcpemgfpiapaaaa
