/- WireIntRoundTrip: the walk. -/
import Derived.Test.YtcpemgfpiapaaaaApF
import Derived.Test.YtcpemgfpiapaaaaPure
namespace Go.Proofs.Ytcpemgfpiapaaaa
open Go.RowKit

theorem law8_big (x : Int) (ao : Option Addr) (n c : Nat) (w : World) (hn : 2000 < n) :
    Calls Try.prog 8 #[.int .i64 x, .slice ao n c] w (Nx w w (.bool true)) := by
  have hb := Below.refl w.heap.size w
  have s0 := True.intro
  go_enter Try.func8, Try.ntmps8
  go_wp2_with (first
    | (clear s0; go_at_call 18; refine (ux_san hb).mono ?_; rintro e w1 ⟨rfl, hb1, hk⟩; have s1 := True.intro))
  go_ret
  exact ⟨rfl, hb1, hk⟩

set_option maxRecDepth 100000 in
theorem law8_small (x : Int) (hx : InR x) (ao : Option Addr) (n c : Nat) (l : List UInt8) (w : World) (ht : SlV w ao n c 1 (bvs l)) (hn : n ≤ 2000) :
    Calls Try.prog 8 #[.int .i64 x, .slice ao n c] w (Nx w w (.bool true)) := by
  obtain ⟨E, hE⟩ : ∃ E, encInt x = E := ⟨_, rfl⟩
  have hx2 := dec_enc hx l
  have hlen := encInt_len x
  rw [hE] at hx2 hlen
  obtain ⟨L, hL⟩ : ∃ L, E.length = L := ⟨_, rfl⟩
  rw [hL] at hx2 hlen
  have HE := Lib.hid hE
  have HL := Lib.hid hL
  have HX := Lib.hid hx2
  have q1 : (1 : Int) ≤ (L : Int) := by omega
  have q9 : (L : Int) ≤ 9 := by omega
  clear hE hL hx2
  have hb := Below.refl w.heap.size w
  have s0 := True.intro
  go_enter Try.func8, Try.ntmps8
  go_wp2_with (first
    | (clear s0; go_at_call 20; refine (ux_int hb hx).mono ?_; rw [HE.out, HL.out]; rintro e w1 ⟨sa, sc, rfl, hs, hb1, hk⟩; replace ht := ht.below hk (Nat.le_refl _); replace hb := hb1; clear hb1 hk; have s1 := True.intro)
    | (clear s1; refine cut_to3 rfl 28 (.tmp 16) (.tmp 18) (.tmp 20) rfl 5 1 Try.underlying28 Try.size5 _ _ _ _ rfl hs rfl rfl ?_; intro ao2 hs2; have s2 := True.intro)
    | (clear s2; at_builtin; refine ap_full rfl (.tmp 21) (.tmp 22) rfl _ _ _ rfl hs2 _ _ _ _ rfl ht (by omega) ?_; intro ao3 cap3 w2 hs3 hk; obtain ⟨hb1, -⟩ := below_on hb hk; replace hb := hb1; clear hb1 hk; have s3 := True.intro)
    | (clear s3; go_at_call 30; refine (ux_getint hb hs3 HX.out).mono ?_; rintro e w1 ⟨rfl, hb1, hk⟩; replace hb := hb1; clear hb1 hk; have s4 := True.intro)
    | (clear s4; go_at_call 18; refine (ux_san hb).mono ?_; rintro e w1 ⟨rfl, hb1, hk⟩; replace hb := hb1; clear hb1 hk; have s5 := True.intro))
  go_ret
  exact ⟨rfl, hb, hb⟩

/-- WireIntRoundTrip returns true, and nothing that was there is changed. -/
theorem law8 (x : Int) (hx : InR x) (ao : Option Addr) (n c : Nat) (l : List UInt8) (w : World) (hr : SlV w ao n c 1 (bvs l)) : Calls Try.prog 8 #[.int .i64 x, .slice ao n c] w (Nx w w (.bool true)) := by
  by_cases hn : n ≤ 2000
  · exact law8_small x hx ao n c l w hr hn
  · exact law8_big x ao n c w (by omega)

end Go.Proofs.Ytcpemgfpiapaaaa
