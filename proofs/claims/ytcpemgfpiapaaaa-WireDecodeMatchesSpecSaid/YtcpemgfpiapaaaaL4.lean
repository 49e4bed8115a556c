/- WireDecodeMatchesSpec: the walk. -/
import Derived.Test.YtcpemgfpiapaaaaUse
import Derived.Test.YtcpemgfpiapaaaaPure
namespace Go.Proofs.Ytcpemgfpiapaaaa
open Go.RowKit

set_option maxRecDepth 100000 in
theorem law4_big (ao : Option Addr) (n c : Nat) (w : World) (hn : 2000 < n) :
    Calls Try.prog 4 #[.slice ao n c] w (Nx w w (.bool true)) := by
  have hb := Below.refl w.heap.size w
  have s0 := True.intro
  go_enter Try.func4, Try.ntmps4
  go_wp2_with (first
    | (clear s0; go_at_call 18; refine (ux_san hb).mono ?_; rintro e w1 ⟨rfl, hb1, hk⟩; have s1 := True.intro))
  go_ret
  exact ⟨rfl, hb1, hk⟩

set_option maxHeartbeats 2000000 in
set_option maxRecDepth 100000 in
theorem law4_small (ao : Option Addr) (n c : Nat) (l : List UInt8) (w : World) (hr : SlV w ao n c 1 (bvs l)) (hn : n ≤ 2000) :
    Calls Try.prog 4 #[.slice ao n c] w (Nx w w (.bool true)) := by
  obtain ⟨x1, k1, e1, h1⟩ : ∃ x k e, decInt l = (x, k, e) := ⟨_, _, _, rfl⟩
  obtain ⟨x2, k2, e2, h2⟩ : ∃ x k e, decBytes l = (x, k, e) := ⟨_, _, _, rfl⟩
  obtain ⟨x3, k3, e3, h3⟩ : ∃ x k e, decList 1 decInt l = (x, k, e) := ⟨_, _, _, rfl⟩
  obtain ⟨x4, k4, e4, h4⟩ : ∃ x k e, decList 1 decBytes l = (x, k, e) := ⟨_, _, _, rfl⟩
  obtain ⟨x5, k5, e5, h5⟩ : ∃ x k e, decList 16 decDig l = (x, k, e) := ⟨_, _, _, rfl⟩
  replace h1 := Lib.hid h1
  replace h2 := Lib.hid h2
  replace h3 := Lib.hid h3
  replace h4 := Lib.hid h4
  replace h5 := Lib.hid h5
  have hn' : n ≤ 1000000000000 := by omega
  have hb := Below.refl w.heap.size w
  have s0 := True.intro
  go_enter Try.func4, Try.ntmps4
  go_wp2_with (first
    | (clear s0; go_at_call 30; refine (ux_getint hb hr h1.out).mono ?_; rintro e w1 ⟨rfl, hb1, hk⟩; replace hr := hr.below hk (Nat.le_refl _); replace hb := hb1; clear hb1 hk; have s1 := True.intro)
    | (clear s1; go_at_call 31; refine (ux_rgetint hb hr h1.out).mono ?_; rintro e w1 ⟨rfl, hb1, hk⟩; replace hr := hr.below hk (Nat.le_refl _); replace hb := hb1; clear hb1 hk; have s2 := True.intro)
    | (clear s2; go_at_call 32; refine (ux_getbytes hb hr hn' h2.out).mono ?_; rintro e w1 ⟨rfl, hb1, hk⟩; replace hr := hr.below hk (Nat.le_refl _); replace hb := hb1; clear hb1 hk; have s3 := True.intro)
    | (clear s3; go_at_call 33; refine (ux_rgetbytes hb hr hn' h2.out).mono ?_; rintro e w1 ⟨rfl, hb1, hk⟩; replace hr := hr.below hk (Nat.le_refl _); replace hb := hb1; clear hb1 hk; have s4 := True.intro)
    | (clear s4; go_at_call 34; refine (ux_getints hb hr hn' h3.out).mono ?_; rintro e w1 ⟨ya, yc, rfl, hy, hb1, hk⟩; replace hr := hr.below hk (Nat.le_refl _); replace hb := hb1; clear hb1 hk; have s5 := True.intro)
    | (clear s5; go_at_call 35; refine (ux_rgetints hb hr hn' h3.out).mono ?_; rintro e w1 ⟨za, zc, rfl, hz, hb1, hk⟩; replace hr := hr.below hk (Nat.le_refl _); replace hy := hy.below hk (Nat.le_refl _); replace hb := hb1; clear hb1 hk; have s6 := True.intro)
    | (clear s6; go_at_call 36; refine (ux_sameints hb hy hz rfl).mono ?_; rintro e w1 ⟨rfl, hb1, hk⟩; replace hr := hr.below hk (Nat.le_refl _); replace hb := hb1; clear hb1 hk hy hz; have s7 := True.intro)
    | (clear s7; go_at_call 37; refine (ux_getstrs hb hr hn' h4.out).mono ?_; rintro e w1 ⟨ya, yc, rfl, hy, hb1, hk⟩; replace hr := hr.below hk (Nat.le_refl _); replace hb := hb1; clear hb1 hk; have s8 := True.intro)
    | (clear s8; go_at_call 38; refine (ux_rgetstrs hb hr hn' h4.out).mono ?_; rintro e w1 ⟨za, zc, rfl, hz, hb1, hk⟩; replace hr := hr.below hk (Nat.le_refl _); replace hy := hy.below hk (Nat.le_refl _); replace hb := hb1; clear hb1 hk; have s9 := True.intro)
    | (clear s9; go_at_call 39; refine (ux_sametexts hb hy hz rfl).mono ?_; rintro e w1 ⟨rfl, hb1, hk⟩; replace hr := hr.below hk (Nat.le_refl _); replace hb := hb1; clear hb1 hk hy hz; have s10 := True.intro)
    | (clear s10; go_at_call 40; refine (ux_getdigs hb hr hn' h5.out).mono ?_; rintro e w1 ⟨ya, yc, rfl, hy, hb1, hk⟩; replace hr := hr.below hk (Nat.le_refl _); replace hb := hb1; clear hb1 hk; have s11 := True.intro)
    | (clear s11; go_at_call 41; refine (ux_rgetdigs hb hr hn' h5.out).mono ?_; rintro e w1 ⟨za, zc, rfl, hz, hb1, hk⟩; replace hr := hr.below hk (Nat.le_refl _); replace hy := hy.below hk (Nat.le_refl _); replace hb := hb1; clear hb1 hk; have s12 := True.intro)
    | (clear s12; go_at_call 18; refine (ux_san hb).mono ?_; rintro e w1 ⟨rfl, hb1, hk⟩; replace hz := hz.below hk (Nat.le_refl _); replace hy := hy.below hk (Nat.le_refl _); replace hb := hb1; clear hb1 hk; have s13 := True.intro)
    | (clear s13; go_at_call 42; refine (ux_samedigs hb hy hz (digs_of h5.out) rfl).mono ?_; rintro e w1 ⟨rfl, hb1, hk⟩; replace hb := hb1; clear hb1 hk hy hz; have s14 := True.intro))
  go_ret
  exact ⟨rfl, hb, hb⟩

/-- WireDecodeMatchesSpec returns true, and nothing that was there is changed. -/
theorem law4 (ao : Option Addr) (n c : Nat) (l : List UInt8) (w : World) (hr : SlV w ao n c 1 (bvs l)) : Calls Try.prog 4 #[.slice ao n c] w (Nx w w (.bool true)) := by
  by_cases hn : n ≤ 2000
  · exact law4_small ao n c l w hr hn
  · exact law4_big ao n c w (by omega)

end Go.Proofs.Ytcpemgfpiapaaaa
