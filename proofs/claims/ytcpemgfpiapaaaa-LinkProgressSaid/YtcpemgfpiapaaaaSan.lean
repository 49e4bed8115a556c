/- The examples that every law of layer 1 checks hold. -/
import Derived.Test.YtcpemgfpiapaaaaSanA
namespace Go.Proofs.Ytcpemgfpiapaaaa
open Go.RowKit

set_option maxHeartbeats 2000000 in
set_option maxRecDepth 100000 in
theorem sanity_ok (w : World) : Calls Try.prog 18 #[] w (fun e w' => e = .returned (.bool true) ∧ Below w.heap.size w w') := by
  have hb := Below.refl w.heap.size w
  have s0 := True.intro
  go_enter Try.func18, Try.ntmps18
  dsimp only [List.append]
  go_wp2_with (first
    | (clear s0; go_at_call 30; refine (sx_int hb [130, 1, 0, 9] 256 3 0 (kI := 3) rfl rfl rfl (by decide) (by decide +kernel)).mono ?_; rintro e w1 ⟨rfl, hb1, hk⟩; replace hb := hb1; clear hb1; clear hk; have s1 := True.intro)
    | (clear s1; go_at_call 30; refine (sx_int hb [130, 1] 0 0 3 (kI := 0) rfl rfl rfl (by decide) (by decide +kernel)).mono ?_; rintro e w1 ⟨rfl, hb1, hk⟩; replace hb := hb1; clear hb1; clear hk; have s2 := True.intro)
    | (clear s2; go_at_call 30; refine (sx_int hb [129, 0] 0 0 2 (kI := 0) rfl rfl rfl (by decide) (by decide +kernel)).mono ?_; rintro e w1 ⟨rfl, hb1, hk⟩; replace hb := hb1; clear hb1; clear hk; have s3 := True.intro)
    | (clear s3; go_at_call 32; refine (sx_bytes hb [129, 2, 97, 98, 7] ⟨#[97, 98]⟩ 4 0 (kI := 4) rfl rfl rfl (by decide) (by decide +kernel)).mono ?_; rintro e w1 ⟨rfl, hb1, hk⟩; replace hb := hb1; clear hb1; clear hk; have s4 := True.intro)
    | (clear s4; go_at_call 34; refine (sx_ints hb [129, 2, 129, 1, 127] [1, -1] 5 0 (kI := 5) rfl rfl rfl (by decide) (by decide +kernel) (m := 2) rfl).mono ?_; rintro e w1 ⟨la, lc, rfl, hl, hb1, hk⟩; replace hb := hb1; clear hb1; clear hk; have s5 := True.intro)
    | (clear s5; go_at_call 28; refine (sx_encdig hb [1, 2, 0, 0, 0, 0, 0, 0, 0, 0, 0, 0, 0, 0, 0, 0] [129, 1, 1, 2, 0, 0, 0, 0, 0, 0, 0, 0, 0, 0, 0, 0, 0, 0] rfl rfl (n := 18) rfl (by decide) (by decide +kernel)).mono ?_; rintro e w1 ⟨sa, sc, rfl, hs, hd, hb1, hk⟩; replace hb := hb1; clear hb1; replace hl := hl.below hk (Nat.le_refl _); clear hk; have s6 := True.intro)
    | (clear s6; go_at_call 40; refine (sx_getdigs hb [129, 1, 1, 2, 0, 0, 0, 0, 0, 0, 0, 0, 0, 0, 0, 0, 0, 0] hs [[1, 2, 0, 0, 0, 0, 0, 0, 0, 0, 0, 0, 0, 0, 0, 0]] 18 0 (kI := 18) rfl (by decide) (by decide +kernel) (m := 1) rfl).mono ?_; rintro e w1 ⟨xa, xc, rfl, hx, hb1, hk⟩; replace hb := hb1; clear hb1; replace hl := hl.below hk (Nat.le_refl _); replace hd := hd.below hk (Nat.le_refl _); clear hk; have s7 := True.intro)
    | (clear s7; go_at_call 37; refine (sx_strs hb [129, 2, 128, 129, 1, 97, 5] [⟨#[]⟩, ⟨#[97]⟩] 6 0 (kI := 6) rfl rfl rfl (by decide) (by decide +kernel) (m := 2) rfl).mono ?_; rintro e w1 ⟨ya, yc, rfl, hy, hb1, hk⟩; replace hb := hb1; clear hb1; replace hl := hl.below hk (Nat.le_refl _); replace hd := hd.below hk (Nat.le_refl _); replace hx := hx.below hk (Nat.le_refl _); clear hk; have s8 := True.intro)
    | (clear s8; go_at_call 39; refine (sx_sametexts hb [⟨#[]⟩, ⟨#[97]⟩] hy rfl rfl (by decide)).mono ?_; rintro e w1 ⟨rfl, hb1, hk⟩; replace hb := hb1; clear hb1; replace hl := hl.below hk (Nat.le_refl _); replace hd := hd.below hk (Nat.le_refl _); replace hx := hx.below hk (Nat.le_refl _); clear hk; have s9 := True.intro)
    | (clear s9; go_at_call 26; refine (sx_encstrs hb [⟨#[]⟩, ⟨#[97]⟩] [129, 2, 128, 129, 1, 97] rfl rfl (by decide) (n := 6) rfl (by decide) (by decide +kernel)).mono ?_; rintro e w1 ⟨sa, sc, rfl, hs, hb1, hk⟩; replace hb := hb1; clear hb1; replace hl := hl.below hk (Nat.le_refl _); replace hd := hd.below hk (Nat.le_refl _); replace hx := hx.below hk (Nat.le_refl _); clear hk; have s10 := True.intro)
    | (clear s10; go_at_call 19; refine (sx_same hb [129, 2, 128, 129, 1, 97] hs rfl rfl (by decide)).mono ?_; rintro e w1 ⟨rfl, hb1, hk⟩; replace hb := hb1; clear hb1; replace hl := hl.below hk (Nat.le_refl _); replace hd := hd.below hk (Nat.le_refl _); replace hx := hx.below hk (Nat.le_refl _); clear hk; have s11 := True.intro)
    | (clear s11; go_at_call 20; refine (sx_encint hb (-257) [125, 254, 255] (n := 3) rfl (by decide) (by decide) (by decide +kernel)).mono ?_; rintro e w1 ⟨sa, sc, rfl, hs, hb1, hk⟩; replace hb := hb1; clear hb1; replace hl := hl.below hk (Nat.le_refl _); replace hd := hd.below hk (Nat.le_refl _); replace hx := hx.below hk (Nat.le_refl _); clear hk; have s12 := True.intro)
    | (clear s12; go_at_call 19; refine (sx_same hb [125, 254, 255] hs rfl rfl (by decide)).mono ?_; rintro e w1 ⟨rfl, hb1, hk⟩; replace hb := hb1; clear hb1; replace hl := hl.below hk (Nat.le_refl _); replace hd := hd.below hk (Nat.le_refl _); replace hx := hx.below hk (Nat.le_refl _); clear hk; have s13 := True.intro)
    | (clear s13; go_at_call 36; refine (sx_sameints hb [1, -1] hl rfl rfl (by decide)).mono ?_; rintro e w1 ⟨rfl, hb1, hk⟩; replace hb := hb1; clear hb1; replace hl := hl.below hk (Nat.le_refl _); replace hd := hd.below hk (Nat.le_refl _); replace hx := hx.below hk (Nat.le_refl _); clear hk; have s14 := True.intro)
    | (clear s14; go_at_call 22; refine (sx_encbytes hb ⟨#[97, 98]⟩ [129, 2, 97, 98] (n := 4) rfl (by decide) (by decide +kernel)).mono ?_; rintro e w1 ⟨sa, sc, rfl, hs, hb1, hk⟩; replace hb := hb1; clear hb1; replace hd := hd.below hk (Nat.le_refl _); replace hx := hx.below hk (Nat.le_refl _); clear hk; have s15 := True.intro)
    | (clear s15; go_at_call 19; refine (sx_same hb [129, 2, 97, 98] hs rfl rfl (by decide)).mono ?_; rintro e w1 ⟨rfl, hb1, hk⟩; replace hb := hb1; clear hb1; replace hd := hd.below hk (Nat.le_refl _); replace hx := hx.below hk (Nat.le_refl _); clear hk; have s16 := True.intro)
    | (clear s16; go_at_call 24; refine (sx_encints hb [1, -1] [129, 2, 129, 1, 127] rfl rfl (by decide) (by unfold InR; simp) (n := 5) rfl (by decide) (by decide +kernel)).mono ?_; rintro e w1 ⟨sa, sc, rfl, hs, hb1, hk⟩; replace hb := hb1; clear hb1; replace hd := hd.below hk (Nat.le_refl _); replace hx := hx.below hk (Nat.le_refl _); clear hk; have s17 := True.intro)
    | (clear s17; go_at_call 19; refine (sx_same hb [129, 2, 129, 1, 127] hs rfl rfl (by decide)).mono ?_; rintro e w1 ⟨rfl, hb1, hk⟩; replace hb := hb1; clear hb1; replace hd := hd.below hk (Nat.le_refl _); replace hx := hx.below hk (Nat.le_refl _); clear hk; have s18 := True.intro)
    | (clear s18; refine ld_arr_g rfl (.tmp 16) rfl _ rfl [1, 2, 0, 0, 0, 0, 0, 0, 0, 0, 0, 0, 0, 0, 0, 0] rfl hd rfl ?_; have s19 := True.intro)
    | (clear s19; go_at_call 42; refine (sx_samedigs hb [[1, 2, 0, 0, 0, 0, 0, 0, 0, 0, 0, 0, 0, 0, 0, 0]] (by simp [Digs]) hx rfl rfl (by decide)).mono ?_; rintro e w1 ⟨rfl, hb1, hk⟩; replace hb := hb1; clear hb1; clear hk; have s20 := True.intro))
  go_ret
  exact ⟨rfl, hb⟩

end Go.Proofs.Ytcpemgfpiapaaaa

