/- The example of the section lives. -/
import Derived.Test.YtcpemgfpiapaaaaLkI
namespace Go.Proofs.Ytcpemgfpiapaaaa
open Go.RowKit

theorem lvB1_wf : Wf lvB1 := ⟨⟨by decide, by decide⟩, by decide, by decide, by decide, by decide, by decide, by decide, fun q l h => by
  have h' : putH (fun _ => none) 2 [98] q = some l := h
  by_cases e : q = 2
  · subst e
    rw [putH_same] at h'
    cases h'
    exact ⟨by decide, by decide, by decide⟩
  · rw [putH_other _ e] at h'; cases h'⟩

theorem lvB2_none (q : Int) : delH (delH (putH (putH (fun _ => none) 2 [98]) 1 [97]) 1) 2 q = none := by
  by_cases e : q = 2
  · subst e; rw [delH_same]
  · rw [delH_other _ e]
    by_cases e1 : q = 1
    · subst e1; rw [delH_same]
    · rw [delH_other _ e1, putH_other _ e1, putH_other _ e]

theorem lvB2_wf : Wf lvB2 := ⟨⟨by decide, by decide⟩, by decide, by decide, by decide, by decide, by decide, by decide, fun q l h => by
  have h' : delH (delH (putH (putH (fun _ => none) 2 [98]) 1 [97]) 1) 2 q = some l := h
  rw [lvB2_none] at h'
  cases h'⟩

theorem lvP_len (seq ack : Int) (l : List UInt8) (h : l.length ≤ 10) : (lvP seq ack l).length ≤ 1000 := by
  unfold lvP
  have := pkt_len seq ack l
  rw [sealB_length]
  omega

set_option maxRecDepth 100000 in
set_option maxHeartbeats 4000000 in
theorem lives_any (W : World) : Calls Try.prog 53 #[] W (fun e w' => e = .returned (.bool true) ∧ Below W.heap.size W w') := by
  have hL0 := LS.start W
  have kc := fun (w : World) (C : Array Value) (n c : Nat) => Lib.run_convert_bytes_const (P := Try.prog) w 28 5 C n c Try.underlying28 Try.underlying5
  have fw : (lvA4.waiting.length : Int) = 1 := rfl
  have ff : (lvA4.forged : Int) = 0 := rfl
  have s0 := True.intro
  go_enter Try.func53, Try.ntmps53
  go_wp2_with (first
    | (clear s0; go_at_call 47; refine (lx_new hL0 1 2 9 (by decide) (by decide) (by decide)).mono ?_; rintro e w1 ⟨c1, pa, rfl, hL1, st1, hA1⟩; have s1 := True.intro)
    | (clear s1; go_at_call 47; refine (lx_new hL1 2 2 9 (by decide) (by decide) (by decide)).mono ?_; rintro e w2 ⟨c2, pb, rfl, hL2, st2, hB2⟩; have hA2 := hA1.stp st2 (by decide) (by decide); clear hL0 hL1 st1 st2 hA1; have s2 := True.intro)
    | (clear s2; go_at_call 54; refine (lx_sendc hL2 (by decide) hA2 97).mono ?_; rintro e w3 ⟨c3, hL3, st3, hA3, rfl⟩; rw [lv_s1] at hA3; have hB3 := hB2.stp st3 (by decide) (by decide); clear hL2 st3 hA2 hB2; have s3 := True.intro)
    | (clear s3; go_at_call 54; refine (lx_sendc hL3 (by decide) hA3 98).mono ?_; rintro e w4 ⟨c4, hL4, st4, hA4, rfl⟩; rw [lv_s2] at hA4; have hB4 := hB3.stp st4 (by decide) (by decide); clear hL3 st4 hA3 hB3; have s4 := True.intro)
    | (clear s4; go_at_call 54; refine (lx_sendc hL4 (by decide) hA4 99).mono ?_; rintro e w5 ⟨c5, hL5, st5, hA5, rfl⟩; rw [lv_s3] at hA5; have hB5 := hB4.stp st5 (by decide) (by decide); clear hL4 st5 hA4 hB4; have s5 := True.intro)
    | (clear s5; go_at_call 51; refine (lx_out hL5 (by decide) hA5 lvA_wf).mono ?_; rintro e w6 ⟨c6, v6, hL6, st6, hA6, hP6, rfl⟩; rw [lv_out1] at hP6; rw [lv_out1m] at hA6; have hB6 := hB5.stp st6 (by decide) (by decide); clear hL5 st6 hA5 hB5; obtain ⟨ao6, cap6, rfl⟩ := hP6.len (n := 2) rfl; obtain ⟨a6, rfl⟩ := hP6.some (by decide); obtain ⟨b61, cb61, z61, sl61, _⟩ := hP6.get (j := 1) rfl; have z61' : w6.cell? ⟨a6.block, a6.off + 1, none⟩ = some (.slice b61 (lvP 2 0 [98]).length cb61) := z61; clear z61; have s6 := True.intro)
    | (clear s6; go_at_call 50; refine (lx_in hL6 (by decide) hB6 (newM_wf (by decide) (by decide) (by decide)) (by decide) sl61 (by have := lvP_len 2 0 [98] (by decide); omega) lv_in1).mono ?_; rintro e w7 ⟨c7, v7, hL7, st7, hB7, hX7, rfl⟩; have hA7 := hA6.stp st7 (by decide) (by decide); have hP7 := hP6.stp st7 (by decide); clear hL6 st7 hA6 hB6 hP6 z61' sl61; obtain ⟨ao7, cap7, rfl⟩ := hX7.len (n := 0) rfl; clear hX7; obtain ⟨b70, cb70, z70, sl70, _⟩ := hP7.get (j := 0) rfl; have z70' : w7.cell? a6 = some (.slice b70 (lvP 1 0 [97]).length cb70) := z70; clear z70; have s7 := True.intro)
    | (clear s7; go_at_call 50; refine (lx_in hL7 (by decide) hB7 lvB1_wf (by decide) sl70 (by have := lvP_len 1 0 [97] (by decide); omega) lv_in2).mono ?_; rintro e w8 ⟨c8, v8, hL8, st8, hB8, hY8, rfl⟩; have hA8 := hA7.stp st8 (by decide) (by decide); clear hL7 st8 hA7 hB7 hP7 z70' sl70; obtain ⟨ao8, cap8, rfl⟩ := hY8.len (n := 2) rfl; obtain ⟨a8, rfl⟩ := hY8.some (by decide); have s8 := True.intro)
    | (clear s8; go_at_call 51; refine (lx_out hL8 (by decide) hB8 lvB2_wf).mono ?_; rintro e w9 ⟨c9, v9, hL9, st9, hB9, hQ9, rfl⟩; rw [lv_out2] at hQ9; have hA9 := hA8.stp st9 (by decide) (by decide); have hY9 := hY8.stp st9 (by decide); clear hL8 st9 hA8 hB8 hY8; obtain ⟨ao9, cap9, rfl⟩ := hQ9.len (n := 1) rfl; obtain ⟨a9, rfl⟩ := hQ9.some (by decide); obtain ⟨b91, cb91, z91, sl91, _⟩ := hY9.get (j := 1) rfl; have z91' : w9.cell? ⟨a8.block, a8.off + 1, none⟩ = some (.slice b91 1 cb91) := z91; have cv91 : (convert 28 9 (.slice b91 1 cb91)).run Try.prog w9 = .ok (.string ⟨#[98]⟩) w9 := cv_run sl91; obtain ⟨b90, cb90, z90, sl90, _⟩ := hQ9.get (j := 0) rfl; have z90' : w9.cell? a9 = some (.slice b90 (lvP 0 2 []).length cb90) := z90; clear z90 z91; have s9 := True.intro)
    | (clear s9; go_at_call 50; refine (lx_in hL9 (by decide) hA9 lvA_wf (by decide) sl90 (by have := lvP_len 0 2 [] (by decide); omega) lv_in3).mono ?_; rintro e w10 ⟨c10, v10, hL10, st10, hA10, hX10, rfl⟩; clear hL9 st10 hA9 hB9 hQ9 z90' sl90 hX10 cv91 z91' hY9 sl91; have s10 := True.intro)
    | (clear s10; go_at_call 51; refine (lx_out hL10 (by decide) hA10 lvA4_wf).mono ?_; rintro e w11 ⟨c11, v11, hL11, st11, hA11, hP11, rfl⟩; rw [lv_out3] at hP11; rw [lv_out3m] at hA11; clear hL10 st11 hA10; obtain ⟨ao11, cap11, rfl⟩ := hP11.len (n := 1) rfl; obtain ⟨a11, rfl⟩ := hP11.some (by decide); have hb11 := (Below.refl w11.heap.size w11).alloc (Nat.le_refl _) (.cells #[bv 99] 5 (1, 2)); have s11 := True.intro)
    | (clear s11; go_at_call 49; refine (rpkt_any 3 0 (by unfold InR; omega) (by unfold InR; omega) _ 1 1 [99] _ (sl_newf w11 (bv 99) 5 (1, 2)) (by decide)).mono ?_; rintro e w12 ⟨a12, k12, rfl, o12, hb12⟩; have s12 := True.intro)
    | (clear s12; go_at_call 48; refine (rseal_any 9 (by decide) _ _ _ (pktB 3 0 [99]) _ o12.sl (by have := pkt_len 3 0 [99]; simp at this; omega)).mono ?_; rintro e w13 ⟨a13, k13, rfl, o13, hb13⟩; have hb := hb11.trans ((hb12.mono hb11.size).trans (hb13.mono (Nat.le_trans hb11.size hb12.size))); have hL13 := hL11.step hb; have hA13 := hA11.below hL11.fr hb; have hP13 := hP11.step hL11.fr hb; clear hL11 hA11 hP11 hb11 hb12 hb13 o12 hb; obtain ⟨b13, cb13, z13, sl13, _⟩ := hP13.get (j := 0) rfl; have z13' : w13.cell? a11 = some (.slice b13 (lvP 3 0 [99]).length cb13) := z13; clear z13; have s13 := True.intro)
    | (clear s13; go_at_call 19; refine (ux_same hL13.below sl13 o13.sl rfl).mono ?_; rintro e w14 ⟨rfl, hb14, hc14⟩; have hL14 := hL13.step hc14; have hA14 := hA13.below hL13.fr hc14; have s14 := True.intro)
    | (clear s14; go_at_call 56; refine (waiting_any _ 1 pa _ _ hA14).mono ?_; rintro e w15 ⟨rfl, rfl⟩; have s15 := True.intro)
    | (clear s15; go_at_call 52; refine (forged_any _ 1 pa _ _ hA14).mono ?_; rintro e w16 ⟨rfl, rfl⟩; have s16 := True.intro))
  go_ret
  exact ⟨rfl, hL14.below⟩

end Go.Proofs.Ytcpemgfpiapaaaa
