/- LinkProgress. -/
import Derived.Test.YtcpemgfpiapaaaaPrC
namespace Go.Proofs.Ytcpemgfpiapaaaa
open Go.RowKit

set_option maxRecDepth 100000 in
set_option maxHeartbeats 4000000 in
theorem l16_any (W : World) (win : Int) (hw : InR win) (key : Nat) (hk : key < 18446744073709551616) (one two lost : Int) (h1r : InR one) (h2r : InR two) (h3r : InR lost) :
    Calls Try.prog 16 #[.int .i64 win, .int .u64 (key : Int), .int .i64 one, .int .i64 two, .int .i64 lost] W (fun e w' => e = .returned (.bool true) ∧ Below W.heap.size W w') := by
  obtain ⟨a0, h0, h0'⟩ := around_K (at' := win) (n := 16) (by omega)
  obtain ⟨a1, h1, h1'⟩ := around_K (at' := win.tdiv 16) (n := 16) (by omega)
  obtain ⟨n0, hn0, hn0'⟩ := around_K (at' := one) (n := 31) (by omega)
  obtain ⟨n1, hn1, hn1'⟩ := around_K (at' := two) (n := 31) (by omega)
  obtain ⟨L, hL5, hL5'⟩ := around_K (at' := lost) (n := 5) (by omega)
  have h0e : around win 16 = (a0 : Int) := h0'
  have h1e : around (win.tdiv 16) 16 = (a1 : Int) := h1'
  have n0e : around one 31 = (n0 : Int) := hn0'
  have n1e : around two 31 = (n1 : Int) := hn1'
  have L5e : around lost 5 = (L : Int) := hL5'
  clear h0' h1' hn0' hn1' hL5'
  have qN : ∀ (w : World) (a : Option Addr) (l c : Nat), (binOp .eql 76 (.slice a l c) (.slice none 0 0)).run Try.prog w = .ok (.bool a.isNone) w := fun w a l c => Lib.run_eql_slice_nil w 76 57 a l c 0 0 Try.underlying76
  have s0 := True.intro
  go_enter Try.func16, Try.ntmps16
  go_upto_region 5 with (first
    | (clear s0; go_at_call 58; refine (ends_any _ win hw key a0 a1 h0e h1e h0 h1).mono ?_; rintro e w1 ⟨c1, eb, p0, p1, rfl, hL1, hA1, hB1, hce, hEB⟩; have s1 := True.intro)
    | (clear s1; go_at_call 45; refine (around_any one 31 h1r (by omega) _).mono ?_; rw [n0e]; rintro e w2 ⟨rfl, rfl⟩; have s2 := True.intro)
    | (clear s2; go_at_call 45; refine (around_any two 31 h2r (by omega) _).mono ?_; rw [n1e]; rintro e w3 ⟨rfl, rfl⟩; have s3 := True.intro))
  have hRS := pr_start (n0 := n0) (n1 := n1) hL1 hA1 hB1 hce hEB
  generalize w3.alloc (Obj.cells #[Value.int IntKind.i64 (n0 : Int), Value.int IntKind.i64 (n1 : Int)] 3) = W5 at hRS ⊢
  generalize (fun j : Nat => if j = 0 then p0 else p1) = p at hRS
  generalize w3.heap.size = mb at hRS ⊢
  have hwn : ∀ j : Nat, j < 2 → 1 ≤ 1 + (if j = 0 then a0 else a1) ∧ 1 + (if j = 0 then a0 else a1) ≤ 16 := fun j hj => ⟨by omega, by split <;> omega⟩
  have hQ : ∀ j : Nat, j < 2 → (if j = 0 then n0 else n1) ≤ 31 := fun j hj => by split <;> omega
  have hRS2 : PrS W W5 c1 eb mb p (fun j => wM (1 + if j = 0 then a0 else a1) key (if j < 0 then (if j = 0 then n0 else n1) else 0)) (fun j => if j = 0 then n0 else n1) := hRS.congr (fun j hj => rfl)
  obtain ⟨wn, hwn'⟩ : ∃ wn : Nat → Nat, wn = fun j => 1 + if j = 0 then a0 else a1 := ⟨_, rfl⟩
  obtain ⟨Q, hQ'⟩ : ∃ Q : Nat → Nat, Q = fun j => if j = 0 then n0 else n1 := ⟨_, rfl⟩
  have HWN : Hid (∀ j, j < 2 → 1 ≤ wn j ∧ wn j ≤ 16) := Lib.hid (by rw [hwn']; exact hwn)
  have HQ : Hid (∀ j, j < 2 → Q j ≤ 31) := Lib.hid (by rw [hQ']; exact hQ)
  have HS1 : Hid (PrS W W5 c1 eb mb p (fun j => wM (wn j) key (if j < 0 then Q j else 0)) Q) := Lib.hid (by rw [hwn', hQ']; exact hRS2)
  clear hRS hRS2 hwn hQ hwn' hQ' hL1 hA1 hB1 hce hEB h0e h1e n0e n1e h0 h1 hn0 hn1
  go_wp2_with fail
  go_loopw [13, 14] (fun k _ wx => ∃ (t : Nat) (c : Nat → Nat), t ≤ 2 ∧ k = .int .i64 t ∧ Hid (PrS W wx c eb mb p (fun j => wM (wn j) key (if j < t then Q j else 0)) Q)) (fun k _ _ => 2 - (intOf k).toNat)
  case atStart => exact ⟨0, c1, by omega, rfl, HS1⟩
  case round =>
    clear HS1
    obtain ⟨t, c, ht, rfl, hS⟩ := hrel
    by_cases ht2 : t < 2
    · as_aux_lemma =>
        have hQt := HQ.out t ht2
        have hwt := HWN.out t ht2
        have HS2 : Hid (PrS W wr c eb mb p (fun j => wM (wn j) key (if j < t then Q j else if j = t then 0 else 0)) Q) := Lib.hid (hS.out.congr (fun j hj => by split <;> simp))
        clear hS
        go_wp2_with fail
        rw [show decide ((t : Int) < 2) = true from by simp only [decide_eq_true_eq]; omega]
        go_loopw [14] (fun i wx => ∃ (u : Nat) (c : Nat → Nat), u ≤ Q t ∧ i = .int .i64 u ∧ Hid (PrS W wx c eb mb p (fun j => wM (wn j) key (if j < t then Q j else if j = t then u else 0)) Q)) (fun i _ => Q t - (intOf i).toNat)
        case atStart => exact ⟨0, c, by omega, rfl, HS2⟩
        case round =>
          clear HS2
          obtain ⟨u, c, hu, rfl, hS⟩ := hrel
          have zq := hS.out.atQ ht2
          by_cases huq : u < Q t
          · have ze := hS.out.atE ht2
            have hv1 : IntKind.u8.wrap (u : Int) = (u : Int) := by rw [IntKind.wrap_u8]; omega
            have hbA := (Below.refl wr.heap.size wr).alloc (Nat.le_refl _) (.cells #[.int .u8 (u : Int)] 5)
            have hS6 := hS.out.step hbA
            have slb : SlV (wr.alloc (.cells #[.int .u8 (u : Int)] 5)) (some ⟨wr.heap.size, 0, none⟩) 1 1 1 (bvs [UInt8.ofNat u]) := lit_sl wr 5 _ 1 1 _ (by
              have e : bv (UInt8.ofNat u) = .int .u8 (u : Int) := by unfold bv; rw [UInt8.toNat_ofNat', Nat.mod_eq_of_lt (by omega)]
              show _ = (([UInt8.ofNat u]).map bv).toArray
              rw [List.map_cons, List.map_nil, e]) rfl (by unfold maxLen; omega)
            have hEt := hS6.ends t ht2
            have e6 : wM (wn t) key (if t < t then Q t else if t = t then u else 0) = wM (wn t) key u := by rw [if_neg (by omega), if_pos rfl]
            rw [e6] at hEt
            have HS6 := Lib.hid hS6
            have HSL := Lib.hid slb
            have HET := Lib.hid hEt
            clear e6 hS6 slb hEt hS
            have s3' := True.intro
            go_wp2_with (first
              | (clear s3'; go_at_call 54; refine (send_any c (t + 1) (p t) (wM (wn t) key u) _ HS6.out.law.fr (by omega) HET.out _ 1 1 [UInt8.ofNat u] HSL.out (by decide)).mono ?_; rw [wM_send (by omega)]; rintro e w7 ⟨c7, st7, E7, rfl⟩; have k7 := HS6.out.endStep ht2 st7 E7; have s4 := True.intro))
            go_roundw
            case rel => exact ⟨u + 1, c7, by omega, by go_num, Lib.hid (k7.congr (fun j hj => by
              by_cases e : j = t
              · subst e; rw [upd_same, if_neg (by omega), if_pos rfl]
              · rw [upd_other _ e, if_neg (show ¬ j = t from e), if_neg (show ¬ j = t from e)]))⟩
            case measure => simp [intOf]; omega
          · obtain rfl : u = Q t := by omega
            go_wp2_with fail
            go_roundw
            case rel => exact ⟨t + 1, c, by omega, by go_num, Lib.hid (hS.out.congr (fun j hj => by
              by_cases e : j < t
              · rw [if_pos e, if_pos (by omega)]
              · rw [if_neg e]
                by_cases e2 : j = t
                · subst e2; rw [if_pos rfl, if_pos (by omega)]
                · rw [if_neg e2, if_neg (by omega)]))⟩
            case measure => simp [intOf]; omega
    · have ht2' : 2 ≤ t := by omega
      as_aux_lemma =>
        have HS3 : Hid (PrS W wr c eb mb p (fun j => wM (wn j) key (Q j)) Q) := Lib.hid (hS.out.congr (fun j hj => by rw [if_pos (by omega)]))
        clear hS
        go_wp2_with fail
        go_loopw [15] (fun i wx => ∃ (u : Nat) (c : Nat → Nat), u ≤ L ∧ i = .int .i64 u ∧ Hid (PrS W wx c eb mb p (fun j => wM (wn j) key (Q j)) Q)) (fun i _ => L - (intOf i).toNat)
        case atStart => exact ⟨0, c, by omega, rfl, HS3⟩
        case round =>
          clear HS3
          obtain ⟨u, c, hu, rfl, hS⟩ := hrel
          by_cases huL : u < L
          · as_aux_lemma =>
              obtain ⟨k, hk2, hkN⟩ : ∃ k : Nat, k < 2 ∧ ((u : Int) % 2) = (k : Int) := ⟨u % 2, by omega, by omega⟩
              have ze := hS.out.atE hk2
              have hwk := HWN.out k hk2
              have hqk := HQ.out k hk2
              have hwf := Lib.hid (wM_wf (win := wn k) (key := key) (q := Q k) hwk.1 hwk.2 hk (by omega))
              have s3' := True.intro
              go_wp2_with (first
                | (clear s3'; go_at_call 45; refine (around_any lost 5 h3r (by omega) _).mono ?_; rw [L5e]; rintro e z1 ⟨rfl, rfl⟩; have s4 := True.intro)
                | (clear s4; go_at_call 51; refine (out_any c (k + 1) (p k) (wM (wn k) key (Q k)) _ hS.out.law.fr (by omega) hwf.out (hS.out.ends k hk2)).mono ?_; rintro e w7 ⟨c7, v7, st7, E7, rfl, L7⟩; have k7 := hS.out.endStep hk2 st7 E7; have s5 := True.intro))
              go_roundw
              case rel => exact ⟨u + 1, c7, by omega, by go_num, Lib.hid (k7.congr (fun j hj => by
                by_cases e : j = k
                · subst e; rw [upd_same]; rfl
                · rw [upd_other _ e]))⟩
              case measure => simp [intOf]; omega
          · obtain rfl : u = L := by omega
            as_aux_lemma =>
              have s3' := True.intro
              go_upto_region 18 with (first
                | (clear s3'; go_at_call 45; refine (around_any lost 5 h3r (by omega) _).mono ?_; rw [L5e]; rintro e z1 ⟨rfl, rfl⟩; have s4 := True.intro))
              obtain ⟨c8, s8, e8, b8⟩ := alloc_col (c := c) 8 hS.out.law.fr #[.int .i64 0, .int .i64 0] 3
              have hS8 := hS.out.other (by omega) s8
              have hG8 : GotS c8 (z1.alloc (.cells #[.int .i64 0, .int .i64 0] 3)) z1.heap.size (fun _ => 0) := ⟨e8, b8⟩
              generalize z1.alloc (Obj.cells #[Value.int IntKind.i64 0, Value.int IntKind.i64 0] 3) = W8 at hS8 hG8 ⊢
              generalize z1.heap.size = gb at hG8 ⊢
              clear s8 e8 b8
              obtain ⟨E, hE⟩ : ∃ E : Nat → PE, E = fun j => ⟨wn j, Q j, 0, 0, false⟩ := ⟨_, rfl⟩
              have hR0 : RndP E Q 0 := RndP.start (fun j hj => by rw [hE]; exact ⟨rfl, rfl, rfl, (HWN.out j hj).1, (HWN.out j hj).2⟩) HQ.out
              have HS9 : Hid (PrS W W8 c8 eb mb p (fun j => (E j).m key) Q ∧ GotS c8 W8 gb (fun j => (E j).d)) := Lib.hid (by rw [hE]; exact ⟨hS8, hG8⟩)
              have HR0 := Lib.hid hR0
              clear hE hS8 hG8 hR0 hS
              obtain ⟨Mx, hMx⟩ : ∃ Mx, max (Q 0) (Q 1) = Mx := ⟨_, rfl⟩
              have hMx31 : Mx ≤ 31 := by have := HQ.out 0 (by omega); have := HQ.out 1 (by omega); omega
              have HMX := Lib.hid hMx
              clear hMx
              go_wp2_with fail
              go_loopw [17, 18, 19, 20, 21, 22, 23] (fun r _ _ _ _ _ _ wx => ∃ (t : Nat) (c : Nat → Nat) (E : Nat → PE), t ≤ Mx + 1 ∧ r = .int .i64 t ∧ Hid (PrS W wx c eb mb p (fun j => (E j).m key) Q ∧ GotS c wx gb (fun j => (E j).d)) ∧ Hid (RndP E Q t)) (fun r _ _ _ _ _ _ _ => Mx + 1 - (intOf r).toNat)
              case atStart => exact ⟨0, c8, E, by omega, rfl, HS9, HR0⟩
              case round =>
                clear HS9 HR0
                obtain ⟨t, c, E, ht, rfl, hS, hR⟩ := hrel
                have zq0 := hS.out.1.atQ (j := 0) (by omega)
                have zq1 := hS.out.1.atQ (j := 1) (by omega)
                go_upto_region 19 with fail
                go_cut [76] (fun v wx => v = .bool (decide ((t : Int) ≤ (Mx : Int))) ∧ ∃ d, wx = wr.drewN d)
                case first =>
                  have hm0 := HMX.out
                  obtain ⟨q0, hq0⟩ : ∃ q, Q 0 = q := ⟨_, rfl⟩
                  obtain ⟨q1, hq1⟩ : ∃ q, Q 1 = q := ⟨_, rfl⟩
                  rw [hq0] at zq0 hm0
                  rw [hq1] at zq1 hm0
                  by_cases hlt : q0 < q1
                  · obtain rfl : Mx = q1 := by omega
                    go_quiet (fail)
                    go_wp2_with fail
                    go_meet
                    exact ⟨by simp, _, rfl⟩
                  · obtain rfl : Mx = q0 := by omega
                    go_quiet (fail)
                    go_wp2_with fail
                    go_meet
                    exact ⟨by simp, _, rfl⟩
                case rest =>
                  clear zq0 zq1
                  obtain ⟨rfl, d, rfl⟩ := hcut
                  have hS1 : Hid (PrS W (wr.drewN d) c eb mb p (fun j => (E j).m key) Q ∧ GotS c (wr.drewN d) gb (fun j => (E j).d)) := Lib.hid ⟨hS.out.1.drewN d, hS.out.2.step hS.out.1.law.fr (below_drewN (Below.refl _ _) d)⟩
                  generalize wr.drewN d = w0 at hS1 ⊢
                  clear hS
                  by_cases htM : t ≤ Mx
                  · have hdt : decide ((t : Int) ≤ (Mx : Int)) = true := decide_eq_true (by omega)
                    rw [hdt]
                    as_aux_lemma =>
                      have HP0 : Hid (PhP E Q t 0) := Lib.hid (by unfold PhP; rw [if_pos rfl]; exact hR.out)
                      clear hR
                      go_wp2_with fail
                      go_loopw [18, 19, 20, 21, 22, 23] (fun k _ _ _ _ _ wx => ∃ (x : Nat) (c : Nat → Nat) (E : Nat → PE), x ≤ 2 ∧ k = .int .i64 x ∧ Hid (PrS W wx c eb mb p (fun j => (E j).m key) Q ∧ GotS c wx gb (fun j => (E j).d)) ∧ Hid (PhP E Q t x)) (fun k _ _ _ _ _ _ => 2 - (intOf k).toNat)
                      case atStart => exact ⟨0, c, E, by omega, rfl, hS1, HP0⟩
                      case round =>
                        clear hS1 HP0
                        obtain ⟨x, c, E, hx, rfl, hS, hP⟩ := hrel
                        by_cases hx2 : x < 2
                        · as_aux_lemma =>
                            have hpx := hP.out.pex hx2
                            have ze := hS.out.1.atE hx2
                            have hwf := hpx.wfx (key := key) hk
                            obtain ⟨m, hm⟩ : ∃ m, (outP ((E x).m key)).length = m := ⟨_, rfl⟩
                            have hm16 : m ≤ 16 := by rw [← hm]; exact out_few hwf
                            have HM := Lib.hid hm
                            have HPX := Lib.hid hpx
                            have HNX := Lib.hid (hP.out.next hx2 key)
                            have hS0 := hS.out
                            clear hm hpx hS hP
                            have s40 := True.intro
                            go_upto_region 25 with (first
                              | (clear s40; go_at_call 51; refine (out_any c (x + 1) (p x) ((E x).m key) _ hS0.1.law.fr (by omega) hwf (hS0.1.ends x hx2)).mono ?_; rintro e w9 ⟨c8, v8, st7, E7, rfl, L9⟩; have k9 := hS0.1.endStep hx2 st7 E7; have g9 := hS0.2.stp st7 (by omega); obtain ⟨ao8, cap8, rfl⟩ := L9.len (n := m) HM.out; have s41 := True.intro))
                            have hMM : ∀ j, j < 2 → upd (fun j => (E j).m key) x (outM ((E x).m key)) j = (Ei E x 0 j).m key := fun j hj => by
                              by_cases e : j = x
                              · subst e; rw [upd_same, Ei_x E hx2]; rfl
                              · have e2 : j = 1 - x := by omega
                                rw [upd_other _ e, e2, Ei_y, got_zero]
                            have hGG : ∀ j, j < 2 → (E j).d = (Ei E x 0 j).d := fun j hj => by
                              by_cases e : j = x
                              · subst e; rw [Ei_x E hx2]
                              · have e2 : j = 1 - x := by omega
                                rw [e2, Ei_y, got_zero]
                            have H9 : Hid (PrS W w9 c8 eb mb p (fun j => (Ei E x 0 j).m key) Q ∧ GotS c8 w9 gb (fun j => (Ei E x 0 j).d)) := Lib.hid ⟨k9.congr hMM, g9.congr hGG⟩
                            have HL9 := Lib.hid L9
                            have ew1 : IntKind.i64.wrap (1 - (x : Int)) = ((1 - x : Nat) : Int) := by rw [IntWalk.i64_in _ (by omega)]; omega
                            clear st7 E7 L9 k9 g9 ze hS0 hMM hGG hwf
                            go_wp2_with fail
                            go_loopw [20, 21, 22, 23] (fun i _ _ _ wx => ∃ (u : Nat) (c : Nat → Nat), u ≤ m ∧ i = .int .i64 u ∧ Hid (PrS W wx c eb mb p (fun j => (Ei E x u j).m key) Q ∧ GotS c wx gb (fun j => (Ei E x u j).d)) ∧ Hid (ListC c wx (.slice ao8 m cap8) (outP ((E x).m key)))) (fun i _ _ _ _ => m - (intOf i).toNat)
                            case atStart => exact ⟨0, c8, by omega, rfl, H9, HL9⟩
                            case round =>
                              clear H9 HL9
                              obtain ⟨u, c, hu, rfl, hS, hL⟩ := hrel
                              by_cases hum : u < m
                              · as_aux_lemma =>
                                  obtain ⟨pk, xs, hpk, hin, hpl, hxs⟩ := HPX.out.step key u (by rw [HM.out]; exact hum)
                                  obtain ⟨a8, rfl⟩ := hL.out.some (by rw [HM.out]; omega)
                                  obtain ⟨bb, cb, zz, _, hrow⟩ := hL.out.get hpk
                                  have h1x : 1 - x < 2 := by omega
                                  have ze := hS.out.1.atE h1x
                                  obtain ⟨hwfy, hac, hde⟩ := HPX.out.wfy (key := key) hk (i := u) (by omega)
                                  have k0 : Below wr.heap.size wr wr.drew := (Below.refl _ _).drew
                                  have hf0 : wr.drew.cell? ⟨eb, 1 - x, none⟩ = some (.pointer (some ⟨p (1 - x), 0, none⟩)) ∧ wr.drew.cell? (a8.add u) = some (.slice bb pk.length cb) := ⟨cell_later k0 ze, cell_later k0 zz⟩
                                  have hS1 := hS.out.1.step k0
                                  have hG1 := hS.out.2.step hS.out.1.law.fr k0
                                  have hL1 := hL.out.step hS.out.1.law.fr k0
                                  have row0 := hrow.step hS.out.1.law.fr k0
                                  have hEy := hS1.ends (1 - x) h1x
                                  rw [Ei_y] at hEy
                                  obtain ⟨D, hD⟩ : ∃ D, ((E x).got (E (1 - x)) u).d = D := ⟨_, rfl⟩
                                  rw [hD] at hxs
                                  obtain ⟨mx, hmx⟩ : ∃ mx, xs.length = mx := ⟨_, rfl⟩
                                  have hmx1 : mx ≤ 1 := by rcases hxs with ⟨rfl, _⟩ | ⟨rfl, _⟩ <;> simp at hmx <;> omega
                                  have hDn : ((E x).got (E (1 - x)) (u + 1)).d = D + mx := by rcases hxs with ⟨rfl, h⟩ | ⟨rfl, h, _⟩ <;> simp at hmx <;> omega
                                  have hone : ∀ v, v < mx → xs[v]? = some [UInt8.ofNat D] ∧ D < 31 ∧ v = 0 := fun v hv => by
                                    rcases hxs with ⟨rfl, _⟩ | ⟨rfl, _, h⟩
                                    · simp at hmx; omega
                                    · simp at hmx
                                      have hv0 : v = 0 := by omega
                                      exact ⟨by rw [hv0]; rfl, h, hv0⟩
                                  have HONE := Lib.hid hone
                                  have HIN := Lib.hid hin
                                  have HMXL := Lib.hid hmx
                                  have HDN := Lib.hid hDn
                                  have HD := Lib.hid hD
                                  have HW := Lib.hid hwfy
                                  have HROW := Lib.hid row0
                                  have HEY := Lib.hid hEy
                                  have H1 := Lib.hid (⟨hS1, hG1, hL1⟩ : PrS W wr.drew c eb mb p (fun j => (Ei E x u j).m key) Q ∧ GotS c wr.drew gb (fun j => (Ei E x u j).d) ∧ ListC c wr.drew (.slice (some a8) m cap8) (outP ((E x).m key)))
                                  clear hS hL hpk hin hxs hrow row0 hwfy hEy hS1 hG1 hL1 hone hmx hDn hD ze zz k0
                                  go_upto_region 28 with fail
                                  go_region_held (fun w' => w'.cell? ⟨eb, 1 - x, none⟩ = some (.pointer (some ⟨p (1 - x), 0, none⟩)) ∧ w'.cell? (a8.add u) = some (.slice bb pk.length cb)) (first | exact hf7 | exact hf0) (first
                                    | (go_at_call 50; refine (in_any c (1 - x + 1) (p (1 - x)) (((E x).got (E (1 - x)) u).m key) _ H1.out.1.law.fr (by omega) HW.out ⟨by omega, by omega⟩ HEY.out bb pk.length cb pk HROW.out.slv (by omega)).mono ?_; rw [HIN.out]; rintro e w7 ⟨c7, v7, st7, E7, rfl, L7⟩; have k7 := H1.out.1.endStep h1x st7 E7; have g7 := H1.out.2.1.stp st7 (by omega); have l7 := H1.out.2.2.stp st7 (by omega); obtain ⟨ao7, cap7, rfl⟩ := L7.len (n := mx) HMXL.out; have hf7 : w7.cell? ⟨eb, 1 - x, none⟩ = some (.pointer (some ⟨p (1 - x), 0, none⟩)) ∧ w7.cell? (a8.add u) = some (.slice bb pk.length cb) := ⟨k7.atE h1x, by rw [World.cell?_of_block (st7.keep (a8.add u).block (World.block_lt_of_cell? _ _ hf0.2) (by obtain ⟨ao', cap', vs', e', _, _, hc'⟩ := H1.out.2.2; injection e' with e1'; rw [add_block, hc' a8 e1'.symm (by rw [HM.out]; omega)]; omega))]; exact hf0.2⟩))
                                  all_goals
                                    have hMM : ∀ j, j < 2 → upd (fun j => (Ei E x u j).m key) (1 - x) (((E x).got (E (1 - x)) (u + 1)).m key) j = (Ei E x (u + 1) j).m key := fun j hj => by
                                      by_cases e : j = 1 - x
                                      · subst e; rw [upd_same, Ei_y]
                                      · have e2 : j = x := by omega
                                        rw [upd_other _ e, e2, Ei_x E hx2, Ei_x E hx2]
                                    have hGG : ∀ j, j < 2 → (Ei E x u j).d = upd (fun j => (Ei E x u j).d) (1 - x) (D + 0) j := fun j hj => by
                                      by_cases e : j = 1 - x
                                      · subst e; rw [upd_same, Ei_y, HD.out]; rfl
                                      · rw [upd_other _ e]
                                    have H7 : Hid (PrS W w7 c7 eb mb p (fun j => (Ei E x (u + 1) j).m key) Q ∧ GotS c7 w7 gb (upd (fun j => (Ei E x u j).d) (1 - x) (D + 0)) ∧ ListC c7 w7 (.slice (some a8) m cap8) (outP ((E x).m key)) ∧ ListC c7 w7 (.slice ao7 mx cap7) xs) := Lib.hid ⟨k7.congr hMM, g7.congr hGG, l7, L7⟩
                                    clear st7 E7 L7 k7 g7 l7 hf7 hf0 H1 hMM hGG HEY HROW HW HIN
                                    go_wp2_with fail
                                    go_loopw [23] (fun i wx => ∃ v : Nat, v ≤ mx ∧ i = .int .i64 v ∧ Hid (PrS W wx c7 eb mb p (fun j => (Ei E x (u + 1) j).m key) Q ∧ GotS c7 wx gb (upd (fun j => (Ei E x u j).d) (1 - x) (D + v)) ∧ ListC c7 wx (.slice (some a8) m cap8) (outP ((E x).m key)) ∧ ListC c7 wx (.slice ao7 mx cap7) xs)) (fun i _ => mx - (intOf i).toNat)
                                    case atStart => exact ⟨0, by omega, rfl, H7⟩
                                    case round =>
                                      clear H7
                                      obtain ⟨v, hv, rfl, hS⟩ := hrel
                                      by_cases hvm : v < mx
                                      · obtain ⟨hx1, hD31, hv0⟩ := HONE.out v hvm
                                        obtain ⟨q1, q2, q3, q4⟩ := hS.out
                                        obtain ⟨a9, rfl⟩ := q4.some (by rw [HMXL.out]; omega)
                                        obtain ⟨b1, cb1, zz, sl1, _⟩ := q4.get hx1
                                        obtain ⟨a10, rfl⟩ := sl1.has (by simp)
                                        have zb : wr.cell? a10 = some (.int .u8 (D : Int)) := by
                                          have h1 := sl1.cell a10 rfl 0 (bv (UInt8.ofNat D)) rfl
                                          have e : bv (UInt8.ofNat D) = .int .u8 (D : Int) := by unfold bv; rw [UInt8.toNat_ofNat', Nat.mod_eq_of_lt (by omega)]
                                          rw [e] at h1
                                          exact h1
                                        have zz' : wr.cell? (a9.add v) = some (.slice (some a10) 1 cb1) := zz
                                        have hcb : 1 ≤ cb1 := sl1.le
                                        obtain ⟨zg, zgf⟩ := q2.at h1x
                                        rw [upd_same, hv0, Nat.add_zero] at zg
                                        have hne : ((D : Int) != (D : Int)) = false := by simp
                                        have ewc : IntKind.i64.wrap (D : Int) = (D : Int) := IntWalk.i64_in _ (by omega)
                                        have ewD : IntKind.i64.wrap ((D : Int) + 1) = ((D + 1 : Nat) : Int) := by rw [IntWalk.i64_in _ (by omega)]; omega
                                        have HV0 := Lib.hid hv0
                                        clear hv0 hx1 q1 q2 q3 q4 sl1 zz
                                        go_wp2_with fail
                                        go_quiet (fail)
                                        have hb9 := below_drewN (Below.refl wr.heap.size wr) nq
                                        have k8 := hS.out.1.step hb9
                                        obtain ⟨g8, st9⟩ := (hS.out.2.1.step hS.out.1.law.fr hb9).set k8.law.fr (t := 1 - x) (g := D + 1) h1x
                                        have k9 := k8.other (by omega) st9
                                        have la := (hS.out.2.2.1.step hS.out.1.law.fr hb9).stp st9 (by omega)
                                        have lb := (hS.out.2.2.2.step hS.out.1.law.fr hb9).stp st9 (by omega)
                                        rw [upd_upd] at g8
                                        have g9 := g8.congr (G' := upd (fun j => (Ei E x u j).d) (1 - x) (D + (v + 1))) (fun j hj => by rw [HV0.out])
                                        have H8 := Lib.hid (⟨k9, g9, la, lb⟩ : PrS W _ c7 eb mb p (fun j => (Ei E x (u + 1) j).m key) Q ∧ GotS c7 _ gb (upd (fun j => (Ei E x u j).d) (1 - x) (D + (v + 1))) ∧ ListC c7 _ (.slice (some a8) m cap8) (outP ((E x).m key)) ∧ ListC c7 _ (.slice (some a9) mx cap7) xs)
                                        clear k8 g8 st9 k9 la lb g9 hb9
                                        go_wp2
                                        go_roundw
                                        case rel => exact ⟨v + 1, by omega, by go_num, H8⟩
                                        case measure => simp [intOf]; omega
                                      · obtain rfl : v = mx := by omega
                                        go_wp2_with fail
                                        go_roundw
                                        case rel => exact ⟨u + 1, c7, by omega, by go_num, Lib.hid ⟨hS.out.1, hS.out.2.1.congr (fun j hj => by
                                          by_cases e : j = 1 - x
                                          · subst e; rw [upd_same, Ei_y, HDN.out]
                                          · have e2 : j = x := by omega
                                            rw [upd_other _ e, e2, Ei_x E hx2, Ei_x E hx2])⟩, Lib.hid hS.out.2.2.1⟩
                                        case measure => simp [intOf]; omega
                              · obtain rfl : u = m := by omega
                                go_wp2_with fail
                                go_roundw
                                case rel => exact ⟨x + 1, c, Ei E x u, by omega, by go_num, hS, Lib.hid (by have := HNX.out; rwa [HM.out] at this)⟩
                                case measure => simp [intOf]; omega
                        · obtain rfl : x = 2 := by omega
                          go_wp2_with fail
                          go_roundw
                          case rel => exact ⟨t + 1, c, E, by omega, by go_num, hS, Lib.hid (by have := hP.out; unfold PhP at this; rw [if_neg (by omega), if_neg (by omega)] at this; exact this)⟩
                          case measure => simp [intOf]; omega
                  · have hdt : decide ((t : Int) ≤ (Mx : Int)) = false := decide_eq_false (by omega)
                    rw [hdt]
                    as_aux_lemma =>
                      obtain ⟨r1, r2, r3, r4⟩ := hR.out.done (by rw [HMX.out]; omega)
                      have w0a : ((E 0).m key).waiting.length = 0 := by unfold PE.m; rw [pM_len]; exact r3
                      have w1a : ((E 1).m key).waiting.length = 0 := by unfold PE.m; rw [pM_len]; exact r4
                      have hd := hS1.out.1.drewN 1
                      have ze0 := hd.atE (j := 0) (by omega)
                      have ze1 := hd.atE (j := 1) (by omega)
                      have zq0 := hd.atQ (j := 0) (by omega)
                      have zq1 := hd.atQ (j := 1) (by omega)
                      have hgd := hS1.out.2.step hS1.out.1.law.fr (below_drewN (Below.refl _ _) 1)
                      obtain ⟨zg0, _⟩ := hgd.at (j := 0) (by omega)
                      obtain ⟨zg1, _⟩ := hgd.at (j := 1) (by omega)
                      rw [r1] at zg0
                      rw [r2] at zg1
                      have hc0 : Calls Try.prog 56 #[.pointer (some ⟨p 0, 0, none⟩)] w0.drew (fun e w' => e = .returned (.int .i64 0) ∧ w' = w0.drew) := by
                        have := waiting_any c 1 (p 0) _ w0.drew (hd.ends 0 (by omega))
                        rw [w0a] at this
                        exact this
                      have hc1 : Calls Try.prog 56 #[.pointer (some ⟨p 1, 0, none⟩)] w0.drew (fun e w' => e = .returned (.int .i64 0) ∧ w' = w0.drew) := by
                        have := waiting_any c 2 (p 1) _ w0.drew (hd.ends 1 (by omega))
                        rw [w1a] at this
                        exact this
                      obtain ⟨q0, hq0⟩ : ∃ q, Q 0 = q := ⟨_, rfl⟩
                      obtain ⟨q1, hq1⟩ : ∃ q, Q 1 = q := ⟨_, rfl⟩
                      rw [hq0] at zq0 zg1
                      rw [hq1] at zq1 zg0
                      have HLw := Lib.hid hd.law
                      have hf0 : w0.drew.cell? ⟨gb, 0, none⟩ = some (.int .i64 (q1 : Int)) ∧ w0.drew.cell? ⟨gb, 1, none⟩ = some (.int .i64 (q0 : Int)) ∧ w0.drew.cell? ⟨mb, 0, none⟩ = some (.int .i64 (q0 : Int)) ∧ w0.drew.cell? ⟨mb, 1, none⟩ = some (.int .i64 (q1 : Int)) ∧ w0.drew.cell? ⟨eb, 0, none⟩ = some (.pointer (some ⟨p 0, 0, none⟩)) ∧ w0.drew.cell? ⟨eb, 1, none⟩ = some (.pointer (some ⟨p 1, 0, none⟩)) := ⟨zg0, zg1, zq0, zq1, ze0, ze1⟩
                      have hSS : ∀ w' : World, Below w0.drew.heap.size w0.drew w' → w'.cell? ⟨gb, 0, none⟩ = some (.int .i64 (q1 : Int)) ∧ w'.cell? ⟨gb, 1, none⟩ = some (.int .i64 (q0 : Int)) ∧ w'.cell? ⟨mb, 0, none⟩ = some (.int .i64 (q0 : Int)) ∧ w'.cell? ⟨mb, 1, none⟩ = some (.int .i64 (q1 : Int)) ∧ w'.cell? ⟨eb, 0, none⟩ = some (.pointer (some ⟨p 0, 0, none⟩)) ∧ w'.cell? ⟨eb, 1, none⟩ = some (.pointer (some ⟨p 1, 0, none⟩)) := fun w' h => ⟨cell_later h zg0, cell_later h zg1, cell_later h zq0, cell_later h zq1, cell_later h ze0, cell_later h ze1⟩
                      clear r1 r2 r3 r4 w0a w1a hd ze0 ze1 zq0 zq1 hgd zg0 zg1 hR hS1 hq0 hq1
                      go_upto_region 37 with fail
                      go_region_held (fun w' => w'.cell? ⟨gb, 0, none⟩ = some (.int .i64 (q1 : Int)) ∧ w'.cell? ⟨gb, 1, none⟩ = some (.int .i64 (q0 : Int)) ∧ w'.cell? ⟨mb, 0, none⟩ = some (.int .i64 (q0 : Int)) ∧ w'.cell? ⟨mb, 1, none⟩ = some (.int .i64 (q1 : Int)) ∧ w'.cell? ⟨eb, 0, none⟩ = some (.pointer (some ⟨p 0, 0, none⟩)) ∧ w'.cell? ⟨eb, 1, none⟩ = some (.pointer (some ⟨p 1, 0, none⟩))) (first | exact hf0 | exact hSS _ hb9) (first
                        | (go_at_call_of 56 (Value.pointer (some (⟨p 0, 0, none⟩ : Addr))); refine hc0.mono ?_; rintro e y1 ⟨rfl, rfl⟩)
                        | (go_at_call_of 56 (Value.pointer (some (⟨p 1, 0, none⟩ : Addr))); refine hc1.mono ?_; rintro e y2 ⟨rfl, rfl⟩)
                        | (go_at_call 53; refine (lives_any _).mono ?_; rintro e y9 ⟨rfl, hb9⟩))
                      all_goals go_wp2_with fail
                      all_goals go_ret
                      all_goals exact ⟨rfl, (HLw.out.step hb9).below⟩

theorem law16 (W : World) (win : Int) (hw : InR win) (key : Nat) (hk : key < 18446744073709551616) (one : Int) (h1r : InR one) (two : Int) (h2r : InR two) (lost : Int) (h3r : InR lost) :
    Calls Try.prog 16 #[.int .i64 win, .int .u64 (key : Int), .int .i64 one, .int .i64 two, .int .i64 lost] W (fun e w' => e = .returned (.bool true) ∧ Below W.heap.size W w' ∧ True) :=
  (l16_any W win hw key hk one two lost h1r h2r h3r).mono fun _ _ h => ⟨h.1, h.2, trivial⟩

end Go.Proofs.Ytcpemgfpiapaaaa
