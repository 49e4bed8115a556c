/- LinkRuns. -/
import Derived.Test.YtcpemgfpiapaaaaRunB
import Derived.Test.YtcpemgfpiapaaaaL6
namespace Go.Proofs.Ytcpemgfpiapaaaa
open Go.RowKit

theorem Try.underlying76 : Try.prog.underlying 76 = some (.slice 57) := by kernel_rfl

set_option maxRecDepth 100000 in
set_option maxHeartbeats 4000000 in
theorem l13_any (W : World) (win : Int) (hw : InR win) (key : Nat) (hk : key < 18446744073709551616) (ao : Option Addr) (n0 c0 : Nat) (lx : List Int) (hr : SlV W ao n0 c0 1 (lx.map iv)) (hall : ∀ x ∈ lx, InR x) :
    Calls Try.prog 13 #[.int .i64 win, .int .u64 (key : Int), .slice ao n0 c0] W (fun e w' => e = .returned (.bool true) ∧ Below W.heap.size W w') := by
  obtain ⟨a0, h0, h0'⟩ := around_K (at' := win) (n := 16) (by omega)
  obtain ⟨a1, h1, h1'⟩ := around_K (at' := win.tdiv 16) (n := 16) (by omega)
  have h0e : around win 16 = (a0 : Int) := h0'
  have h1e : around (win.tdiv 16) 16 = (a1 : Int) := h1'
  have e0 : IntKind.i64.wrap (1 + (a0 : Int)) = ((1 + a0 : Nat) : Int) := by rw [IntWalk.i64_in _ (by omega)]; omega
  have e1 : IntKind.i64.wrap (1 + (a1 : Int)) = ((1 + a1 : Nat) : Int) := by rw [IntWalk.i64_in _ (by omega)]; omega
  have hq := inr_quo hw
  have hw1 : -9223372036854775808 ≤ win := hw.1
  have hw2 : win ≤ 9223372036854775807 := hw.2
  have hxn : lx.length = n0 := by have := hr.len; simpa using this
  have HRL := Lib.hid hr
  have HALL := Lib.hid hall
  have HXN := Lib.hid hxn
  clear h0' h1' hr hall hxn
  have qN : ∀ (w : World) (a : Option Addr) (l c : Nat), (binOp .eql 76 (.slice a l c) (.slice none 0 0)).run Try.prog w = .ok (.bool a.isNone) w := fun w a l c => Lib.run_eql_slice_nil w 76 57 a l c 0 0 Try.underlying76
  have s0 := True.intro
  go_enter Try.func13, Try.ntmps13
  go_upto_region 5 with (first
    | (clear s0; go_at_call 58; refine (ends_any _ win hw key a0 a1 h0e h1e h0 h1).mono ?_; rintro e w1 ⟨c1, eb, p0, p1, rfl, hL1, hA1, hB1, hce, hEB⟩; have s1 := True.intro)
    | (clear s1; go_at_call 45; refine (around_any win 16 hw (by omega) _).mono ?_; rw [h0e]; rintro e w2 ⟨rfl, rfl⟩; have s2 := True.intro)
    | (clear s2; go_at_call 45; refine (around_any (win.tdiv 16) 16 hq (by omega) _).mono ?_; rw [h1e]; rintro e w3 ⟨rfl, rfl⟩; have s3 := True.intro))
  obtain ⟨c5, hRS⟩ := run_start hL1 hA1 hB1 hce hEB
  unfold refObj at hRS
  generalize (((w2.alloc (Obj.cells #[Value.int IntKind.i64 (1 + (a0 : Int)), Value.int IntKind.u64 (key : Int), Value.slice none 0 0, Value.int IntKind.i64 0, Value.int IntKind.i64 0, Value.slice none 0 0, Value.bool false, Value.int IntKind.i64 0] 81)).alloc (Obj.cells #[Value.int IntKind.i64 (1 + (a1 : Int)), Value.int IntKind.u64 (key : Int), Value.slice none 0 0, Value.int IntKind.i64 0, Value.int IntKind.i64 0, Value.slice none 0 0, Value.bool false, Value.int IntKind.i64 0] 81)).alloc (Obj.cells #[Value.pointer (some { block := w2.heap.size, off := 0 }), Value.pointer (some { block := w2.heap.size + 1, off := 0 })] 78)) = W5 at hRS ⊢
  have hP0 : ∀ j, j < 2 → RunP ((fun j => newM (1 + if j = 0 then a0 else a1) key) j) key 0 := fun j hj => by
    exact RunP.new (by omega) (by split <;> omega) hk
  generalize (fun j : Nat => newM (1 + if j = 0 then a0 else a1) key) = M0 at hRS hP0
  generalize (fun j : Nat => if j = 0 then p0 else p1) = p at hRS
  generalize (fun j : Nat => if j = 0 then w2.heap.size else w2.heap.size + 1) = r at hRS
  generalize w2.heap.size + 1 + 1 = mb at hRS ⊢
  have HRS := Lib.hid hRS
  have HP0 := Lib.hid hP0
  clear hRS hP0 hL1 hA1 hB1 hce hEB e0 e1 h0e h1e hq hw1 hw2
  have RX : Hid (∀ i, i < n0 → ∃ x : Int, InR x ∧ ∃ a, ao = some a ∧ W.cell? (a.add i) = some (.int .i64 x)) := Lib.hid fun i hi => by
    obtain ⟨a, rfl⟩ := HRL.out.has (by omega)
    obtain ⟨x, hx⟩ : ∃ x, lx[i]? = some x := ⟨_, List.getElem?_eq_getElem (by rw [HXN.out]; exact hi)⟩
    exact ⟨x, HALL.out x (List.mem_of_getElem? hx), a, rfl, HRL.out.cell a rfl i _ (by rw [List.getElem?_map, hx]; rfl)⟩
  have hn0 : n0 ≤ 9223372036854775807 := by
    have := Nat.le_trans HRL.out.le HRL.out.top
    unfold maxLen at this
    exact this
  clear HALL HXN
  go_wp2_with fail
  have HR5 : Hid (Rnd W W5 eb mb p r key 0 (.slice none 0 0) (.slice none 0 0)) := Lib.hid ⟨c5, M0, fun _ => [], none, 0, 0, [], [], none, 0, [], by omega, rfl, rfl, HRS.out, HP0.out, fun l hl => (by cases hl), fun l hl => (by cases hl)⟩
  clear HRS HP0
  go_loopw [9, 10, 11, 12, 13, 14, 15, 16, 17, 18, 19, 20, 21, 22, 23, 24] (fun s t i _ _ _ _ _ _ _ _ _ _ _ _ _ wr => ∃ (q : Nat), q ≤ 60 ∧ q ≤ n0 ∧ i = .int .i64 q ∧ Hid (Rnd W wr eb mb p r key q s t)) (fun _ _ i _ _ _ _ _ _ _ _ _ _ _ _ _ _ => 60 - (intOf i).toNat)
  case atStart => exact ⟨0, by omega, by omega, rfl, HR5⟩
  case round =>
    obtain ⟨q, hq60, hqn, rfl, hRnd⟩ := hrel
    obtain ⟨c, M, S, so, n, sc, vs, ls, tao, tc, ts, hn, rfl, rfl, hS0, hP0, hlen0, hts0⟩ := hRnd.out
    have hS := Lib.hid hS0
    have hP := Lib.hid hP0
    have hlen := Lib.hid hlen0
    have hts := Lib.hid hts0
    clear hRnd hS0 hP0 hlen0 hts0 HR5
    by_cases hexit : q = n0 ∨ q = 60
    · have hb := hS.out.law
      as_aux_lemma =>
        by_cases e1 : q < n0
        · have e2 : q = 60 := by omega
          subst e2
          clear hexit
          have s9 := True.intro
          go_wp2_with (first
            | (clear s9; go_at_call 53; refine (lives_any _).mono ?_; rintro e y9 ⟨rfl, hb9⟩; have hL9 := hb.step hb9; have s10 := True.intro))
          go_ret
          exact ⟨rfl, hL9.below⟩
        · have e2 : q = n0 := by omega
          subst e2
          clear hexit
          have s9 := True.intro
          go_wp2_with (first
            | (clear s9; go_at_call 53; refine (lives_any _).mono ?_; rintro e y9 ⟨rfl, hb9⟩; have hL9 := hb.step hb9; have s10 := True.intro))
          go_ret
          exact ⟨rfl, hL9.below⟩
    · have d1 : decide ((q : Int) < (n0 : Int)) = true := decide_eq_true (by omega)
      have d2 : decide ((q : Int) < 60) = true := decide_eq_true (by omega)
      have hql : q < n0 ∧ q < 60 := by omega
      clear hexit
      obtain ⟨x, hx, a, rfl, hxc⟩ := RX.out q hql.1
      have hxc' : wr.cell? (a.add q) = some (.int .i64 x) := cell_later hS.out.law.below hxc
      have hx8 := inr_quoN hx 8 (by omega)
      obtain ⟨T, hT8, hT⟩ := around_K (at' := x) (n := 8) (by omega)
      obtain ⟨N, hN30, hN⟩ := around_K (at' := x.tdiv 8) (n := 1073741824) (by omega)
      have hT' : around x 8 = (T : Int) := hT
      have hN' : around (x.tdiv 8) 1073741824 = (N : Int) := hN
      have hx1 : -9223372036854775808 ≤ x := hx.1
      have hx2 : x ≤ 9223372036854775807 := hx.2
      have hx8' : InR (x.tdiv 8) := hx8
      clear hT hN hx8 hxc
      have s0 := True.intro
      go_upto_block 2 with (first
        | (clear s0; go_at_call 45; refine (around_any (x.tdiv 8) 1073741824 hx8' (by omega) _).mono ?_; rw [hN']; rintro e z1 ⟨rfl, rfl⟩; have s1 := True.intro)
        | (clear s1; go_at_call 45; refine (around_any x 8 hx (by omega) _).mono ?_; rw [hT']; rintro e z2 ⟨rfl, rfl⟩; have s2 := True.intro))
      obtain ⟨k, hk2, hkN⟩ : ∃ k : Nat, k < 2 ∧ ((N : Int) % 2) = (k : Int) := ⟨N % 2, by omega, by omega⟩
      rw [hkN]
      by_cases hcont : 4 ≤ T ∧ n = 0
      · as_aux_lemma =>
          obtain ⟨hT4, rfl⟩ := hcont
          have e0 : ((T : Int) == 0) = false := by simp; omega
          have e1 : ((T : Int) == 1) = false := by simp; omega
          have e2 : ((T : Int) == 2) = false := by simp; omega
          have e3 : ((T : Int) == 3) = false := by simp; omega
          go_wp2_with fail
          go_roundw
          case rel => exact ⟨q + 1, by omega, by omega, by go_num, Lib.hid ⟨c, M, S, so, 0, sc, vs, ls, tao, tc, ts, by omega, rfl, rfl, hS.out, fun j hj => (hP.out j hj).up, hlen.out, hts.out⟩⟩
          case measure => simp [intOf]; omega
      · go_cut [9, 10] (fun s t wx => Hid (Rnd W wx eb mb p r key (q + 1) s t))
        case first =>
          by_cases hT2 : T < 2
          · as_aux_lemma =>
              obtain ⟨b, hb⟩ : ∃ b : List UInt8, b = [UInt8.ofNat q, UInt8.ofNat N] := ⟨_, rfl⟩
              have hv1 : IntKind.u8.wrap (q : Int) = (q : Int) % 256 := IntKind.wrap_u8 _
              have hv2 : IntKind.u8.wrap (N : Int) = (N : Int) % 256 := IntKind.wrap_u8 _
              have harr : (#[.int .u8 ((q : Int) % 256), .int .u8 ((N : Int) % 256)] : Array Value) = (bvs [UInt8.ofNat q, UInt8.ofNat N]).toArray := by simp [bvs, bv]
              have slb : SlV (z2.alloc (.cells #[.int .u8 ((q : Int) % 256), .int .u8 ((N : Int) % 256)] 5)) (some ⟨z2.heap.size, 0, none⟩) 2 2 1 (bvs b) := lit_sl z2 5 _ 2 1 _ (by rw [hb]; exact harr) (by rw [hb]; rfl) (by unfold maxLen; omega)
              have hbl : b.length = 2 := by rw [hb]; rfl
              clear hb harr
              have hS6 := hS.out.step ((Below.refl _ _).alloc (Nat.le_refl _) (.cells #[.int .u8 ((q : Int) % 256), .int .u8 ((N : Int) % 256)] 5))
              have hb6 : c z2.heap.size = 0 := hS.out.law.fr _ (Nat.le_refl _)
              have hlS : Hid ((∀ l ∈ ls, 12 ≤ l.length ∧ l.length ≤ 100000) ∧ ∀ t ∈ ts, t < 2) := Lib.hid ⟨hlen.out, hts.out⟩
              have row6 : RowC c (z2.alloc (.cells #[.int .u8 ((q : Int) % 256), .int .u8 ((N : Int) % 256)] 5)) (.slice (some ⟨z2.heap.size, 0, none⟩) 2 2) b := ⟨_, _, by rw [hbl], by rw [hbl]; exact slb, fun x hx _ => by cases hx; exact hb6⟩
              have hPk := hP.out k hk2
              have hP' := hPk.send b
              obtain ⟨M', er, hse⟩ : ∃ M' er, sendM (M k) b = (M', er) := ⟨_, _, rfl⟩
              rw [hse] at hP'
              have HSE := Lib.hid hse
              have HPU : Hid (∀ j, j < 2 → RunP (upd M k M' j) key (q + 1)) := Lib.hid (upd_all (P := fun m => RunP m key (q + 1)) (fun j hj => (hP.out j hj).up) hP')
              have herr : (er != er) = false := by simp
              have hSlen : (S k).length ≤ 100000 := by have := (hS6.refs k hk2).slen; have := hPk.sum; omega
              clear hxc' hT' hN' hx8' hx hx1 hx2 hcont hse hP' hPk hP hlen hts hS
              rcases (show T = 0 ∨ T = 1 by omega) with rfl | rfl
              all_goals
                go_upto_region 29 with fail
                generalize z2.alloc (.cells #[.int .u8 ((q : Int) % 256), .int .u8 ((N : Int) % 256)] 5) = w6 at slb hS6 row6 ⊢
                generalize z2.heap.size = B at slb hb6 row6 ⊢
                have k0 := hS6.drewN 1
                have slb0 : SlV w6.drew (some ⟨B, 0, none⟩) 2 2 1 (bvs b) := slb.drew
                have row0 := row6.step hS6.law.fr (below_drewN (Below.refl _ _) 1)
                have hSf : ∀ (w' : World) (c' : Nat → Nat) (M' R' : Nat → EndM) (S' : Nat → List (List UInt8)), RunS W w' c' eb mb p r M' R' S' so n sc vs ls tao tc ts → w'.cell? ⟨eb, k, none⟩ = some (.pointer (some ⟨p k, 0, none⟩)) ∧ w'.cell? ⟨mb, k, none⟩ = some (.pointer (some ⟨r k, 0, none⟩)) := fun _ _ _ _ _ h => ⟨h.atE hk2, h.atM hk2⟩
                clear slb row6 hS6
                go_region_held (fun w' => w'.cell? ⟨eb, k, none⟩ = some (.pointer (some ⟨p k, 0, none⟩)) ∧ w'.cell? ⟨mb, k, none⟩ = some (.pointer (some ⟨r k, 0, none⟩))) (first | exact hSf _ _ _ _ _ k8 | exact hSf _ _ _ _ _ k7 | exact hSf _ _ _ _ _ k0) (first
                  | (go_at_call 54; refine (send_any c (k + 1) (p k) (M k) _ k0.law.fr (by omega) (k0.ends k hk2) (some ⟨B, 0, none⟩) 2 2 b slb0 (by decide)).mono ?_; rw [HSE.out]; rintro e w7 ⟨c7, st7, E7, rfl⟩; have k7 := k0.endStep hk2 st7 E7; have row7 := row0.stp st7 (by omega))
                  | (go_at_call 59; refine (rsend_any c7 (k + 3) (r k) (M k) (S k) _ k7.law.fr (by omega) (k7.refs k hk2) hSlen (some ⟨B, 0, none⟩) 2 2 b row7 (by decide)).mono ?_; unfold RSendP; rw [HSE.out]; rintro e w8 ⟨c8, st8, E8, rfl⟩; have k8 := k7.refStep hk2 st8 E8))
                all_goals go_wp2_with fail
                all_goals go_meet
                all_goals exact Lib.hid ⟨c8, _, _, so, n, sc, vs, ls, tao, tc, ts, by omega, rfl, rfl, k8, HPU.out, hlS.out⟩
          · by_cases hT4 : T < 4
            · as_aux_lemma =>
                have hlS : Hid ((∀ l ∈ ls, 12 ≤ l.length ∧ l.length ≤ 100000) ∧ ∀ t ∈ ts, t < 2) := Lib.hid ⟨hlen.out, hts.out⟩
                have hPk := hP.out k hk2
                have HPU : Hid (∀ j, j < 2 → RunP (upd M k (outM (M k)) j) key (q + 1)) := Lib.hid (upd_all (P := fun m => RunP m key (q + 1)) (fun j hj => (hP.out j hj).up) hPk.out)
                have hSlen : (S k).length ≤ 100000 := by have := (hS.out.refs k hk2).slen; have := hPk.sum; omega
                have hwf := hPk.wf
                obtain ⟨m, hm⟩ : ∃ m, (outP (M k)).length = m := ⟨_, rfl⟩
                have hm16 : m ≤ 16 := by rw [← hm]; exact out_few hwf
                have HM := Lib.hid hm
                have HPL := Lib.hid (out_len hwf)
                have hS0 := hS.out
                have z4 := hS0.atE hk2
                clear hxc' hT' hN' hx8' hx hx1 hx2 hcont hPk hP hlen hts hS hm
                rcases (show T = 2 ∨ T = 3 by omega) with rfl | rfl
                all_goals
                  have s40 := True.intro
                  go_upto_region 37 with (first
                    | (clear s40; go_at_call 51; refine (out_any c (k + 1) (p k) (M k) _ hS0.law.fr (by omega) hwf (hS0.ends k hk2)).mono ?_; rintro e w7 ⟨c7, v7, st7, E7, rfl, L7⟩; have k7 := hS0.endStep hk2 st7 E7; obtain ⟨ao7, cap7, rfl⟩ := L7.len (n := m) HM.out; have z7 := k7.atM hk2; have s41 := True.intro)
                    | (clear s41; go_at_call 60; refine (rout_any c7 (k + 3) (r k) (M k) (S k) _ k7.law.fr (by omega) hwf hSlen (k7.refs k hk2)).mono ?_; rintro e w8 ⟨c8, v8, st8, E8, rfl, L8⟩; have k8 := k7.refStep hk2 st8 E8; have L7' := L7.stp st8 (by omega); obtain ⟨ao8, cap8, rfl⟩ := L8.len (n := m) HM.out; have s42 := True.intro)
                    | (clear s42; go_at_call 61; refine (sameLists_any _ _ _ _ _ L7' L8).mono ?_; rintro e w9 ⟨rfl, hb9⟩; have L9 := L8.step k8.law.fr hb9; have k9 := k8.step hb9; have s43 := True.intro))
                  have hst : (upd S k (S k)) = upd S k (S k) := rfl
                  have H9 := Lib.hid k9
                  have HL9 := Lib.hid L9
                  obtain ⟨i28, hi28, hz0, hz1, hz2⟩ := info_parts Try.info28
                  obtain ⟨i3, hi3, hy0, hy1, hy2⟩ := info_parts Try.info3
                  have ewk : IntKind.i64.wrap (1 - (k : Int)) = ((1 - k : Nat) : Int) := by rw [IntWalk.i64_in _ (by omega)]; omega
                  clear st7 E7 k7 L7 z7 st8 E8 k8 L7' L8 L9 k9 hb9 z4 hS0 hst
                  go_wp2_with fail
                  go_loopw [9, 10, 17] (fun s t i wx => ∃ (u : Nat) (c : Nat → Nat) (so : Option Addr) (sc : Nat) (vs : List Value) (ls : List (List UInt8)) (tao : Option Addr) (tc : Nat) (ts : List Nat), u ≤ m ∧ i = .int .i64 u ∧ s = .slice so (n + u) sc ∧ t = .slice tao (n + u) tc ∧ Hid (RunS W wx c eb mb p r (upd M k (outM (M k))) (upd M k (outM (M k))) (upd S k (S k)) so (n + u) sc vs ls tao tc ts) ∧ Hid (ListC c wx (.slice ao8 m cap8) (outP (M k))) ∧ Hid ((∀ l ∈ ls, 12 ≤ l.length ∧ l.length ≤ 100000) ∧ ∀ t ∈ ts, t < 2)) (fun _ _ i _ => m - (intOf i).toNat)
                  case atStart => exact ⟨0, c8, so, sc, vs, ls, tao, tc, ts, by omega, rfl, rfl, rfl, H9, HL9, hlS⟩
                  case round =>
                    clear H9 HL9 hlS
                    obtain ⟨u, c, so, sc, vs, ls, tao, tc, ts, hu, rfl, rfl, rfl, hS, hL, hlS⟩ := hrel
                    by_cases hum : u < m
                    · obtain ⟨l, hl⟩ : ∃ l, (outP (M k))[u]? = some l := ⟨_, List.getElem?_eq_getElem (by rw [HM.out]; exact hum)⟩
                      obtain ⟨a8, rfl⟩ := hL.out.some (by rw [HM.out]; omega)
                      obtain ⟨bb, cb, zz, _, hrow⟩ := hL.out.get hl
                      have hll := HPL.out l (List.mem_of_getElem? hl)
                      have HROW := Lib.hid hrow
                      have hbA := (Below.refl wr.heap.size wr).alloc (Nat.le_refl _) (.cells #[Value.slice bb l.length cb] 28)
                      have hWs := hS.out.law.below.size
                      have hmx : n + u + 1 ≤ maxLen := by unfold maxLen; omega
                      clear hrow hl
                      have s50 := True.intro
                      go_wp2_with (first
                        | (clear s50; at_builtin; refine wpList_append_lies _ rfl (.tmp 204) (.tmp 209) 63 rfl W.heap.size 28 i28 (.slice none 0 0) 1 24 Try.underlying63 hi28 hz0 hz1 hz2 rfl (by decide) _ (n + u) vs rfl (hS.out.own.alloc _) ⟨wr.heap.size, 0, none⟩ 1 1 [.slice bb l.length cb] rfl rfl ((sl_new wr _ _).cell _ rfl) (by intro u hu; simp at hu; subst hu; rfl) (by decide) hmx (by omega) (by simp; omega) _ rfl ?_; intro g cap2 w1 hown hgrow hat hlt; obtain ⟨htown, hW1⟩ := hS.out.town_after hbA hgrow rfl; have s51 := True.intro)
                        | (clear s51; at_builtin; refine wpList_append_lies _ rfl (.tmp 211) (.tmp 214) 22 rfl W.heap.size 3 i3 (.int .i64 0) 1 8 Try.underlying22 hi3 hy0 hy1 hy2 rfl (by decide) _ (n + u) (nvs ts) rfl (htown.alloc _) ⟨w1.heap.size, 0, none⟩ 1 1 [.int .i64 ((1 - k : Nat) : Int)] rfl rfl ((sl_new w1 _ _).cell _ rfl) (by intro u hu; simp at hu; subst hu; rfl) (by decide) hmx (by omega) (by simp; omega) _ rfl ?_; intro g3 cap3 w2' hown3 hgrow3 hat3 hlt3; have s52 := True.intro))
                      obtain ⟨c', hS', hL'⟩ := hS.out.packet hbA (HROW.out.step hS.out.law.fr hbA) rfl hown hgrow hat hlt ((Below.refl w1.heap.size w1).alloc (Nat.le_refl _) (.cells #[.int .i64 ((1 - k : Nat) : Int)] 3)) rfl hown3 hgrow3 hat3 hlt3
                      go_roundw
                      case rel =>
                        refine ⟨u + 1, c', _, cap2, _, _, _, cap3, _, by omega, by go_num, rfl, rfl, Lib.hid hS', Lib.hid (hL' _ _ hL.out), Lib.hid ⟨fun x hx => ?_, fun x hx => ?_⟩⟩
                        · rcases List.mem_append.1 hx with hx | hx
                          · exact hlS.out.1 x hx
                          · simp at hx; subst hx; exact hll
                        · rcases List.mem_append.1 hx with hx | hx
                          · exact hlS.out.2 x hx
                          · simp at hx; omega
                      case measure => simp [intOf]; omega
                    · obtain rfl : u = m := by omega
                      go_wp2_with fail
                      go_meet
                      exact Lib.hid ⟨c, _, _, so, n + u, sc, vs, ls, tao, tc, ts, by omega, rfl, rfl, hS.out, HPU.out, hlS.out⟩
            · as_aux_lemma =>
                have hn0' : 0 < n := by omega
                have e0 : ((T : Int) == 0) = false := by simp; omega
                have e1 : ((T : Int) == 1) = false := by simp; omega
                have e2 : ((T : Int) == 2) = false := by simp; omega
                have e3 : ((T : Int) == 3) = false := by simp; omega
                have hlS : Hid ((∀ l ∈ ls, 12 ≤ l.length ∧ l.length ≤ 100000) ∧ ∀ t ∈ ts, t < 2) := Lib.hid ⟨hlen.out, hts.out⟩
                clear hxc' hT' hN' hx8' hx hx1 hx2 hcont hlen hts
                go_upto_region 14 with fail
                go_cut [18] (fun v wx => ∃ J : Nat, J < n ∧ v = .int .i64 J ∧ wx = z2)
                case first =>
                  by_cases hmn : n ≤ 20
                  · obtain ⟨D, hD, eD⟩ : ∃ D : Nat, D < n ∧ (N : Int) / 2 % (n : Int) = (D : Int) := ⟨N / 2 % n, Nat.mod_lt _ hn0', by norm_cast⟩
                    have ew1 : IntKind.i64.wrap ((n : Int) - 1) = (n : Int) - 1 := IntWalk.i64_in _ (by omega)
                    have ew2 : IntKind.i64.wrap ((n : Int) - 1 - (D : Int)) = (n : Int) - 1 - D := IntWalk.i64_in _ (by omega)
                    go_wp2_with fail
                    go_meet
                    exact ⟨n - 1 - D, by omega, by simp only [Value.int.injEq, true_and]; omega, rfl⟩
                  · obtain ⟨D, hD, eD⟩ : ∃ D : Nat, D < 20 ∧ (N : Int) / 2 % 20 = (D : Int) := ⟨N / 2 % 20, by omega, by omega⟩
                    have ew1 : IntKind.i64.wrap ((n : Int) - 1) = (n : Int) - 1 := IntWalk.i64_in _ (by omega)
                    have ew2 : IntKind.i64.wrap ((n : Int) - 1 - (D : Int)) = (n : Int) - 1 - D := IntWalk.i64_in _ (by omega)
                    go_wp2_with fail
                    go_meet
                    exact ⟨n - 1 - D, by omega, by simp only [Value.int.injEq, true_and]; omega, rfl⟩
                case rest =>
                  obtain ⟨J, hJ, rfl, rfl⟩ := hcut
                  have hJl : J < ls.length := by have := hS.out.rows.1; have := hS.out.own.1; omega
                  obtain ⟨l, hl⟩ : ∃ l, ls[J]? = some l := ⟨_, List.getElem?_eq_getElem hJl⟩
                  obtain ⟨v, hv⟩ : ∃ v, vs[J]? = some v := ⟨_, List.getElem?_eq_getElem (by rw [hS.out.rows.1]; exact hJl)⟩
                  obtain ⟨bb, cb, rfl, hsl, _⟩ := hS.out.rows.2 J v l hv hl
                  have hSL := ownsRow_sl hS.out.own
                  obtain ⟨ax, rfl⟩ := hSL.has hn0'
                  have hcell := hSL.cell ax rfl J _ hv
                  have hll := hlS.out.1 l (List.mem_of_getElem? hl)
                  have hJl2 : J < ts.length := by have := hS.out.town.1; simp [nvs] at this; omega
                  obtain ⟨t, ht⟩ : ∃ t, ts[J]? = some t := ⟨_, List.getElem?_eq_getElem hJl2⟩
                  have ht2 := hlS.out.2 t (List.mem_of_getElem? ht)
                  have HTJ := Lib.hid ht
                  have hSL2 := ownsRow_sl hS.out.town
                  obtain ⟨at', rfl⟩ := hSL2.has hn0'
                  have hcellt := hSL2.cell at' rfl J (.int .i64 (t : Int)) (by unfold nvs; rw [List.getElem?_map, ht]; rfl)
                  have hslB := fun w' (h : Below wc.heap.size wc w') => hsl.below h (Nat.le_refl _)
                  have hSS : ∀ w' : World, Below wc.heap.size wc w' → w'.cell? (ax.add J) = some (.slice bb l.length cb) := fun w' h => cell_later h hcell
                  have k0 : Below wc.heap.size wc wc.drew := (Below.refl _ _).drew
                  have slB0 := hslB _ k0
                  clear hl hv ht hSL hSL2 hsl
                  go_upto_region 15 with fail
                  go_region_held (fun w' => w'.cell? (ax.add J) = some (.slice bb l.length cb)) (first | exact hSS _ k1 | exact hSS _ k0) (first
                    | (go_at_call 44; refine (few2_any bb l.length cb l l.length _ slB0 (by omega)).mono ?_; rw [List.take_length]; rintro e w11 ⟨a11, k11, rfl, o11, hb11⟩; have k1 := k0.trans (hb11.mono k0.size)))
                  obtain ⟨w0, hw0⟩ : ∃ w0, w0 = wc := ⟨_, rfl⟩
                  subst hw0
                  have hl12 : 12 ≤ l.length := hll.1
                  have hl15 : l.length ≤ 100000 := hll.2
                  obtain ⟨g, cap, hg, _, _⟩ := World.ownsRow.form o11 (by omega)
                  obtain ⟨rfl, rfl⟩ : a11 = some ⟨g, 0, none⟩ ∧ k11 = cap := by injection hg with x y z; exact ⟨x, z⟩
                  clear hg hslB hSS slB0 hcell hll
                  have HP1 := Lib.hid hP.out
                  clear hcellt hP
                  have hf0 : Fr c w0 := hS.out.law.fr
                  go_upto_if 92 with fail
                  go_cut [19] (fun v wx => ∃ (g cp : Nat) (bl : List UInt8), v = .slice (some ⟨g, 0, none⟩) bl.length cp ∧ Hid (RowC c wx (.slice (some ⟨g, 0, none⟩) bl.length cp) bl) ∧ 12 ≤ bl.length ∧ bl.length ≤ 100000 ∧ Below w0.heap.size w0 wx)
                  case first =>
                    as_aux_lemma =>
                      by_cases h13 : N % 13 = 0
                      · have e13 : ((N : Int) % 13 == 0) = true := by simp; omega
                        obtain ⟨I, hI, eI⟩ : ∃ I : Nat, I < l.length ∧ (N : Int) / 13 % (l.length : Int) = (I : Int) := ⟨N / 13 % l.length, Nat.mod_lt _ (by omega), by norm_cast⟩
                        obtain ⟨x0, hx0⟩ : ∃ x0, l[I]? = some x0 := ⟨_, List.getElem?_eq_getElem hI⟩
                        obtain ⟨hc11, hf11, hB11, hset⟩ := own_set o11 hx0
                        have hset' := RowC.own (w := w0.drew) hf0 (hset (UInt8.ofNat N))
                        have hv2 : IntKind.u8.wrap (N : Int) = ((UInt8.ofNat N).toNat : Int) := by rw [IntKind.wrap_u8, UInt8.toNat_ofNat']; omega
                        have HSL := Lib.hid hset'
                        have hBB := k1.setCell (p := ⟨g, I, none⟩) hB11 (.int .u8 ((UInt8.ofNat N).toNat : Int))
                        have hll2 : (l.set I (UInt8.ofNat N)).length = l.length := by rw [List.length_set]
                        have HLL := Lib.hid hll2
                        clear hset hset' o11 hx0 hll2
                        go_wp2_with fail
                        go_meet
                        exact ⟨g, _, l.set I (UInt8.ofNat N), by rw [HLL.out], HSL, by rw [HLL.out]; exact hl12, by rw [HLL.out]; exact hl15, hBB⟩
                      · have e13 : ((N : Int) % 13 == 0) = false := by simp; omega
                        have HSL := Lib.hid (RowC.own (w := w0.drew) hf0 o11)
                        clear o11
                        go_wp2_with fail
                        go_meet
                        exact ⟨g, _, l, rfl, HSL, hl12, hl15, k1⟩
                  case rest =>
                    as_aux_lemma =>
                      clear o11 hb11 k0 k1 hl12 hl15
                      obtain ⟨g2, cp2, bl, rfl, hsl, hb12, hb15, hbw⟩ := hcut
                      obtain ⟨w1', hw1'⟩ : ∃ w1', w1' = wc := ⟨_, rfl⟩
                      subst hw1'
                      go_upto_if 104 with fail
                      go_cut [19] (fun v wx => ∃ (ao : Option Addr) (cp : Nat) (bl : List UInt8), v = .slice ao bl.length cp ∧ Hid (RowC c wx (.slice ao bl.length cp) bl) ∧ 12 ≤ bl.length ∧ bl.length ≤ 100000 ∧ Below w0.heap.size w0 wx)
                      case first =>
                        as_aux_lemma =>
                          by_cases h17 : N % 17 = 0
                          · have e17 : ((N : Int) % 17 == 0) = true := by simp; omega
                            obtain ⟨H, hH, eH⟩ : ∃ H : Nat, H < 3 ∧ (N : Int) % 3 = (H : Int) := ⟨N % 3, by omega, by omega⟩
                            have hslH := slv_take hsl.out.slv (show H ≤ bl.length by omega)
                            have hHc : H ≤ cp2 := by have := hsl.out.slv.le; omega
                            obtain ⟨SQ, hSQ⟩ : ∃ SQ : Int, (N : Int) / 17 % 30 = SQ := ⟨_, rfl⟩
                            obtain ⟨AK, hAK⟩ : ∃ AK : Int, IntKind.i64.wrap ((N : Int) / 510 % 9 - 1) = AK := ⟨_, rfl⟩
                            have hAK' : (N : Int) / 510 % 9 - 1 = AK := by rw [← hAK]; exact (IntWalk.i64_in _ (by omega)).symm
                            have hi1 : InR SQ := by unfold InR; omega
                            have hi2 : InR AK := by unfold InR; omega
                            have hpl := pkt_len SQ AK (bl.take H)
                            have hpw := pkt_low SQ AK (bl.take H)
                            have htl : (bl.take H).length = H := by rw [List.length_take]; omega
                            rw [htl] at hpl
                            have hlen8 : (sealB key (pktB SQ AK (bl.take H))).length = (pktB SQ AK (bl.take H)).length + 8 := sealB_length _ _
                            have HSLH := Lib.hid hslH
                            have HLEN := Lib.hid hlen8
                            clear hslH htl hAK' hlen8
                            have s60 := True.intro
                            go_wp2_with (first
                              | (clear s60; go_at_call 49; refine (rpkt_any SQ AK hi1 hi2 _ H cp2 (bl.take H) _ HSLH.out (by omega)).mono ?_; rintro e w4 ⟨a4, c4, rfl, ho4, hb4⟩; have s61 := True.intro)
                              | (clear s61; go_at_call 48; refine (rseal_any key hk a4 _ c4 (pktB SQ AK (bl.take H)) _ ho4.sl (by omega)).mono ?_; rintro e w5 ⟨a5, c5, rfl, ho5, hb5⟩; have s62 := True.intro))
                            go_meet
                            have hb45 := hbw.trans (hb4.mono hbw.size)
                            exact ⟨a5, c5, _, rfl, Lib.hid (RowC.own (hf0.below hb45) ho5), by rw [HLEN.out]; omega, by rw [HLEN.out]; omega, hb45.trans (hb5.mono hb45.size)⟩
                          · have e17 : ((N : Int) % 17 == 0) = false := by simp; omega
                            go_wp2_with fail
                            go_meet
                            exact ⟨_, cp2, bl, rfl, hsl, hb12, hb15, hbw⟩
                      case rest =>
                        as_aux_lemma =>
                          clear hsl hb12 hb15 hbw
                          obtain ⟨ao3, cp3, bl3, rfl, hsl3, hb312, hb315, hbw3⟩ := hcut
                          obtain ⟨w2', hw2'⟩ : ∃ w2', w2' = wc := ⟨_, rfl⟩
                          subst hw2'
                          go_upto_if 122 with fail
                          go_cut [19] (fun v wx => ∃ (ao : Option Addr) (cp : Nat) (bl : List UInt8), v = .slice ao bl.length cp ∧ Hid (RowC c wx (.slice ao bl.length cp) bl) ∧ bl.length ≤ 100000 ∧ Below w0.heap.size w0 wx)
                          case first =>
                            as_aux_lemma =>
                              by_cases h19 : N % 19 = 0
                              · have e19 : ((N : Int) % 19 == 0) = true := by simp; omega
                                obtain ⟨H, hH, eH⟩ : ∃ H : Nat, H < 12 ∧ (N : Int) % 12 = (H : Int) := ⟨N % 12, by omega, by omega⟩
                                have hHc : H ≤ cp3 := by have := hsl3.out.slv.le; omega
                                obtain ⟨g3, rfl⟩ := hsl3.out.slv.has (by omega)
                                have htl : (bl3.take H).length = H := by rw [List.length_take]; omega
                                have hrow : RowC c w2' (.slice (some g3) H cp3) (bl3.take H) := by
                                  obtain ⟨a', cp', e, _, hcol⟩ := hsl3.out
                                  injection e with e1' e2' e3'
                                  subst e1' e3'
                                  exact ⟨_, _, by rw [htl], by rw [htl]; exact slv_take hsl3.out.slv (by omega), fun x hx _ => hcol x hx (by omega)⟩
                                have HROW := Lib.hid hrow
                                have HTL := Lib.hid htl
                                clear hrow htl
                                go_wp2_with fail
                                go_meet
                                exact ⟨some g3, cp3, bl3.take H, by rw [HTL.out], by rw [HTL.out]; exact HROW, by rw [HTL.out]; omega, hbw3⟩
                              · have e19 : ((N : Int) % 19 == 0) = false := by simp; omega
                                go_wp2_with fail
                                go_meet
                                exact ⟨_, cp3, bl3, rfl, hsl3, hb315, hbw3⟩
                          case rest =>
                            as_aux_lemma =>
                              clear hsl3 hb312 hb315 hbw3
                              obtain ⟨ao4, cp4, bl4, rfl, hsl4, hb415, hbw4⟩ := hcut
                              have hS4 := hS.out.step hbw4
                              clear hS hbw4
                              have hPt := HP1.out t ht2
                              have hwf := hPt.wf
                              have hsm := hPt.small (by omega)
                              have hgap := hPt.gap
                              have hP' := hPt.in_ (by omega) bl4
                              obtain ⟨M', xs, er, hin⟩ : ∃ M' xs er, inM (M t) bl4 = (M', xs, er) := ⟨_, _, _, rfl⟩
                              rw [hin] at hP'
                              have HIN := Lib.hid hin
                              have HPU : Hid (∀ j, j < 2 → RunP (upd M t M' j) key (q + 1)) := Lib.hid (upd_all (P := fun m => RunP m key (q + 1)) (fun j hj => (HP1.out j hj).up) hP')
                              have herr : (er != er) = false := by simp
                              obtain ⟨m, hm⟩ : ∃ m, xs.length = m := ⟨_, rfl⟩
                              have HM := Lib.hid hm
                              have zt := hS4.atT HTJ.out rfl
                              have ze := hS4.atE ht2
                              have HW := Lib.hid hwf
                              have HG := Lib.hid hgap
                              clear hin hP' hPt hm hwf hgap
                              have s70 := True.intro
                              go_wp2_with (first
                                | (clear s70; go_at_call 50; refine (in_any c (t + 1) (p t) (M t) _ hS4.law.fr (by omega) HW.out hsm (hS4.ends t ht2) ao4 _ cp4 bl4 hsl4.out.slv (by omega)).mono ?_; rw [HIN.out]; rintro e w7 ⟨c7, v7, st7, E7, rfl, L7⟩; have k7 := hS4.endStep ht2 st7 E7; have row7 := hsl4.out.stp st7 (by omega); obtain ⟨ao7, cap7, rfl⟩ := L7.len (n := m) HM.out; have zt7 := k7.atT HTJ.out rfl; have zm7 := k7.atM ht2; have s71 := True.intro)
                                | (clear s71; go_at_call 62; refine (rin_any c7 (t + 3) (r t) (M t) (S t) _ k7.law.fr (by omega) HW.out hsm HG.out (k7.refs t ht2) ao4 _ cp4 bl4 row7.slv (by omega)).mono ?_; rw [HIN.out]; rintro e w8 ⟨c8, v8, st8, E8, rfl, L8⟩; have k8 := k7.refStep ht2 st8 E8; have L7' := L7.stp st8 (by omega); obtain ⟨ao8, cap8, rfl⟩ := L8.len (n := m) HM.out; have s72 := True.intro)
                                | (clear s72; go_at_call 61; refine (sameLists_any _ _ _ _ _ L7' L8).mono ?_; rintro e w9 ⟨rfl, hb9⟩; have k9 := k8.step hb9; have s73 := True.intro))
                              go_meet
                              exact Lib.hid ⟨c8, _, _, _, n, sc, vs, ls, _, tc, ts, by omega, rfl, rfl, k9, HPU.out, hlS.out⟩
        case rest =>
          as_aux_lemma =>
            clear hS hP hlen hts hxc' hcont hT' hN' hT8 hN30 hkN hk2 hx hx1 hx2 hx8' hn
            obtain ⟨c, M, S, so, n, sc, vs, ls, tao, tc, ts, hn, rfl, rfl, hS0, hP0, hlen0, hts0⟩ := hcut.out
            have hS := Lib.hid hS0
            have hlt := Lib.hid (⟨hlen0, hts0⟩ : (∀ l ∈ ls, 12 ≤ l.length ∧ l.length ≤ 100000) ∧ (∀ t ∈ ts, t < 2))
            clear hS0 hlen0 hts0
            go_wp2_with fail
            go_loopw [24] (fun i wx => ∃ t : Nat, t ≤ 2 ∧ i = .int .i64 t ∧ Hid (RunS W wx c eb mb p r M M S so n sc vs ls tao tc ts)) (fun i _ => 2 - (intOf i).toNat)
            case atStart => exact ⟨0, by omega, rfl, hS⟩
            case round =>
              clear hS
              obtain ⟨t, ht, rfl, hS⟩ := hrel
              by_cases ht2 : t < 2
              · obtain ⟨so', sc', ho', hc', vs', us', hl', hQ⟩ := (hS.out.refs t ht2).open
                have z1 := hS.out.atE ht2
                have z2 := hS.out.atM ht2
                obtain ⟨x0, x1, x2, x3, x4, x5, x6, x7, f2, f3, f4, f5, f6, f7⟩ := ref_cells hQ.str
                have hac := hQ.ack
                have hPt := hP0 t ht2
                have hwa := hPt.wf.wait
                have hsum := hPt.sum
                have hwl : (M t).waiting.length = (S t).length - (M t).acked := by rw [hQ.wait, List.length_drop]
                have ew : IntKind.i64.wrap (((S t).length : Int) - ((M t).acked : Int)) = ((M t).waiting.length : Int) := by rw [IntWalk.i64_in _ (by omega)]; omega
                have hne1 : (((M t).waiting.length : Int) != ((M t).waiting.length : Int)) = false := by simp
                have hne2 : (((M t).forged : Int) != ((M t).forged : Int)) = false := by simp
                have hw56 : ∀ d', Calls Try.prog 56 #[.pointer (some ⟨p t, 0, none⟩)] (wr.drewN d') (fun e w' => e = .returned (.int .i64 ((M t).waiting.length : Int)) ∧ w' = wr.drewN d') := fun d' => waiting_any c (t + 1) (p t) (M t) _ ((hS.out.drewN d').ends t ht2)
                have hw52 : ∀ d', Calls Try.prog 52 #[.pointer (some ⟨p t, 0, none⟩)] (wr.drewN d') (fun e w' => e = .returned (.int .i64 ((M t).forged : Int)) ∧ w' = wr.drewN d') := fun d' => forged_any c (t + 1) (p t) (M t) _ ((hS.out.drewN d').ends t ht2)
                clear hQ hwl hac hPt hsum
                go_wp2_with fail
                go_quiet (first
                  | (go_at_call 56; refine Calls.quiet_of_same (hw56 _))
                  | (go_at_call 52; refine Calls.quiet_of_same (hw52 _)))
                go_wp2
                go_roundw
                case rel => exact ⟨t + 1, by omega, by go_num, Lib.hid (hS.out.drewN nq)⟩
                case measure => simp [intOf]; omega
              · obtain rfl : t = 2 := by omega
                go_wp2_with fail
                go_roundw
                case rel => exact ⟨q + 1, by omega, by omega, by go_num, Lib.hid ⟨c, M, S, so, n, sc, vs, ls, tao, tc, ts, hn, rfl, rfl, hS.out, hP0, hlt.out⟩⟩
                case measure => simp [intOf]; omega

theorem law13 (W : World) (win : Int) (hw : InR win) (key : Nat) (hk : key < 18446744073709551616) (ao : Option Addr) (n0 c0 : Nat) (lx : List Int) (hr : SlV W ao n0 c0 1 (lx.map iv)) (hall : ∀ x ∈ lx, InR x) :
    Calls Try.prog 13 #[.int .i64 win, .int .u64 (key : Int), .slice ao n0 c0] W (fun e w' => e = .returned (.bool true) ∧ Below W.heap.size W w' ∧ True) :=
  (l13_any W win hw key hk ao n0 c0 lx hr hall).mono fun _ _ h => ⟨h.1, h.2, trivial⟩

end Go.Proofs.Ytcpemgfpiapaaaa
