/- LinkOrder. -/
import Derived.Test.YtcpemgfpiapaaaaOrC
namespace Go.Proofs.Ytcpemgfpiapaaaa
open Go.RowKit

set_option maxRecDepth 100000 in
set_option maxHeartbeats 4000000 in
theorem l15_any (W : World) (win : Int) (hw : InR win) (key : Nat) (hk : key < 18446744073709551616) (ao : Option Addr) (n0 c0 : Nat) (lx : List Int) (hr : SlV W ao n0 c0 1 (lx.map iv)) (hall : ∀ x ∈ lx, InR x) :
    Calls Try.prog 15 #[.int .i64 win, .int .u64 (key : Int), .slice ao n0 c0] W (fun e w' => e = .returned (.bool true) ∧ Below W.heap.size W w') := by
  obtain ⟨a0, h0, h0'⟩ := around_K (at' := win) (n := 16) (by omega)
  obtain ⟨a1, h1, h1'⟩ := around_K (at' := win.tdiv 16) (n := 16) (by omega)
  have h0e : around win 16 = (a0 : Int) := h0'
  have h1e : around (win.tdiv 16) 16 = (a1 : Int) := h1'
  have hxn : lx.length = n0 := by have := hr.len; simpa using this
  have HRL := Lib.hid hr
  have HALL := Lib.hid hall
  have HXN := Lib.hid hxn
  clear h0' h1' hr hall hxn
  have qN : ∀ (w : World) (a : Option Addr) (l c : Nat), (binOp .eql 76 (.slice a l c) (.slice none 0 0)).run Try.prog w = .ok (.bool a.isNone) w := fun w a l c => Lib.run_eql_slice_nil w 76 57 a l c 0 0 Try.underlying76
  have s0 := True.intro
  go_enter Try.func15, Try.ntmps15
  go_upto_region 6 with (first
    | (clear s0; go_at_call 58; refine (ends_any _ win hw key a0 a1 h0e h1e h0 h1).mono ?_; rintro e w1 ⟨c1, eb, p0, p1, rfl, hL1, hA1, hB1, hce, hEB⟩; have s1 := True.intro))
  have hRS := or_start hk h0 h1 hL1 hA1 hB1 hce hEB
  generalize ((w1.alloc (Obj.cells #[Value.slice none 0 0, Value.slice none 0 0] 63)).alloc (Obj.cells #[Value.int IntKind.i64 0, Value.int IntKind.i64 0] 3)) = W5 at hRS ⊢
  generalize (fun j : Nat => if j = 0 then p0 else p1) = p at hRS
  generalize w1.heap.size + 1 = gb at hRS ⊢
  generalize w1.heap.size = sb at hRS ⊢
  have HR5 := Lib.hid hRS
  clear hRS hL1 hA1 hB1 hce hEB h0e h1e
  have RX : Hid (∀ i, i < n0 → ∃ x : Int, InR x ∧ ∃ a, ao = some a ∧ W.cell? (a.add i) = some (.int .i64 x)) := Lib.hid fun i hi => by
    obtain ⟨a, rfl⟩ := HRL.out.has (by omega)
    obtain ⟨x, hx⟩ : ∃ x, lx[i]? = some x := ⟨_, List.getElem?_eq_getElem (by rw [HXN.out]; exact hi)⟩
    exact ⟨x, HALL.out x (List.mem_of_getElem? hx), a, rfl, HRL.out.cell a rfl i _ (by rw [List.getElem?_map, hx]; rfl)⟩
  have hn0 : n0 ≤ 9223372036854775807 := by
    have := Nat.le_trans HRL.out.le HRL.out.top
    unfold maxLen at this
    exact this
  clear HALL HXN
  go_wp2_with fail
  go_loopw [10, 11, 12, 13, 14, 15, 16, 17, 18, 19, 20, 21, 22, 23] (fun s t i _ _ _ _ _ _ _ _ _ _ _ wr => ∃ (q : Nat), q ≤ 80 ∧ q ≤ n0 ∧ i = .int .i64 q ∧ Hid (OrR W wr eb sb gb p key q s t)) (fun _ _ i _ _ _ _ _ _ _ _ _ _ _ _ => 80 - (intOf i).toNat)
  case atStart => exact ⟨0, by omega, by omega, rfl, HR5⟩
  case round =>
    obtain ⟨q, hq80, hqn, rfl, hRnd⟩ := hrel
    obtain ⟨c, M, S, so, sc, sv, G, po, n, pc, vs, ls, tao, tc, ts, hn, rfl, rfl, hS0, hK0⟩ := hRnd.out
    have hS := Lib.hid hS0
    have hK := Lib.hid hK0
    clear hRnd hS0 hK0 HR5
    by_cases hexit : q = n0 ∨ q = 80
    · have hb := hS.out.law
      as_aux_lemma =>
        by_cases e1 : q < n0
        · have e2 : q = 80 := by omega
          subst e2
          clear hexit
          have s9 := True.intro
          go_wp2_with (first
            | (clear s9; go_at_call 53; refine (lives_any _).mono ?_; rintro e y9 ⟨rfl, hb9⟩; have hL9 := hb.step hb9; have s10 := True.intro))
          go_ret
          exact ⟨rfl, hL9.below⟩
        · have e2 : q = n0 := by omega
          subst e2
          clear hexit
          have s9 := True.intro
          go_wp2_with (first
            | (clear s9; go_at_call 53; refine (lives_any _).mono ?_; rintro e y9 ⟨rfl, hb9⟩; have hL9 := hb.step hb9; have s10 := True.intro))
          go_ret
          exact ⟨rfl, hL9.below⟩
    · have d1 : decide ((q : Int) < (n0 : Int)) = true := decide_eq_true (by omega)
      have d2 : decide ((q : Int) < 80) = true := decide_eq_true (by omega)
      have hql : q < n0 ∧ q < 80 := by omega
      clear hexit
      obtain ⟨x, hx, a, rfl, hxc⟩ := RX.out q hql.1
      have hxc' : wr.cell? (a.add q) = some (.int .i64 x) := cell_later hS.out.law.below hxc
      have hx8 := inr_quoN hx 8 (by omega)
      obtain ⟨T, hT8, hT⟩ := around_K (at' := x) (n := 8) (by omega)
      obtain ⟨N, hN30, hN⟩ := around_K (at' := x.tdiv 8) (n := 1073741824) (by omega)
      have hT' : around x 8 = (T : Int) := hT
      have hN' : around (x.tdiv 8) 1073741824 = (N : Int) := hN
      have hx1 : -9223372036854775808 ≤ x := hx.1
      have hx2 : x ≤ 9223372036854775807 := hx.2
      have hx8' : InR (x.tdiv 8) := hx8
      clear hT hN hx8 hxc
      have s0 := True.intro
      go_upto_block 2 with (first
        | (clear s0; go_at_call 45; refine (around_any (x.tdiv 8) 1073741824 hx8' (by omega) _).mono ?_; rw [hN']; rintro e z1 ⟨rfl, rfl⟩; have s1 := True.intro)
        | (clear s1; go_at_call 45; refine (around_any x 8 hx (by omega) _).mono ?_; rw [hT']; rintro e z2 ⟨rfl, rfl⟩; have s2 := True.intro))
      obtain ⟨k, hk2, hkN⟩ : ∃ k : Nat, k < 2 ∧ ((N : Int) % 2) = (k : Int) := ⟨N % 2, by omega, by omega⟩
      rw [hkN]
      by_cases hcont : 4 ≤ T ∧ n = 0
      · as_aux_lemma =>
          obtain ⟨hT4, rfl⟩ := hcont
          have e0 : ((T : Int) == 0) = false := by simp; omega
          have e1 : ((T : Int) == 1) = false := by simp; omega
          have e2 : ((T : Int) == 2) = false := by simp; omega
          have e3 : ((T : Int) == 3) = false := by simp; omega
          go_wp2_with fail
          go_roundw
          case rel => exact ⟨q + 1, by omega, by omega, by go_num, Lib.hid ⟨c, M, S, so, sc, sv, G, po, 0, pc, vs, ls, tao, tc, ts, by omega, rfl, rfl, hS.out, hK.out.up⟩⟩
          case measure => simp [intOf]; omega
      · go_cut [10, 11] (fun s t wx => Hid (OrR W wx eb sb gb p key (q + 1) s t))
        case first =>
          by_cases hT2 : T < 2
          · as_aux_lemma =>
              obtain ⟨b, hb⟩ : ∃ b : List UInt8, b = [UInt8.ofNat q, 3] := ⟨_, rfl⟩
              have hv1 : IntKind.u8.wrap (q : Int) = (q : Int) % 256 := IntKind.wrap_u8 _
              have harr : (#[.int .u8 ((q : Int) % 256), .int .u8 3] : Array Value) = (bvs [UInt8.ofNat q, 3]).toArray := by simp [bvs, bv]
              have slb : SlV (z2.alloc (.cells #[.int .u8 ((q : Int) % 256), .int .u8 3] 5)) (some ⟨z2.heap.size, 0, none⟩) 2 2 1 (bvs b) := lit_sl z2 5 _ 2 1 _ (by rw [hb]; exact harr) (by rw [hb]; rfl) (by unfold maxLen; omega)
              have hbl : b.length = 2 := by rw [hb]; rfl
              clear hb harr
              have hS6 := hS.out.step ((Below.refl _ _).alloc (Nat.le_refl _) (.cells #[.int .u8 ((q : Int) % 256), .int .u8 3] 5))
              have hb6 : c z2.heap.size = 0 := hS.out.law.fr _ (Nat.le_refl _)
              have row6 : RowC c (z2.alloc (.cells #[.int .u8 ((q : Int) % 256), .int .u8 3] 5)) (.slice (some ⟨z2.heap.size, 0, none⟩) 2 2) b := ⟨_, _, by rw [hbl], by rw [hbl]; exact slb, fun x hx _ => by cases hx; exact hb6⟩
              obtain ⟨hs0', hK'⟩ := hK.out.send (by omega) hk2 (b := b) (by omega)
              obtain ⟨M', er, hse⟩ : ∃ M' er, sendM (M k) b = (M', er) := ⟨_, _, rfl⟩
              rw [hse] at hs0' hK'
              obtain rfl : er = 0 := hs0'
              have HSE := Lib.hid hse
              have HK' := Lib.hid hK'
              have hSl : (S k).length ≤ 80 := by have := (hK.out.ends k hk2).few; omega
              obtain ⟨SL, hSL⟩ : ∃ SL, (S k).length = SL := ⟨_, rfl⟩
              have hmx : SL + 1 ≤ maxLen := by unfold maxLen; omega
              have HSL := Lib.hid hSL
              obtain ⟨i28, hi28, hz0, hz1, hz2⟩ := info_parts Try.info28
              have ze := hS6.atE hk2
              clear hxc' hT' hN' hx8' hx hx1 hx2 hcont hse hK' hK hS
              rcases (show T = 0 ∨ T = 1 by omega) with rfl | rfl
              all_goals
                go_upto_region 29 with fail
                generalize z2.alloc (.cells #[.int .u8 ((q : Int) % 256), .int .u8 3] 5) = w6 at slb hS6 row6 ze ⊢
                generalize z2.heap.size = B at slb hb6 row6 ⊢
                have s40 := True.intro
                go_wp2_with (first
                  | (clear s40; go_at_call 54; refine (send_any c (k + 1) (p k) (M k) _ hS6.law.fr (by omega) (hS6.ends k hk2) (some ⟨B, 0, none⟩) 2 2 b slb (by decide)).mono ?_; rw [HSE.out]; rintro e w7 ⟨c7, st7, E7, rfl⟩; have k7 := hS6.endStep hk2 st7 E7; have row7 := row6.stp st7 (by omega); obtain ⟨zs, zf⟩ := k7.atS hk2; rw [HSL.out] at zs; have hW7 := k7.law.below.size; have own7 := (k7.sent k hk2).own; rw [HSL.out] at own7; have s41 := True.intro)
                  | (clear s41; at_builtin; refine wpList_append_lies _ rfl (.tmp 140) (.tmp 142) 63 rfl W.heap.size 28 i28 (.slice none 0 0) 1 24 Try.underlying63 hi28 hz0 hz1 hz2 rfl (by decide) _ SL (sv k) rfl (own7.alloc _) ⟨w7.heap.size, 0, none⟩ 1 1 [.slice (some ⟨B, 0, none⟩) 2 2] rfl rfl ((sl_new w7 _ _).cell _ rfl) (by intro u hu; simp at hu; subst hu; rfl) (by decide) hmx (by omega) (by simp; omega) _ rfl ?_; intro g cap2 w8 hown hgrow hat hlt; have hbA := (Below.refl w7.heap.size w7).alloc (Nat.le_refl _) (.cells #[Value.slice (some ⟨B, 0, none⟩) 2 2] 28); obtain ⟨zs8, zf8⟩ := k7.sb_after hk2 hbA hgrow (by rw [HSL.out]; rfl); have s42 := True.intro))
                go_meet
                rw [← HSL.out] at hown
                obtain ⟨c', hS'⟩ := k7.sentMore hk2 hbA (row7.step k7.law.fr hbA) (by rw [HSL.out]; rfl) hown hgrow hat hlt
                rw [HSL.out] at hS'
                exact Lib.hid ⟨c', _, _, _, _, _, G, po, n, pc, vs, ls, tao, tc, ts, by omega, rfl, rfl, hS', HK'.out⟩
          · by_cases hT4 : T < 4
            · as_aux_lemma =>
                obtain ⟨hK', hPK⟩ := hK.out.out (by omega) hk2
                have hwf := (hK.out.ends k hk2).run.wf
                obtain ⟨m, hm⟩ : ∃ m, (outP (M k)).length = m := ⟨_, rfl⟩
                have hm16 : m ≤ 16 := by rw [← hm]; exact out_few hwf
                have HM := Lib.hid hm
                have HPL := Lib.hid (out_len hwf)
                have HPK := Lib.hid hPK
                have hS0 := hS.out
                have z4 := hS0.atE hk2
                have HK' := Lib.hid hK'
                have hln : ls.length = n ∧ ts.length = n := by
                  have h1 := hS0.pkr.1
                  have h2 := hS0.pk.own.1
                  have h3 := hS0.tw.own.1
                  simp [nvs] at h3
                  omega
                have HLN := Lib.hid hln
                clear hxc' hT' hN' hx8' hx hx1 hx2 hcont hK' hK hPK hS hm hln
                rcases (show T = 2 ∨ T = 3 by omega) with rfl | rfl
                all_goals
                  have s40 := True.intro
                  go_upto_region 35 with (first
                    | (clear s40; go_at_call 51; refine (out_any c (k + 1) (p k) (M k) _ hS0.law.fr (by omega) hwf (hS0.ends k hk2)).mono ?_; rintro e w9 ⟨c8, v8, st7, E7, rfl, L9⟩; have k9 := hS0.endStep hk2 st7 E7; obtain ⟨ao8, cap8, rfl⟩ := L9.len (n := m) HM.out; have s41 := True.intro))
                  have H9 := Lib.hid k9
                  have HL9 := Lib.hid L9
                  obtain ⟨i28, hi28, hz0, hz1, hz2⟩ := info_parts Try.info28
                  obtain ⟨i3, hi3, hy0, hy1, hy2⟩ := info_parts Try.info3
                  have ewk : IntKind.i64.wrap (1 - (k : Int)) = ((1 - k : Nat) : Int) := by rw [IntWalk.i64_in _ (by omega)]; omega
                  clear st7 E7 L9 k9 z4 hS0
                  go_wp2_with fail
                  go_loopw [10, 11, 17] (fun s t i wx => ∃ (u : Nat) (c : Nat → Nat) (po : Option Addr) (pc : Nat) (vs : List Value) (ls : List (List UInt8)) (tao : Option Addr) (tc : Nat) (ts : List Nat), u ≤ m ∧ i = .int .i64 u ∧ s = .slice po (n + u) pc ∧ t = .slice tao (n + u) tc ∧ Hid (OrS W wx c eb sb gb p (upd M k (outM (M k))) S so sc sv G po (n + u) pc vs ls tao tc ts) ∧ Hid (ListC c wx (.slice ao8 m cap8) (outP (M k))) ∧ Hid (OrK (upd M k (outM (M k))) S G ls ts key (q + 1)) ∧ Hid (ls.length = n + u ∧ ts.length = n + u)) (fun _ _ i _ => m - (intOf i).toNat)
                  case atStart => exact ⟨0, c8, po, pc, vs, ls, tao, tc, ts, by omega, rfl, rfl, rfl, H9, HL9, HK', HLN⟩
                  case round =>
                    clear H9 HL9 HK' HLN
                    obtain ⟨u, c, po, pc, vs, ls, tao, tc, ts, hu, rfl, rfl, rfl, hS, hL, hKK, hLN⟩ := hrel
                    by_cases hum : u < m
                    · obtain ⟨l, hl⟩ : ∃ l, (outP (M k))[u]? = some l := ⟨_, List.getElem?_eq_getElem (by rw [HM.out]; exact hum)⟩
                      obtain ⟨a8, rfl⟩ := hL.out.some (by rw [HM.out]; omega)
                      obtain ⟨bb, cb, zz, _, hrow⟩ := hL.out.get hl
                      have hll := HPL.out l (List.mem_of_getElem? hl)
                      have hpk := HPK.out l (List.mem_of_getElem? hl)
                      have e1k : 1 - (1 - k) = k := by omega
                      have hpk2 : PkI l key (S (1 - (1 - k))) (upd M k (outM (M k)) (1 - (1 - k))).delivered := by rw [e1k, upd_same]; exact hpk
                      have HK2 := Lib.hid (hKK.out.packet (hLN.out.1.trans hLN.out.2.symm) (t := 1 - k) (by omega) hll.2 hpk2)
                      have HLN2 : Hid ((ls ++ [l]).length = n + (u + 1) ∧ (ts ++ [1 - k]).length = n + (u + 1)) := Lib.hid (by have := hLN.out; simp; omega)
                      have HROW := Lib.hid hrow
                      have hbA := (Below.refl wr.heap.size wr).alloc (Nat.le_refl _) (.cells #[Value.slice bb l.length cb] 28)
                      have hWs := hS.out.law.below.size
                      have hmx : n + u + 1 ≤ maxLen := by unfold maxLen; omega
                      clear hrow hl hpk hpk2 hll e1k
                      have s50 := True.intro
                      go_wp2_with (first
                        | (clear s50; at_builtin; refine wpList_append_lies _ rfl (.tmp 159) (.tmp 164) 63 rfl W.heap.size 28 i28 (.slice none 0 0) 1 24 Try.underlying63 hi28 hz0 hz1 hz2 rfl (by decide) _ (n + u) vs rfl (hS.out.pk.own.alloc _) ⟨wr.heap.size, 0, none⟩ 1 1 [.slice bb l.length cb] rfl rfl ((sl_new wr _ _).cell _ rfl) (by intro u hu; simp at hu; subst hu; rfl) (by decide) hmx (by omega) (by simp; omega) _ rfl ?_; intro g cap2 w1 hown hgrow hat hlt; obtain ⟨htown, hW1⟩ := hS.out.town_after hbA hgrow rfl; have s51 := True.intro)
                        | (clear s51; at_builtin; refine wpList_append_lies _ rfl (.tmp 166) (.tmp 169) 22 rfl W.heap.size 3 i3 (.int .i64 0) 1 8 Try.underlying22 hi3 hy0 hy1 hy2 rfl (by decide) _ (n + u) (nvs ts) rfl (htown.alloc _) ⟨w1.heap.size, 0, none⟩ 1 1 [.int .i64 ((1 - k : Nat) : Int)] rfl rfl ((sl_new w1 _ _).cell _ rfl) (by intro u hu; simp at hu; subst hu; rfl) (by decide) hmx (by omega) (by simp; omega) _ rfl ?_; intro g3 cap3 w2' hown3 hgrow3 hat3 hlt3; have s52 := True.intro))
                      obtain ⟨c', hS', hL'⟩ := hS.out.packet hbA (HROW.out.step hS.out.law.fr hbA) rfl hown hgrow hat hlt ((Below.refl w1.heap.size w1).alloc (Nat.le_refl _) (.cells #[.int .i64 ((1 - k : Nat) : Int)] 3)) rfl hown3 hgrow3 hat3 hlt3
                      go_roundw
                      case rel => exact ⟨u + 1, c', _, cap2, _, _, _, cap3, _, by omega, by go_num, rfl, rfl, Lib.hid hS', Lib.hid (hL' _ _ hL.out), HK2, HLN2⟩
                      case measure => simp [intOf]; omega
                    · obtain rfl : u = m := by omega
                      go_wp2_with fail
                      go_meet
                      exact Lib.hid ⟨c, _, S, so, sc, sv, G, po, n + u, pc, vs, ls, tao, tc, ts, by omega, rfl, rfl, hS.out, hKK.out⟩
            · as_aux_lemma =>
                have hn0' : 0 < n := by omega
                have e0 : ((T : Int) == 0) = false := by simp; omega
                have e1 : ((T : Int) == 1) = false := by simp; omega
                have e2 : ((T : Int) == 2) = false := by simp; omega
                have e3 : ((T : Int) == 3) = false := by simp; omega
                obtain ⟨J, hJ, eJ⟩ : ∃ J : Nat, J < n ∧ (N : Int) / 2 % (n : Int) = (J : Int) := ⟨N / 2 % n, Nat.mod_lt _ hn0', by norm_cast⟩
                have hln : ls.length = n ∧ ts.length = n := by
                  have h1 := hS.out.pkr.1
                  have h2 := hS.out.pk.own.1
                  have h3 := hS.out.tw.own.1
                  simp [nvs] at h3
                  omega
                obtain ⟨l, hl⟩ : ∃ l, ls[J]? = some l := ⟨_, List.getElem?_eq_getElem (by omega)⟩
                obtain ⟨t, ht⟩ : ∃ t, ts[J]? = some t := ⟨_, List.getElem?_eq_getElem (by omega)⟩
                have hll := hK.out.pks J l hl
                have ht2 := hK.out.two t (List.mem_of_getElem? ht)
                obtain ⟨ax, rfl⟩ := hS.out.pk.sl.has hn0'
                obtain ⟨at', rfl⟩ := hS.out.tw.sl.has hn0'
                have hct := hS.out.atT ht rfl
                obtain ⟨bb, cb, hcp, hrow⟩ := hS.out.atP hl rfl
                have hEt := hK.out.ends t ht2
                have hwf := hEt.run.wf
                have hsm := hEt.run.small (by omega)
                have hkey := hEt.run.key
                obtain ⟨M', xs, hin, hgx, hxs, hK'⟩ := hK.out.in_ (by omega) ht2 hl ht
                obtain ⟨m, hm⟩ : ∃ m, xs.length = m := ⟨_, rfl⟩
                rw [hm] at hgx hK'
                have HM := Lib.hid hm
                have HIN := Lib.hid hin
                have HXS := Lib.hid hxs
                have HK' := Lib.hid hK'
                have HW := Lib.hid hwf
                have HROW := Lib.hid hrow
                have ze := hS.out.atE ht2
                have hSS : ∀ w' : World, Below z2.heap.size z2 w' → w'.cell? ⟨eb, t, none⟩ = some (.pointer (some ⟨p t, 0, none⟩)) ∧ w'.cell? (ax.add J) = some (.slice bb l.length cb) := fun w' h => ⟨cell_later h ze, cell_later h hcp⟩
                have k0 : Below z2.heap.size z2 z2.drew := (Below.refl _ _).drew
                have hSl : (S (1 - t)).length ≤ 80 := by have := (hK.out.ends (1 - t) (by omega)).few; omega
                have hf0 := hSS _ k0
                have hm80 : m ≤ 80 := by omega
                clear hxc' hT' hN' hx8' hx hx1 hx2 hcont hl ht hEt hwf hkey hin hxs hK' hm hln hrow hK hcp ze hSS
                go_upto_region 17 with fail
                have HS0 := Lib.hid (hS.out.step k0)
                have row0 := HROW.out.step hS.out.law.fr k0
                clear hS
                go_region_held (fun w' => w'.cell? ⟨eb, t, none⟩ = some (.pointer (some ⟨p t, 0, none⟩)) ∧ w'.cell? (ax.add J) = some (.slice bb l.length cb)) (first | exact hf7 | exact hf0) (first
                  | (go_at_call 50; refine (in_any c (t + 1) (p t) (M t) _ HS0.out.law.fr (by omega) HW.out hsm (HS0.out.ends t ht2) bb l.length cb l row0.slv (by omega)).mono ?_; rw [HIN.out]; rintro e w7 ⟨c7, v7, st7, E7, rfl, L7⟩; have k7 := HS0.out.endStep ht2 st7 E7; obtain ⟨ao7, cap7, rfl⟩ := L7.len (n := m) HM.out; have hf7 : w7.cell? ⟨eb, t, none⟩ = some (.pointer (some ⟨p t, 0, none⟩)) ∧ w7.cell? (ax.add J) = some (.slice bb l.length cb) := ⟨k7.atE ht2, by rw [World.cell?_of_block (st7.keep (ax.add J).block (World.block_lt_of_cell? _ _ hf0.2) (by rw [add_block, HS0.out.pk.col ax rfl]; omega))]; exact hf0.2⟩))
                all_goals
                  have H7 := Lib.hid k7
                  have HL7 := Lib.hid L7
                  clear st7 E7 k7 L7 hf7 hf0 HS0 row0 HROW k0
                  have H0 : Hid (OrS W w7 c7 eb sb gb p (upd M t M') S so sc sv (upd G t (G t + 0)) (some ax) n pc vs ls (some at') tc ts) := Lib.hid (by rw [Nat.add_zero, upd_self]; exact H7.out)
                  have ew1 : IntKind.i64.wrap (1 - (t : Int)) = ((1 - t : Nat) : Int) := by rw [IntWalk.i64_in _ (by omega)]; omega
                  clear H7
                  go_wp2_with fail
                  go_loopw [22] (fun i wx => ∃ u : Nat, u ≤ m ∧ i = .int .i64 u ∧ Hid (OrS W wx c7 eb sb gb p (upd M t M') S so sc sv (upd G t (G t + u)) (some ax) n pc vs ls (some at') tc ts) ∧ Hid (ListC c7 wx (.slice ao7 m cap7) xs)) (fun i _ => m - (intOf i).toNat)
                  case atStart => exact ⟨0, by omega, rfl, H0, HL7⟩
                  case round =>
                    clear H0 HL7
                    obtain ⟨u, hu, rfl, hS, hL⟩ := hrel
                    by_cases hum : u < m
                    · obtain ⟨x, hx⟩ : ∃ x, xs[u]? = some x := ⟨_, List.getElem?_eq_getElem (by rw [HM.out]; exact hum)⟩
                      obtain ⟨a8, rfl⟩ := hL.out.some (by rw [HM.out]; omega)
                      obtain ⟨b1, cb1, zz, _, hrow1⟩ := hL.out.get hx
                      obtain ⟨D, hD⟩ : ∃ D, G t + u = D := ⟨_, rfl⟩
                      have hY := HXS.out u x hx
                      rw [hD] at hY
                      have hDl : D < (S (1 - t)).length := (List.getElem?_eq_some_iff.1 hY).1
                      have hSt := (hS.out.sent (1 - t) (by omega)).sl
                      obtain ⟨as', has'⟩ := hSt.has (by omega)
                      obtain ⟨b2, cb2, zz2, hrow2⟩ := hS.out.atM (by omega) hY has'
                      obtain ⟨zg, zgf⟩ := hS.out.atG (j := t) ht2
                      rw [upd_same, hD] at zg
                      obtain ⟨zs, _⟩ := hS.out.atS (j := 1 - t) (by omega)
                      rw [has'] at zs
                      have hst := hSt.le
                      obtain ⟨SL, hSL⟩ : ∃ SL, (S (1 - t)).length = SL := ⟨_, rfl⟩
                      rw [hSL] at zs hDl hSl hst
                      have hd : decide ((SL : Int) ≤ (D : Int)) = false := decide_eq_false (by omega)
                      have hdn : decide (SL ≤ D) = false := decide_eq_false (by omega)
                      have ewD : IntKind.i64.wrap ((D : Int) + 1) = ((D + 1 : Nat) : Int) := by rw [IntWalk.i64_in _ (by omega)]; omega
                      have hsame : ∀ d, Calls Try.prog 19 #[.slice b1 x.length cb1, .slice b2 x.length cb2] (wr.drewN d) (fun e w' => e = .returned (.bool true) ∧ ∃ n, w' = (wr.drewN d).drewN n) := fun d => same_any _ _ _ _ _ _ x x _ (hrow1.slv.drewN d) (hrow2.slv.drewN d) true (by simp)
                      have HD := Lib.hid hD
                      clear hrow1 hrow2 hx hY hD hSL hSt has'
                      go_wp2_with fail
                      go_quiet (first
                        | (go_at_call 19; refine Calls.quiet_of (hsame _)))
                      have hSn := hS.out.drewN nq
                      obtain ⟨hS9, st9⟩ := hSn.got (g := D + 1) ht2
                      have hLn := (hL.out.step hS.out.law.fr (below_drewN (Below.refl _ _) nq)).stp st9 (by omega)
                      rw [upd_upd] at hS9
                      have HS9 := Lib.hid hS9
                      have HL9 := Lib.hid hLn
                      clear hS9 hLn hSn st9 hsame
                      go_wp2
                      go_roundw
                      case rel => exact ⟨u + 1, by omega, by go_num, by rw [show G t + (u + 1) = D + 1 by have := HD.out; omega]; exact HS9, HL9⟩
                      case measure => simp [intOf]; omega
                    · obtain rfl : u = m := by omega
                      go_wp2_with fail
                      go_meet
                      exact Lib.hid ⟨c7, _, S, so, sc, sv, _, some ax, n, pc, vs, ls, some at', tc, ts, by omega, rfl, rfl, hS.out, HK'.out⟩
        case rest =>
          as_aux_lemma =>
            clear hS hK hxc' hcont hT' hN' hT8 hN30 hkN hk2 hx hx1 hx2 hx8' hn
            obtain ⟨c, M, S, so, sc, sv, G, po, n, pc, vs, ls, tao, tc, ts, hn, rfl, rfl, hS0, hK0⟩ := hcut.out
            have hS := Lib.hid hS0
            have hK := Lib.hid hK0
            clear hS0 hK0
            go_wp2_with fail
            go_loopw [23] (fun i wx => ∃ t : Nat, t ≤ 2 ∧ i = .int .i64 t ∧ Hid (OrS W wx c eb sb gb p M S so sc sv G po n pc vs ls tao tc ts)) (fun i _ => 2 - (intOf i).toNat)
            case atStart => exact ⟨0, by omega, rfl, hS⟩
            case round =>
              clear hS
              obtain ⟨t, ht, rfl, hS⟩ := hrel
              by_cases ht2 : t < 2
              · have hEt := hK.out.ends t ht2
                have hfo := hEt.forg
                have hgo := hK.out.got (1 - t) (by omega)
                have hac := hEt.ack
                have hfe := hEt.few
                have hwl : (M t).waiting.length = (S t).length - (M t).acked := by rw [hEt.wait, List.length_drop]
                have hdel := hEt.run.sum
                have hde2 := (hK.out.ends (1 - t) (by omega)).run.del
                have z1 := hS.out.atE ht2
                obtain ⟨z2, _⟩ := hS.out.atS ht2
                obtain ⟨z3, _⟩ := hS.out.atG (j := 1 - t) (by omega)
                obtain ⟨SL, hSL⟩ : ∃ SL, (S t).length = SL := ⟨_, rfl⟩
                obtain ⟨D, hD⟩ : ∃ D, G (1 - t) = D := ⟨_, rfl⟩
                obtain ⟨WL, hWL⟩ : ∃ WL, (M t).waiting.length = WL := ⟨_, rfl⟩
                obtain ⟨AC, hAC⟩ : ∃ AC, (M t).acked = AC := ⟨_, rfl⟩
                have hw56 : ∀ d', Calls Try.prog 56 #[.pointer (some ⟨p t, 0, none⟩)] (wr.drewN d') (fun e w' => e = .returned (.int .i64 (WL : Int)) ∧ w' = wr.drewN d') := fun d' => by rw [← hWL]; exact waiting_any c (t + 1) (p t) (M t) _ ((hS.out.drewN d').ends t ht2)
                have hw52 : ∀ d', Calls Try.prog 52 #[.pointer (some ⟨p t, 0, none⟩)] (wr.drewN d') (fun e w' => e = .returned (.int .i64 0) ∧ w' = wr.drewN d') := fun d' => by
                  have := forged_any c (t + 1) (p t) (M t) _ ((hS.out.drewN d').ends t ht2)
                  rw [hfo] at this
                  exact this
                rw [hSL] at z2 hfe hwl
                rw [hD] at z3 hgo
                rw [hWL] at hwl hdel
                rw [hAC] at hac hwl hdel
                rw [← hgo] at hac hde2
                have ew1 : IntKind.i64.wrap (1 - (t : Int)) = ((1 - t : Nat) : Int) := by rw [IntWalk.i64_in _ (by omega)]; omega
                have ew2 : IntKind.i64.wrap ((SL : Int) - (D : Int)) = (SL : Int) - D := IntWalk.i64_in _ (by omega)
                have hd1 : decide ((SL : Int) < (WL : Int)) = false := decide_eq_false (by omega)
                have hn1 : decide (SL < WL) = false := decide_eq_false (by omega)
                have hn2 : WL ≤ SL := by omega
                have hn3 : ¬ (WL : Int) < (SL : Int) - D := by omega
                have hd2 : decide ((WL : Int) < (SL : Int) - D) = false := decide_eq_false (by omega)
                clear hEt hfo hgo hac hwl hdel hde2 hSL hD hWL hAC hfe
                go_wp2_with fail
                go_quiet (first
                  | (go_at_call 56; refine Calls.quiet_of_same (hw56 _))
                  | (go_at_call 52; refine Calls.quiet_of_same (hw52 _)))
                go_wp2
                go_roundw
                case rel => exact ⟨t + 1, by omega, by go_num, Lib.hid (hS.out.drewN nq)⟩
                case measure => simp [intOf]; omega
              · obtain rfl : t = 2 := by omega
                go_wp2_with fail
                go_roundw
                case rel => exact ⟨q + 1, by omega, by omega, by go_num, Lib.hid ⟨c, M, S, so, sc, sv, G, po, n, pc, vs, ls, tao, tc, ts, hn, rfl, rfl, hS.out, hK.out⟩⟩
                case measure => simp [intOf]; omega

theorem law15 (W : World) (win : Int) (hw : InR win) (key : Nat) (hk : key < 18446744073709551616) (ao : Option Addr) (n0 c0 : Nat) (lx : List Int) (hr : SlV W ao n0 c0 1 (lx.map iv)) (hall : ∀ x ∈ lx, InR x) :
    Calls Try.prog 15 #[.int .i64 win, .int .u64 (key : Int), .slice ao n0 c0] W (fun e w' => e = .returned (.bool true) ∧ Below W.heap.size W w' ∧ True) :=
  (l15_any W win hw key hk ao n0 c0 lx hr hall).mono fun _ _ h => ⟨h.1, h.2, trivial⟩

end Go.Proofs.Ytcpemgfpiapaaaa
