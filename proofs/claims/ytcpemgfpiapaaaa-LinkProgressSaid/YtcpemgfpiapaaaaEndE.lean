/- link.End.Out. -/
import Derived.Test.YtcpemgfpiapaaaaLkG
import Derived.BigQuiet
namespace Go.Proofs.Ytcpemgfpiapaaaa
open Go.RowKit

theorem pkt_len (a b : Int) (l : List UInt8) : (pktB a b l).length ≤ 27 + 9 + l.length := by
  unfold pktB
  have h1 := two_len a b
  have hsz : (⟨l.toArray⟩ : ByteArray).size = l.length := by show l.toArray.size = _; simp
  have h2 : (encBytes ⟨l.toArray⟩).length ≤ 9 + l.length := by
    have := encInt_len (((⟨l.toArray⟩ : ByteArray).size : Nat) : Int)
    unfold encBytes
    rw [List.length_append]
    have h3 : (⟨l.toArray⟩ : ByteArray).data.toList.length = l.length := by simp
    omega
  rw [List.length_append]
  omega

/-- Behind Out: the end owes no more; the packets lie in new blocks. -/
theorem out_close {c c1 : Nat → Nat} {k p q cap : Nat} {w wr : World} {M : EndM} {wo ao : Option Addr} {wc mb : Nat} {us : List Value} {ls : List (List UInt8)}
    (hf : Fr c w) (hk : k ≠ 0) (h : EndV c k w p M) (h1 : w.heap[p]? = some (.cells (endCells M wo wc mb) 101 (0, 0))) (hbe : Below w.heap.size w wr) (hs : Stp c c1 k w wr)
    (hown : wr.ownsRow w.heap.size 28 1 (.slice ao q cap) q us) (hrows : RowsC c1 wr us ls) :
    Stp c c k w (wr.setCell ⟨p, 6, none⟩ (.bool false)) ∧ EndV c k (wr.setCell ⟨p, 6, none⟩ (.bool false)) p (outM M) ∧ ListC c (wr.setCell ⟨p, 6, none⟩ (.bool false)) (.slice ao q cap) ls := by
  obtain ⟨wo', wc', mb', vs, h1', h2, h3, h4, h5, h6, h7⟩ := h
  have hp := (Array.getElem?_eq_some_iff.1 h1).1
  have hpr : p < wr.heap.size := Nat.lt_of_lt_of_le hp hbe.size
  have hfr : Fr c wr := fun b hb => hf b (Nat.le_trans hbe.size hb)
  have hs2 : Stp c c k w (wr.setCell ⟨p, 6, none⟩ (.bool false)) := (Stp.of_below hf hbe).setCell h2 hp _
  have hs3 : Stp c c k wr (wr.setCell ⟨p, 6, none⟩ (.bool false)) := (Stp.refl hfr).setCell h2 hpr _
  have hmb : mb' < w.heap.size := by
    obtain ⟨es, clock, hb, _⟩ := h4
    exact (Array.getElem?_eq_some_iff.1 hb).1
  have hmp : mb' ≠ p := by
    intro e
    obtain ⟨es, clock, hm, _⟩ := h4
    rw [e, h1] at hm
    cases hm
  have hrc : RowsC c wr us ls := ⟨hrows.1, fun i v l a b => by
    obtain ⟨x, cp, e, hsl, hc⟩ := hrows.2 i v l a b
    refine ⟨x, cp, e, hsl, fun y hy hl => ?_⟩
    rcases Nat.lt_or_ge y.block w.heap.size with hlt | hge
    · rw [← hs.col _ hlt]; exact hc y hy hl
    · exact hf _ hge⟩
  have hq : ls.length = q := by have := hown.1; rw [← hrows.1]; omega
  refine ⟨hs2, ⟨wo', wc', mb', vs, ?_, h2, h3, h4.stp hs2 hk ((heap_setCell_other _ _ _ _ hmp).trans (hbe.block mb' hmb)), ?_, h6.stp hs2 hk, h7⟩, ao, cap, us, by rw [hq], ?_, hrc.stp hs3 hk, fun x hx hl => ?_⟩
  · rw [heap_setCell_same wr p 6 (endCells M wo' wc' mb') 101 _ ((hbe.block p hp).trans h1')]
    simp [endCells, outM]
  · refine ⟨h5.1, ?_⟩
    rcases h5.2 with h | ⟨g, cap, cur, hv, hg, hh, r⟩
    · exact .inl h
    · refine .inr ⟨g, cap, cur, hv, hg, ?_, r⟩
      have hgp : g ≠ p := by
        cases hv
        exact (h7 _ rfl).2
      rw [heap_setCell_other _ _ _ _ hgp, hbe.block g (Array.getElem?_eq_some_iff.1 hh).1]
      exact hh
  · rw [hq]
    refine (ownsRow_sl hown).stp hs3 hk (fun x hx hl => ?_)
    subst hx
    exact hf _ (own_lt hown rfl).2
  · subst hx
    exact hf _ (own_lt hown rfl).2

set_option maxRecDepth 20000 in
set_option maxHeartbeats 1000000 in
theorem out_any (c : Nat → Nat) (k p : Nat) (M : EndM) (w : World) (hf : Fr c w) (hk : k ≠ 0) (hw : Wf M) (h : EndV c k w p M) :
    Calls Try.prog 51 #[.pointer (some ⟨p, 0, none⟩)] w (OutP c k w p (outM M) (outP M)) := by
  obtain ⟨wo, wc, mb, vs, h1, h2, h3, h4, h5, h6, h7⟩ := id h
  obtain ⟨x0, x1, x2, x3, x4, x5, x6, x7, f2, f3, f4, f6, f7⟩ := end_cells h1
  obtain ⟨m, hm⟩ : ∃ m, m = min M.waiting.length M.window := ⟨_, rfl⟩
  have hS := ownsRow_sl h5
  have hmw : m ≤ wc := by have := hS.le; omega
  have H4 := Lib.hid h4
  have H5 := Lib.hid h5
  have HS := Lib.hid hS
  have H := Lib.hid h
  have hp := (Array.getElem?_eq_some_iff.1 h1).1
  clear h4 h5 hS h
  have HM := Lib.hid hm
  have hm1 : m ≤ M.waiting.length := by omega
  have hm2 : m ≤ M.window := by omega
  have hm3 : m = M.waiting.length ∨ m = M.window := by omega
  clear hm
  go_enter Try.func51, Try.ntmps51
  go_upto_region 2 with fail
  go_cut [20, 21, 22] (fun s l i wx => s = .slice wo m wc ∧ l = .int .i64 (m : Int) ∧ i = .int .i64 0 ∧ ∃ d, wx = w.drewN d)
  case first =>
    clear HM
    by_cases hle : M.waiting.length ≤ M.window
    · obtain rfl : m = M.waiting.length := by omega
      clear hm3
      go_quiet (fail)
      go_wp2_with fail
      go_meet
      exact ⟨rfl, rfl, rfl, _, rfl⟩
    · have hlt : M.window < M.waiting.length := by omega
      obtain rfl : m = M.window := by omega
      clear hm3 hle
      go_quiet (fail)
      go_wp2_with fail
      go_meet
      exact ⟨by simp, by simp, rfl, _, rfl⟩
  case rest =>
    obtain ⟨rfl, rfl, rfl, d, rfl⟩ := hcut
    go_wp2
    go_loopw [3, 4, 5, 22] (fun v _ _ i wr => ∃ (q : Nat) (c1 : Nat → Nat) (ao : Option Addr) (cap : Nat) (us : List Value), q ≤ m ∧ i = .int .i64 q ∧ v = .slice ao q cap ∧ Hid (wr.ownsRow w.heap.size 28 1 (.slice ao q cap) q us) ∧ Hid (RowsC c1 wr us (((M.waiting.take m).take q).mapIdx (outW M))) ∧ Hid (Stp c c1 k w wr) ∧ Below w.heap.size w wr ∧ Hid (∀ a, ao = some a → c1 a.block = k)) (fun _ _ _ i _ => m - (intOf i).toNat)
    case atStart => exact ⟨0, c, none, 0, [], by omega, rfl, rfl, Lib.hid (World.ownsRow_nil _ _ _ _), Lib.hid (by simpa using RowsC.nil _ _), Lib.hid (Stp.of_below hf (below_drewN (Below.refl _ _) d)), below_drewN (Below.refl _ _) d, Lib.hid (fun a h => by cases h)⟩
    case round =>
      obtain ⟨q, c1, ao, cap, us, hq, rfl, rfl, ho, hrows, hstp, hbe, hcol⟩ := hrel
      by_cases hqm : q < m
      · obtain ⟨l, hl⟩ : ∃ l, M.waiting[q]? = some l := ⟨_, List.getElem?_eq_getElem (by omega)⟩
        obtain ⟨a, rfl⟩ : ∃ a, wo = some a := HS.out.has (by omega)
        have hvl := h6.1
        obtain ⟨v, hv⟩ : ∃ v, vs[q]? = some v := ⟨_, List.getElem?_eq_getElem (by omega)⟩
        obtain ⟨b, cb, rfl, hsl, hcb⟩ := h6.2 q v l hv hl
        have e1 := (HS.out.below hbe (Nat.le_refl _)).cell a rfl q _ hv
        have hsl1 := hsl.below hbe (Nat.le_refl _)
        have hll : l.length ≤ 65536 := hw.rows l (List.mem_of_getElem? hl)
        have HL := Lib.hid hl
        have HW := Lib.hid hw
        clear hl hv h6 hw
        have hac := HW.out.ack
        have hde := HW.out.del
        have hwi := HW.out.win
        have hke := HW.out.key
        have hk1 := (hbe.block p hp).trans h1
        have hpr : p < wr.heap.size := Nat.lt_of_lt_of_le hp hbe.size
        obtain ⟨y0, y1, y2, y3, y4, y5, y6, y7, g2, g3, g4, g6, g7⟩ := end_cells hk1
        have hST : ∀ w' : World, w'.heap[p]? = some (.cells (endCells M (some a) wc mb) 101 (0, 0)) → w'.cell? ⟨p, 1, none⟩ = some (.int .u64 (M.key : Int)) ∧ w'.cell? ⟨p, 3, none⟩ = some (.int .i64 (M.acked : Int)) ∧ w'.cell? ⟨p, 4, none⟩ = some (.int .i64 (M.delivered : Int)) := fun w' hb => by
          obtain ⟨z0, z1, z2, z3, z4, _⟩ := end_cells hb
          exact ⟨z1, z3, z4⟩
        have hSS : ∀ w' : World, Below wr.heap.size wr w' → w'.cell? ⟨p, 1, none⟩ = some (.int .u64 (M.key : Int)) ∧ w'.cell? ⟨p, 3, none⟩ = some (.int .i64 (M.acked : Int)) ∧ w'.cell? ⟨p, 4, none⟩ = some (.int .i64 (M.delivered : Int)) := fun w' hb => hST _ ((hb.block p hpr).trans hk1)
        obtain ⟨i, hi, hz0, hz1, hz2⟩ := info_parts Try.info28
        have k0 : Below wr.heap.size wr wr.drew := (Below.refl _ _).drew
        have hne : some p ≠ (Value.slice ao q cap).ownBlock := fun e => by have := (own_lt ho.out e.symm).2; omega
        obtain ⟨S, hSeq⟩ : ∃ S : Int, (M.acked : Int) + q + 1 = S := ⟨_, rfl⟩
        have ew1 : IntKind.i64.wrap ((M.acked : Int) + (q : Int)) = (M.acked : Int) + q := IntWalk.i64_in _ (by omega)
        have ew2 : IntKind.i64.wrap ((M.acked : Int) + (q : Int) + 1) = S := by rw [← hSeq]; exact IntWalk.i64_in _ (by omega)
        have hSR : InR S := by unfold InR; omega
        have hDR : InR (M.delivered : Int) := by unfold InR; omega
        have HSeq := Lib.hid hSeq
        clear hSeq
        have hpl := pkt_len S (M.delivered : Int) l
        go_wp2_with fail
        go_region_held_law (fun w' => w'.cell? ⟨p, 1, none⟩ = some (.int .u64 (M.key : Int)) ∧ w'.cell? ⟨p, 3, none⟩ = some (.int .i64 (M.acked : Int)) ∧ w'.cell? ⟨p, 4, none⟩ = some (.int .i64 (M.delivered : Int))) (first | exact kk | exact hSS _ (k3 _) | exact hSS _ k2 | exact hSS _ k1 | exact hSS _ k0) (first
          | (go_at_call 73; refine (lpkt_any S (M.delivered : Int) hSR hDR b l.length cb l _ hsl1.drew (by omega)).mono ?_; rintro e w4 ⟨a4, c4, rfl, ho4, hb4⟩; have k1 := k0.trans hb4)
          | (go_at_call 43; refine (lseal_any M.key hke a4 _ c4 (pktB S (M.delivered : Int) l) _ ho4.sl (by omega)).mono ?_; rintro e w5 ⟨a5, c5, rfl, ho5, hb5⟩; have k2 := k1.trans (hb5.mono k1.size); have k3 := fun o => k2.alloc k2.size o)
          | (refine step_append_lies _ rfl (.tmp 27) (.tmp 47) 63 rfl w.heap.size 28 i (.slice none 0 0) 1 24 Try.underlying63 hi hz0 hz1 hz2 rfl (by decide) _ q us rfl ((ownsRow_below ho.out k2 (Nat.le_refl _)).alloc _) ⟨w5.heap.size, 0, none⟩ 1 1 [.slice a5 _ c5] rfl rfl ((sl_new w5 _ _).cell _ rfl) (by intro u hu; simp at hu; subst hu; rfl) (by decide) (by unfold maxLen; omega) (by omega) (by have := hbe.size; have := k2.size; simp; omega) _ rfl ?_; intro g cap2 w1 hown hgrow hat hlt; have kk := hST _ ((hgrow.block p (by have := k2.size; simp; omega) hne).trans ((Below.heap_alloc w5 _ p (by have := k2.size; omega)).trans ((k2.block p hpr).trans hk1)))))
        go_wp2
        obtain ⟨c2, s1, s2, s3, s4⟩ := rows_push hstp.out.fr hk ho.out hrows.out hcol.out (k3 _) (RowC.own (w := w4) (fun b hb => hstp.out.fr b (Nat.le_trans k1.size hb)) (OwnB.alloc ho5 _)) rfl hgrow hat hlt
        go_roundw
        case rel =>
          have e0 := out_step HM.out hqm HL.out
          refine ⟨q + 1, c2, some ⟨g, 0, none⟩, cap2, _, by omega, by go_num, rfl, Lib.hid hown, Lib.hid ?_, Lib.hid (hstp.out.trans s1), (hbe.trans ((k3 _).mono hbe.size)).grown hgrow (by have := hbe.size; have := k2.size; simp; omega) (fun x hx => (own_lt ho.out hx).2), Lib.hid (fun a ha => by cases ha; exact s3)⟩
          rw [e0]
          have e9 : outW M q l = sealB M.key (pktB S (M.delivered : Int) l) := by unfold outW; rw [HSeq.out]
          rw [e9]
          exact s2
        case measure => simp [intOf]; omega
      · obtain rfl : q = m := by omega
        have hrr : RowsC c1 wr us (outL M) := by
          have := hrows.out
          rw [List.take_take, Nat.min_self] at this
          unfold outL
          rw [HM.out] at this
          have e1 : M.waiting.take (min M.waiting.length M.window) = M.waiting.take M.window := by
            rcases Nat.le_total M.waiting.length M.window with h | h
            · rw [Nat.min_eq_left h, List.take_of_length_le h, List.take_of_length_le (Nat.le_refl _)]
            · rw [Nat.min_eq_right h]
          rwa [e1] at this
        have HR := Lib.hid hrr
        clear hrr hrows
        have hk1 := (hbe.block p hp).trans h1
        have hpr : p < wr.heap.size := Nat.lt_of_lt_of_le hp hbe.size
        obtain ⟨y0, y1, y2, y3, y4, y5, y6, y7, g2, g3, g4, g6, g7⟩ := end_cells hk1
        have hql : (outL M).length = q := by have := ho.out.1; rw [← HR.out.1]; omega
        have HQ := Lib.hid hql
        clear hql
        by_cases h0 : q = 0
        · cases how : M.owing with
          | false =>
            subst h0
            go_wp2
            go_ret
            obtain ⟨t1, t2, t3⟩ := out_close hf hk H.out h1 hbe hstp.out ho.out HR.out
            have e : outP M = outL M := by unfold outP; rw [how]; simp
            rw [e]
            exact ⟨c, _, t1, t2, rfl, t3⟩
          | true =>
            subst h0
            have hST : ∀ w' : World, w'.heap[p]? = some (.cells (endCells M wo wc mb) 101 (0, 0)) → w'.cell? ⟨p, 1, none⟩ = some (.int .u64 (M.key : Int)) ∧ w'.cell? ⟨p, 4, none⟩ = some (.int .i64 (M.delivered : Int)) := fun w' hb => by
              obtain ⟨z0, z1, z2, z3, z4, _⟩ := end_cells hb
              exact ⟨z1, z4⟩
            have hSS : ∀ w' : World, Below wr.heap.size wr w' → w'.cell? ⟨p, 1, none⟩ = some (.int .u64 (M.key : Int)) ∧ w'.cell? ⟨p, 4, none⟩ = some (.int .i64 (M.delivered : Int)) := fun w' hb => hST _ ((hb.block p hpr).trans hk1)
            obtain ⟨i, hi, hz0, hz1, hz2⟩ := info_parts Try.info28
            have hde := hw.del
            have hke := hw.key
            have k0 : Below wr.heap.size wr wr.drew := (Below.refl _ _).drew
            have hne : some p ≠ (Value.slice ao 0 cap).ownBlock := fun e => by have := (own_lt ho.out e.symm).2; omega
            have hDR : InR (M.delivered : Int) := by unfold InR; omega
            have h0R : InR 0 := by unfold InR; omega
            have hpl := pkt_len 0 (M.delivered : Int) []
            have hpl2 : (pktB 0 (M.delivered : Int) []).length ≤ 36 := by simpa using hpl
            have hus : us = [] := List.eq_nil_of_length_eq_zero (by have := ho.out.1; omega)
            go_upto_region 8 with fail
            go_region_held_law (fun w' => w'.cell? ⟨p, 1, none⟩ = some (.int .u64 (M.key : Int)) ∧ w'.cell? ⟨p, 4, none⟩ = some (.int .i64 (M.delivered : Int))) (first | exact kk | exact hSS _ (k3 _) | exact hSS _ k2 | exact hSS _ k1 | exact hSS _ k0) (first
              | (go_at_call 73; refine (lpkt_any 0 (M.delivered : Int) h0R hDR none 0 0 [] _ (sl_zero _ _ _) (by omega)).mono ?_; rintro e w4 ⟨a4, c4, rfl, ho4, hb4⟩; have k1 := k0.trans hb4)
              | (go_at_call 43; refine (lseal_any M.key hke a4 _ c4 (pktB 0 (M.delivered : Int) []) _ ho4.sl (by omega)).mono ?_; rintro e w5 ⟨a5, c5, rfl, ho5, hb5⟩; have k2 := k1.trans (hb5.mono k1.size); have k3 := fun o => k2.alloc k2.size o)
              | (refine step_append_lies _ rfl (.tmp 59) (.tmp 71) 63 rfl w.heap.size 28 i (.slice none 0 0) 1 24 Try.underlying63 hi hz0 hz1 hz2 rfl (by decide) _ 0 us rfl ((ownsRow_below ho.out k2 (Nat.le_refl _)).alloc _) ⟨w5.heap.size, 0, none⟩ 1 1 [.slice a5 _ c5] rfl rfl ((sl_new w5 _ _).cell _ rfl) (by intro u hu; simp at hu; subst hu; rfl) (by decide) (by unfold maxLen; omega) (by omega) (by have := hbe.size; have := k2.size; simp; omega) _ rfl ?_; intro g cap2 w1 hown hgrow hat hlt; have hh1 := (hgrow.block p (by have := k2.size; simp; omega) hne).trans ((Below.heap_alloc w5 _ p (by have := k2.size; omega)).trans ((k2.block p hpr).trans hk1)); have kk := hST _ hh1; obtain ⟨z0, z1, z2, z3, z4, z5, z6, z7, t2, t3, t4, t6, t7⟩ := end_cells hh1))
            go_wp2
            go_ret
            have hr0 : RowsC c1 wr us [] := by subst hus; exact RowsC.nil _ _
            obtain ⟨c2, s1, s2, s3, s4⟩ := rows_push hstp.out.fr hk ho.out hr0 hcol.out (k3 _) (RowC.own (w := w4) (fun b hb => hstp.out.fr b (Nat.le_trans k1.size hb)) (OwnB.alloc ho5 _)) rfl hgrow hat hlt
            have hbe2 : Below w.heap.size w w1 := (hbe.trans ((k3 _).mono hbe.size)).grown hgrow (by have := hbe.size; have := k2.size; simp; omega) (fun x hx => (own_lt ho.out hx).2)
            obtain ⟨t1, t2, t3⟩ := out_close hf hk H.out h1 hbe2 (hstp.out.trans s1) hown s2
            have e : outP M = [] ++ [sealB M.key (pktB 0 (M.delivered : Int) [])] := by
              unfold outP
              rw [if_pos ⟨List.eq_nil_of_length_eq_zero HQ.out, how⟩]
              rfl
            rw [e]
            exact ⟨c, _, t1, t2, rfl, t3⟩
        · have hqn : ((q : Int) == 0) = false := by simp; omega
          go_wp2
          go_ret
          obtain ⟨t1, t2, t3⟩ := out_close hf hk H.out h1 hbe hstp.out ho.out HR.out
          have e : outP M = outL M := by unfold outP; rw [if_neg (fun h => h0 (by rw [← HQ.out, h.1]; rfl))]
          rw [e]
          exact ⟨c, _, t1, t2, rfl, t3⟩

end Go.Proofs.Ytcpemgfpiapaaaa
