/- link.End.Out: its packets are the call's own. -/
import Derived.Test.YtcpemgfpiapaaaaEndE
import Derived.Test.YtcpemgfpiapaaaaEndG
namespace Go.Proofs.Ytcpemgfpiapaaaa
open Go.RowKit

/-- Rows of the call's own, each in a block of its own. -/
structure OwnL (w : World) (B : Nat) (vs : List Value) (ls : List (List UInt8)) : Prop where
  len : vs.length = ls.length
  row : ∀ (i : Nat) l, ls[i]? = some l → ∃ g cap, vs[i]? = some (.slice (some ⟨g, 0, none⟩) l.length cap) ∧ OwnB w B (some ⟨g, 0, none⟩) cap l
  apart : ∀ (i j : Nat) (g h n m a b : Nat), vs[i]? = some (.slice (some ⟨g, 0, none⟩) n a) → vs[j]? = some (.slice (some ⟨h, 0, none⟩) m b) → i ≠ j → g ≠ h

theorem OwnL.nil (w : World) (B : Nat) : OwnL w B [] [] := ⟨rfl, fun i l h => by simp at h, fun i j g h n m a b e => by simp at e⟩

theorem own_g {w : World} {B g cap : Nat} {l : List UInt8} (h : OwnB w B (some ⟨g, 0, none⟩) cap l) : B ≤ g ∧ g < w.heap.size := h.lt g rfl

/-- One row more, in a later block. -/
theorem OwnL.snoc {w w' : World} {B g cap : Nat} {vs : List Value} {ls : List (List UInt8)} {l : List UInt8} (h : OwnL w B vs ls) (hk : ∀ (i x : Nat) n a, vs[i]? = some (.slice (some ⟨x, 0, none⟩) n a) → w'.heap[x]? = w.heap[x]?)
    (hn : OwnB w' B (some ⟨g, 0, none⟩) cap l) (hg : w.heap.size ≤ g) : OwnL w' B (vs ++ [.slice (some ⟨g, 0, none⟩) l.length cap]) (ls ++ [l]) := by
  have lt : ∀ (i x n a : Nat), vs[i]? = some (.slice (some ⟨x, 0, none⟩) n a) → x < w.heap.size := fun i x n a e => by
    have hi : i < ls.length := by rw [← h.len]; exact (List.getElem?_eq_some_iff.1 e).1
    obtain ⟨g', cap', e', o'⟩ := h.row i ls[i] (List.getElem?_eq_getElem hi)
    rw [e] at e'
    simp only [Option.some.injEq, Value.slice.injEq, Addr.mk.injEq, and_true] at e'
    rw [e'.1]
    exact (own_g o').2
  refine ⟨by simp [h.len], fun i m hm => ?_, fun i j x y n m a b e1 e2 hij => ?_⟩
  · rcases Nat.lt_or_ge i ls.length with hi | hi
    · rw [List.getElem?_append_left hi] at hm
      obtain ⟨x, cap', e, o⟩ := h.row i m hm
      refine ⟨x, cap', by rw [List.getElem?_append_left (by rw [h.len]; exact hi)]; exact e, ownsRow_of o (fun y hy => ?_)⟩
      injection hy with hy
      subst hy
      exact hk i x _ _ e
    · rw [List.getElem?_append_right hi] at hm
      have hz : i - ls.length = 0 := by
        match hz : i - ls.length, hm with
        | 0, _ => rfl
        | n + 1, hm => simp at hm
      rw [hz] at hm
      simp at hm
      subst hm
      exact ⟨g, cap, by rw [List.getElem?_append_right (by rw [h.len]; exact hi), h.len, hz]; rfl, hn⟩
  · have last : ∀ (i : Nat) (x n a : Nat), (vs ++ [Value.slice (some ⟨g, 0, none⟩) l.length cap])[i]? = some (.slice (some ⟨x, 0, none⟩) n a) → vs.length ≤ i → i = vs.length ∧ x = g := fun i x n a e hi => by
      rw [List.getElem?_append_right hi] at e
      match hz : i - vs.length, e with
      | 0, e =>
        simp only [List.getElem?_cons_zero, Option.some.injEq, Value.slice.injEq, Addr.mk.injEq, and_true] at e
        exact ⟨by omega, e.1.symm⟩
      | n + 1, e => simp at e
    rcases Nat.lt_or_ge i vs.length with hi | hi <;> rcases Nat.lt_or_ge j vs.length with hj | hj
    · rw [List.getElem?_append_left hi] at e1
      rw [List.getElem?_append_left hj] at e2
      exact h.apart i j x y n m a b e1 e2 hij
    · have := last j y m b e2 hj
      rw [List.getElem?_append_left hi] at e1
      have := lt i x n a e1
      omega
    · have := last i x n a e1 hi
      rw [List.getElem?_append_left hj] at e2
      have := lt j y m b e2
      omega
    · have h1 := last i x n a e1 hi
      have h2 := last j y m b e2 hj
      omega

/-- Behind Out, whatever colours the new blocks are given. -/
theorem out_close2 {c c1 c' : Nat → Nat} {k p : Nat} {w wr : World} {M : EndM} (hk : k ≠ 0) (h : EndV c k w p M) (hbe : Below w.heap.size w wr) (hs : Stp c c1 k w wr) (hag : ∀ b, b < w.heap.size → c' b = c b) (hf' : Fr c' wr) :
    EndV c' k (wr.setCell ⟨p, 6, none⟩ (.bool false)) p (outM M) := by
  obtain ⟨wo', wc', mb', vs, h1', h2, h3, h4, h5, h6, h7⟩ := h
  have hp := (Array.getElem?_eq_some_iff.1 h1').1
  have hmb : mb' < w.heap.size := by
    obtain ⟨es, clock, hb, _⟩ := h4
    exact (Array.getElem?_eq_some_iff.1 hb).1
  have hmp : mb' ≠ p := by
    intro e
    obtain ⟨es, clock, hm, _⟩ := h4
    rw [e, h1'] at hm
    cases hm
  have hs0 : Stp c c' k w wr := ⟨hs.os, hs.tape, hs.output, hs.size, hag, hs.keep, hf'⟩
  have hs2 : Stp c c' k w (wr.setCell ⟨p, 6, none⟩ (.bool false)) := hs0.setCell ((hag p hp).trans h2) hp _
  refine ⟨wo', wc', mb', vs, ?_, (hag p hp).trans h2, (hag mb' hmb).trans h3, h4.stp hs2 hk ((heap_setCell_other _ _ _ _ hmp).trans (hbe.block mb' hmb)), ?_, h6.stp hs2 hk, fun a ha => ?_⟩
  · rw [heap_setCell_same wr p 6 (endCells M wo' wc' mb') 101 _ ((hbe.block p hp).trans h1')]
    simp [endCells, outM]
  · refine ownsRow_of h5 (fun g hg => ?_)
    have hgp : g ≠ p := by
      cases wo' with
      | none => cases hg
      | some a => injection hg with hg; subst hg; exact (h7 a rfl).2
    rw [heap_setCell_other _ _ _ _ hgp]
    exact hbe.block g (h5.lt g hg).2
  · have hlt : a.block < w.heap.size := by subst ha; exact (h5.lt a.block rfl).2
    exact ⟨(hag _ hlt).trans (h7 a ha).1, (h7 a ha).2⟩

/-- What Out gives, its packets the call's own. -/
def OutO (c : Nat → Nat) (k : Nat) (w : World) (p : Nat) (M : EndM) (ls : List (List UInt8)) (e : Ending) (w' : World) : Prop :=
  ∃ ao cap vs, e = .returned (.slice ao ls.length cap) ∧ Stp c c k w w' ∧ (∀ c' : Nat → Nat, (∀ b, b < w.heap.size → c' b = c b) → Fr c' w' → EndV c' k w' p M) ∧
    SlV w' ao ls.length cap 1 vs ∧ OwnL w' w.heap.size vs ls ∧ ∀ a, ao = some a → w.heap.size ≤ a.block ∧ ∀ (i x : Nat) n b, vs[i]? = some (.slice (some ⟨x, 0, none⟩) n b) → x ≠ a.block

theorem OwnL.keep {w w' : World} {B : Nat} {vs : List Value} {ls : List (List UInt8)} (h : OwnL w B vs ls) (hk : ∀ x, B ≤ x → w'.heap[x]? = w.heap[x]?) : OwnL w' B vs ls := by
  refine ⟨h.len, fun i l hl => ?_, h.apart⟩
  obtain ⟨g, cap, e, o⟩ := h.row i l hl
  exact ⟨g, cap, e, ownsRow_of o (fun y hy => hk y (o.lt y hy).1)⟩

/-- The rows lie elsewhere than the list itself. -/
theorem own_ne {c1 : Nat → Nat} {k B q cap : Nat} {wr : World} {us : List Value} {ls : List (List UInt8)} {ao : Option Addr} (hk : k ≠ 0) (hR : RowsC c1 wr us ls) (hO : OwnL wr B us ls) (hpos : ∀ l ∈ ls, 0 < l.length) (hcol : ∀ a, ao = some a → c1 a.block = k)
    {i x n a : Nat} (e : us[i]? = some (.slice (some ⟨x, 0, none⟩) n a)) : some x ≠ (Value.slice ao q cap).ownBlock ∧ x < wr.heap.size := by
  have hi : i < ls.length := by rw [← hO.len]; exact (List.getElem?_eq_some_iff.1 e).1
  have hl : ls[i]? = some ls[i] := List.getElem?_eq_getElem hi
  obtain ⟨g, cap', e', o⟩ := hO.row i _ hl
  have he := e'
  rw [e] at he
  simp only [Option.some.injEq, Value.slice.injEq, Addr.mk.injEq, and_true] at he
  obtain ⟨rfl, rfl, rfl⟩ := he
  refine ⟨fun hx => ?_, (own_g o).2⟩
  obtain ⟨a', cp, e2, _, hc⟩ := hR.2 i _ _ e hl
  injection e2 with e3
  have h0 := hc _ e3.symm (hpos _ (List.getElem_mem hi))
  cases ao with
  | none => cases hx
  | some y =>
    injection hx with hx
    have := hcol y rfl
    rw [← hx] at this
    exact hk (this.symm.trans h0)

theorem outs_pos (M : EndM) (l : List (List UInt8)) : ∀ x ∈ l.mapIdx (outW M), 0 < x.length := fun x hx => by
  obtain ⟨i, hi, rfl⟩ := List.mem_mapIdx.1 hx
  unfold outW
  rw [sealB_length]
  omega

theorem out_fin {c c1 : Nat → Nat} {k p q cap : Nat} {w wr : World} {M : EndM} {ao : Option Addr} {us : List Value} {ls : List (List UInt8)}
    (hf : Fr c w) (hk : k ≠ 0) (h : EndV c k w p M) (hbe : Below w.heap.size w wr) (hs : Stp c c1 k w wr) (hown : wr.ownsRow w.heap.size 28 1 (.slice ao q cap) q us) (hrows : RowsC c1 wr us ls) (hO : OwnL wr w.heap.size us ls) (hpos : ∀ l ∈ ls, 0 < l.length) (hcol : ∀ a, ao = some a → c1 a.block = k) :
    OutO c k w p (outM M) ls (.returned (.slice ao q cap)) (wr.setCell ⟨p, 6, none⟩ (.bool false)) := by
  have hp := h.lt
  have hq : ls.length = q := by have := hown.1; rw [← hO.len]; omega
  have hcp : c p = k := by obtain ⟨_, _, _, _, _, h2, _⟩ := h; exact h2
  have hs2 : Stp c c k w (wr.setCell ⟨p, 6, none⟩ (.bool false)) := (Stp.of_below hf hbe).setCell hcp hp _
  have oth : ∀ x, w.heap.size ≤ x → (wr.setCell ⟨p, 6, none⟩ (.bool false)).heap[x]? = wr.heap[x]? := fun x hx => heap_setCell_other _ _ _ _ (by show x ≠ p; omega)
  subst hq
  refine ⟨ao, cap, us, rfl, hs2, fun c' hag hf' => out_close2 hk h hbe hs hag (fun b hb => hf' b (by simpa using hb)), ?_, hO.keep oth, fun a ha => ?_⟩
  · exact ownsRow_sl (ownsRow_of hown (fun g hg => oth g (hown.lt g hg).1))
  · subst ha
    refine ⟨(hown.lt _ rfl).1, fun i x n b e hx => ?_⟩
    exact (own_ne (q := ls.length) (cap := cap) hk hrows hO hpos hcol e).1 (by rw [hx]; rfl)

set_option maxRecDepth 20000 in
set_option maxHeartbeats 1000000 in
theorem out_own (c : Nat → Nat) (k p : Nat) (M : EndM) (w : World) (hf : Fr c w) (hk : k ≠ 0) (hw : Wf M) (h : EndV c k w p M) (how : M.owing = false) :
    Calls Try.prog 51 #[.pointer (some ⟨p, 0, none⟩)] w (OutO c k w p (outM M) (outP M)) := by
  obtain ⟨wo, wc, mb, vs, h1, h2, h3, h4, h5, h6, h7⟩ := id h
  obtain ⟨x0, x1, x2, x3, x4, x5, x6, x7, f2, f3, f4, f6, f7⟩ := end_cells h1
  obtain ⟨m, hm⟩ : ∃ m, m = min M.waiting.length M.window := ⟨_, rfl⟩
  have hS := ownsRow_sl h5
  have hmw : m ≤ wc := by have := hS.le; omega
  have H4 := Lib.hid h4
  have H5 := Lib.hid h5
  have HS := Lib.hid hS
  have H := Lib.hid h
  have hp := (Array.getElem?_eq_some_iff.1 h1).1
  clear h4 h5 hS h
  have HM := Lib.hid hm
  have hm1 : m ≤ M.waiting.length := by omega
  have hm2 : m ≤ M.window := by omega
  have hm3 : m = M.waiting.length ∨ m = M.window := by omega
  clear hm
  go_enter Try.func51, Try.ntmps51
  go_upto_region 2 with fail
  go_cut [20, 21, 22] (fun s l i wx => s = .slice wo m wc ∧ l = .int .i64 (m : Int) ∧ i = .int .i64 0 ∧ ∃ d, wx = w.drewN d)
  case first =>
    clear HM
    by_cases hle : M.waiting.length ≤ M.window
    · obtain rfl : m = M.waiting.length := by omega
      clear hm3
      go_quiet (fail)
      go_wp2_with fail
      go_meet
      exact ⟨rfl, rfl, rfl, _, rfl⟩
    · have hlt : M.window < M.waiting.length := by omega
      obtain rfl : m = M.window := by omega
      clear hm3 hle
      go_quiet (fail)
      go_wp2_with fail
      go_meet
      exact ⟨by simp, by simp, rfl, _, rfl⟩
  case rest =>
    obtain ⟨rfl, rfl, rfl, d, rfl⟩ := hcut
    go_wp2
    go_loopw [3, 4, 5, 22] (fun v _ _ i wr => ∃ (q : Nat) (c1 : Nat → Nat) (ao : Option Addr) (cap : Nat) (us : List Value), q ≤ m ∧ i = .int .i64 q ∧ v = .slice ao q cap ∧ Hid (wr.ownsRow w.heap.size 28 1 (.slice ao q cap) q us) ∧ Hid (RowsC c1 wr us (((M.waiting.take m).take q).mapIdx (outW M))) ∧ Hid (Stp c c1 k w wr) ∧ Below w.heap.size w wr ∧ Hid (∀ a, ao = some a → c1 a.block = k) ∧ Hid (OwnL wr w.heap.size us (((M.waiting.take m).take q).mapIdx (outW M)))) (fun _ _ _ i _ => m - (intOf i).toNat)
    case atStart => exact ⟨0, c, none, 0, [], by omega, rfl, rfl, Lib.hid (World.ownsRow_nil _ _ _ _), Lib.hid (by simpa using RowsC.nil _ _), Lib.hid (Stp.of_below hf (below_drewN (Below.refl _ _) d)), below_drewN (Below.refl _ _) d, Lib.hid (fun a h => by cases h), Lib.hid (by simpa using OwnL.nil _ _)⟩
    case round =>
      obtain ⟨q, c1, ao, cap, us, hq, rfl, rfl, ho, hrows, hstp, hbe, hcol, hOL⟩ := hrel
      by_cases hqm : q < m
      · obtain ⟨l, hl⟩ : ∃ l, M.waiting[q]? = some l := ⟨_, List.getElem?_eq_getElem (by omega)⟩
        obtain ⟨a, rfl⟩ : ∃ a, wo = some a := HS.out.has (by omega)
        have hvl := h6.1
        obtain ⟨v, hv⟩ : ∃ v, vs[q]? = some v := ⟨_, List.getElem?_eq_getElem (by omega)⟩
        obtain ⟨b, cb, rfl, hsl, hcb⟩ := h6.2 q v l hv hl
        have e1 := (HS.out.below hbe (Nat.le_refl _)).cell a rfl q _ hv
        have hsl1 := hsl.below hbe (Nat.le_refl _)
        have hll : l.length ≤ 65536 := hw.rows l (List.mem_of_getElem? hl)
        have HL := Lib.hid hl
        have HW := Lib.hid hw
        clear hl hv h6 hw
        have hac := HW.out.ack
        have hde := HW.out.del
        have hwi := HW.out.win
        have hke := HW.out.key
        have hk1 := (hbe.block p hp).trans h1
        have hpr : p < wr.heap.size := Nat.lt_of_lt_of_le hp hbe.size
        obtain ⟨y0, y1, y2, y3, y4, y5, y6, y7, g2, g3, g4, g6, g7⟩ := end_cells hk1
        have hST : ∀ w' : World, w'.heap[p]? = some (.cells (endCells M (some a) wc mb) 101 (0, 0)) → w'.cell? ⟨p, 1, none⟩ = some (.int .u64 (M.key : Int)) ∧ w'.cell? ⟨p, 3, none⟩ = some (.int .i64 (M.acked : Int)) ∧ w'.cell? ⟨p, 4, none⟩ = some (.int .i64 (M.delivered : Int)) := fun w' hb => by
          obtain ⟨z0, z1, z2, z3, z4, _⟩ := end_cells hb
          exact ⟨z1, z3, z4⟩
        have hSS : ∀ w' : World, Below wr.heap.size wr w' → w'.cell? ⟨p, 1, none⟩ = some (.int .u64 (M.key : Int)) ∧ w'.cell? ⟨p, 3, none⟩ = some (.int .i64 (M.acked : Int)) ∧ w'.cell? ⟨p, 4, none⟩ = some (.int .i64 (M.delivered : Int)) := fun w' hb => hST _ ((hb.block p hpr).trans hk1)
        obtain ⟨i, hi, hz0, hz1, hz2⟩ := info_parts Try.info28
        have k0 : Below wr.heap.size wr wr.drew := (Below.refl _ _).drew
        have hne : some p ≠ (Value.slice ao q cap).ownBlock := fun e => by have := (own_lt ho.out e.symm).2; omega
        obtain ⟨S, hSeq⟩ : ∃ S : Int, (M.acked : Int) + q + 1 = S := ⟨_, rfl⟩
        have ew1 : IntKind.i64.wrap ((M.acked : Int) + (q : Int)) = (M.acked : Int) + q := IntWalk.i64_in _ (by omega)
        have ew2 : IntKind.i64.wrap ((M.acked : Int) + (q : Int) + 1) = S := by rw [← hSeq]; exact IntWalk.i64_in _ (by omega)
        have hSR : InR S := by unfold InR; omega
        have hDR : InR (M.delivered : Int) := by unfold InR; omega
        have HSeq := Lib.hid hSeq
        clear hSeq
        have hpl := pkt_len S (M.delivered : Int) l
        go_wp2_with fail
        go_region_held_law (fun w' => w'.cell? ⟨p, 1, none⟩ = some (.int .u64 (M.key : Int)) ∧ w'.cell? ⟨p, 3, none⟩ = some (.int .i64 (M.acked : Int)) ∧ w'.cell? ⟨p, 4, none⟩ = some (.int .i64 (M.delivered : Int))) (first | exact kk | exact hSS _ (k3 _) | exact hSS _ k2 | exact hSS _ k1 | exact hSS _ k0) (first
          | (go_at_call 73; refine (lpkt_any S (M.delivered : Int) hSR hDR b l.length cb l _ hsl1.drew (by omega)).mono ?_; rintro e w4 ⟨a4, c4, rfl, ho4, hb4⟩; have k1 := k0.trans hb4)
          | (go_at_call 43; refine (lseal_any M.key hke a4 _ c4 (pktB S (M.delivered : Int) l) _ ho4.sl (by omega)).mono ?_; rintro e w5 ⟨a5, c5, rfl, ho5, hb5⟩; obtain ⟨g5, cap5, hg5, _, _⟩ := World.ownsRow.form ho5 (by rw [sealB_length]; omega); obtain ⟨rfl, rfl⟩ : a5 = some ⟨g5, 0, none⟩ ∧ c5 = cap5 := (by injection hg5 with x y z; exact ⟨x, z⟩); clear hg5; have k2 := k1.trans (hb5.mono k1.size); have k3 := fun o => k2.alloc k2.size o)
          | (refine step_append_lies _ rfl (.tmp 27) (.tmp 47) 63 rfl w.heap.size 28 i (.slice none 0 0) 1 24 Try.underlying63 hi hz0 hz1 hz2 rfl (by decide) _ q us rfl ((ownsRow_below ho.out k2 (Nat.le_refl _)).alloc _) ⟨w5.heap.size, 0, none⟩ 1 1 [.slice (some ⟨g5, 0, none⟩) _ c5] rfl rfl ((sl_new w5 _ _).cell _ rfl) (by intro u hu; simp at hu; subst hu; rfl) (by decide) (by unfold maxLen; omega) (by omega) (by have := hbe.size; have := k2.size; simp; omega) _ rfl ?_; intro g cap2 w1 hown hgrow hat hlt; have kk := hST _ ((hgrow.block p (by have := k2.size; simp; omega) hne).trans ((Below.heap_alloc w5 _ p (by have := k2.size; omega)).trans ((k2.block p hpr).trans hk1)))))
        go_wp2
        obtain ⟨c2, s1, s2, s3, s4⟩ := rows_push hstp.out.fr hk ho.out hrows.out hcol.out (k3 _) (RowC.own (w := w4) (fun b hb => hstp.out.fr b (Nat.le_trans k1.size hb)) (OwnB.alloc ho5 _)) rfl hgrow hat hlt
        go_roundw
        case rel =>
          have hgk : w4.heap.size ≤ g5 ∧ g5 < w5.heap.size := own_g ho5
          have hk1s := k1.size
          have hOL2 : OwnL w1 w.heap.size (us ++ [.slice (some ⟨g5, 0, none⟩) (sealB M.key (pktB S (M.delivered : Int) l)).length c5]) (((M.waiting.take m).take q).mapIdx (outW M) ++ [sealB M.key (pktB S (M.delivered : Int) l)]) := by
            refine hOL.out.snoc (fun i x n a hx => ?_) (ownsRow_base (ownsRow_of (OwnB.alloc ho5 (.cells #[Value.slice (some ⟨g5, 0, none⟩) (sealB M.key (pktB S (M.delivered : Int) l)).length c5] 28)) (fun y hy => ?_)) (by have := hbe.size; omega)) (by omega)
            · obtain ⟨n1, n2⟩ := own_ne (q := q) (cap := cap) hk hrows.out hOL.out (outs_pos M _) hcol.out hx
              have := k2.size
              exact (hgrow.block x (by simp; omega) n1).trans ((Below.heap_alloc _ _ _ (by omega)).trans (k2.block x n2))
            · injection hy with hy
              subst hy
              exact hgrow.block g5 (by simp; omega) (fun e => by have := (own_lt ho.out e.symm).1; omega)
          have e0 := out_step HM.out hqm HL.out
          refine ⟨q + 1, c2, some ⟨g, 0, none⟩, cap2, _, by omega, by go_num, rfl, Lib.hid hown, Lib.hid ?_, Lib.hid (hstp.out.trans s1), (hbe.trans ((k3 _).mono hbe.size)).grown hgrow (by have := hbe.size; have := k2.size; simp; omega) (fun x hx => (own_lt ho.out hx).2), Lib.hid (fun a ha => by cases ha; exact s3), Lib.hid ?_⟩
          all_goals rw [e0]
          all_goals have e9 : outW M q l = sealB M.key (pktB S (M.delivered : Int) l) := by unfold outW; rw [HSeq.out]
          all_goals rw [e9]
          · exact s2
          · exact hOL2
        case measure => simp [intOf]; omega
      · obtain rfl : q = m := by omega
        have hrr : RowsC c1 wr us (outL M) := by
          have := hrows.out
          rw [List.take_take, Nat.min_self] at this
          unfold outL
          rw [HM.out] at this
          have e1 : M.waiting.take (min M.waiting.length M.window) = M.waiting.take M.window := by
            rcases Nat.le_total M.waiting.length M.window with h | h
            · rw [Nat.min_eq_left h, List.take_of_length_le h, List.take_of_length_le (Nat.le_refl _)]
            · rw [Nat.min_eq_right h]
          rwa [e1] at this
        have hOr : OwnL wr w.heap.size us (outL M) := by
          have := hOL.out
          rw [List.take_take, Nat.min_self] at this
          unfold outL
          rw [HM.out] at this
          have e1 : M.waiting.take (min M.waiting.length M.window) = M.waiting.take M.window := by
            rcases Nat.le_total M.waiting.length M.window with h | h
            · rw [Nat.min_eq_left h, List.take_of_length_le h, List.take_of_length_le (Nat.le_refl _)]
            · rw [Nat.min_eq_right h]
          rwa [e1] at this
        have HR := Lib.hid hrr
        have HO := Lib.hid hOr
        have hpos : Hid (∀ l ∈ outL M, 0 < l.length) := Lib.hid (outs_pos M _)
        clear hrr hrows hOr hOL
        have hk1 := (hbe.block p hp).trans h1
        have hpr : p < wr.heap.size := Nat.lt_of_lt_of_le hp hbe.size
        obtain ⟨y0, y1, y2, y3, y4, y5, y6, y7, g2, g3, g4, g6, g7⟩ := end_cells hk1
        by_cases h0 : q = 0
        · subst h0
          go_wp2
          go_ret
          have e : outP M = outL M := by unfold outP; rw [how]; simp
          rw [e]
          exact out_fin hf hk H.out hbe hstp.out ho.out HR.out HO.out hpos.out hcol.out
        · have hqn : ((q : Int) == 0) = false := by simp; omega
          go_wp2
          go_ret
          have e : outP M = outL M := by unfold outP; rw [how]; simp
          rw [e]
          exact out_fin hf hk H.out hbe hstp.out ho.out HR.out HO.out hpos.out hcol.out

end Go.Proofs.Ytcpemgfpiapaaaa
