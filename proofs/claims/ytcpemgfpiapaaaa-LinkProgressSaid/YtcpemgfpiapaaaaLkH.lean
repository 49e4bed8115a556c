/- link.End.In: the plain taking, and what its stores do to an end in memory. link.End.In, the ways that take nothing. link.End.In, a packet that is out of bounds. -/
import Derived.Test.YtcpemgfpiapaaaaEndG
namespace Go.Proofs.Ytcpemgfpiapaaaa
open Go.RowKit

/-- What is acknowledged. -/
def ackM (M : EndM) (ack : Int) : EndM := if 0 < ack - M.acked then { M with waiting := M.waiting.drop (ack - M.acked).toNat, acked := ack.toNat } else M

/-- What is held. -/
def holdM (M : EndM) (seq : Int) (l : List UInt8) : EndM := { M with owing := true, held := if (M.delivered : Int) < seq ∧ M.held seq = none then putH M.held seq l else M.held }

/-- The plain taking. -/
def inM (M : EndM) (b : List UInt8) : EndM × List (List UInt8) × Int :=
  if (openB M.key b).2 ≠ 0 then (if (openB M.key b).2 = 9 then { M with forged := M.forged + 1 } else M, [], (openB M.key b).2)
  else match readB (openB M.key b).1 with
    | none => (M, [], 2)
    | some (seq, ack, l) =>
      if (M.acked : Int) + M.waiting.length < ack ∨ (M.delivered : Int) + 16 < seq then (M, [], 0)
      else if seq = 0 then (ackM M ack, [], 0)
      else (delivM (holdM (ackM M ack) seq l), delivL (holdM (ackM M ack) seq l), 0)

/-- The parts of an end in memory. -/
structure EndQ (c : Nat → Nat) (k : Nat) (w : World) (p : Nat) (M : EndM) (wo : Option Addr) (wc mb : Nat) (vs : List Value) : Prop where
  str : w.heap[p]? = some (.cells (endCells M wo wc mb) 101 (0, 0))
  cp : c p = k
  cm : c mb = k
  map : MapR c w mb M.held
  own : w.ownsRow 0 28 1 (.slice wo M.waiting.length wc) M.waiting.length vs
  rows : RowsC c w vs M.waiting
  row : ∀ a, wo = some a → c a.block = k ∧ a.block ≠ p

theorem EndV.open {c : Nat → Nat} {k p : Nat} {w : World} {M : EndM} (h : EndV c k w p M) : ∃ wo wc mb vs, EndQ c k w p M wo wc mb vs := by
  obtain ⟨wo, wc, mb, vs, h1, h2, h3, h4, h5, h6, h7⟩ := h
  exact ⟨wo, wc, mb, vs, h1, h2, h3, h4, h5, h6, h7⟩

theorem EndQ.shut {c : Nat → Nat} {k p : Nat} {w : World} {M : EndM} {wo : Option Addr} {wc mb : Nat} {vs : List Value} (h : EndQ c k w p M wo wc mb vs) : EndV c k w p M :=
  ⟨wo, wc, mb, vs, h.str, h.cp, h.cm, h.map, h.own, h.rows, h.row⟩

theorem EndQ.lt {c : Nat → Nat} {k p : Nat} {w : World} {M : EndM} {wo : Option Addr} {wc mb : Nat} {vs : List Value} (h : EndQ c k w p M wo wc mb vs) : p < w.heap.size ∧ mb < w.heap.size ∧ mb ≠ p := by
  obtain ⟨es, clock, hm, _⟩ := h.map
  refine ⟨(Array.getElem?_eq_some_iff.1 h.str).1, (Array.getElem?_eq_some_iff.1 hm).1, fun e => ?_⟩
  rw [e, h.str] at hm
  cases hm

/-- A number of an end, stored. -/
theorem EndQ.store {c : Nat → Nat} {k p : Nat} {w : World} {M M' : EndM} {wo : Option Addr} {wc mb : Nat} {vs : List Value} (h : EndQ c k w p M wo wc mb vs) (hf : Fr c w) (hk : k ≠ 0) (i : Nat) (v : Value)
    (e : endCells M' wo wc mb = (endCells M wo wc mb).setIfInBounds i v) (e1 : M'.waiting = M.waiting) (e2 : M'.held = M.held) : EndQ c k (w.setCell ⟨p, i, none⟩ v) p M' wo wc mb vs ∧ Stp c c k w (w.setCell ⟨p, i, none⟩ v) := by
  obtain ⟨hp, hmb, hmp⟩ := h.lt
  have hs : Stp c c k w (w.setCell ⟨p, i, none⟩ v) := (Stp.refl hf).setCell h.cp hp v
  refine ⟨⟨by rw [heap_setCell_same w p i _ 101 v h.str, e], h.cp, h.cm, by rw [e2]; exact h.map.stp hs hk (heap_setCell_other _ _ _ _ hmp), ?_, by rw [e1]; exact h.rows.stp hs hk, h.row⟩, hs⟩
  rw [e1]
  refine ownsRow_of h.own (fun g hg => heap_setCell_other _ _ _ _ ?_)
  cases wo with
  | none => cases hg
  | some a => injection hg with hg; subst hg; exact (h.row a rfl).2

/-- The first that wait, deleted. -/
theorem EndQ.drop {c : Nat → Nat} {k p g n : Nat} {w w1 : World} {M : EndM} {wc mb : Nat} {vs : List Value} (h : EndQ c k w p M (some ⟨g, 0, none⟩) wc mb vs) (hf : Fr c w) (hk : k ≠ 0)
    (hown : w1.ownsRow 0 28 1 (.slice (some ⟨g, 0, none⟩) (M.waiting.length - n) wc) (M.waiting.length - n) (vs.drop n)) (hgrow : w.grownBy w1 (some g)) :
    EndQ c k (w1.setCell ⟨p, 2, none⟩ (.slice (some ⟨g, 0, none⟩) (M.waiting.length - n) wc)) p { M with waiting := M.waiting.drop n } (some ⟨g, 0, none⟩) wc mb (vs.drop n) ∧ Stp c c k w (w1.setCell ⟨p, 2, none⟩ (.slice (some ⟨g, 0, none⟩) (M.waiting.length - n) wc)) ∧
      w1.heap[p]? = w.heap[p]? := by
  obtain ⟨hp, hmb, hmp⟩ := h.lt
  obtain ⟨hcg, hgp⟩ := h.row _ rfl
  have hgm : g ≠ mb := by
    intro e
    obtain ⟨es, clock, hm, _⟩ := h.map
    rcases h.own.2 with ⟨h', _⟩ | ⟨g', cap, cur, hv, hg, hh, r⟩
    · cases h'
    · cases hv
      rw [e, hm] at hh
      cases hh
  have hs0 : Stp c c k w w1 := ⟨hgrow.os, hgrow.tape, hgrow.output, hgrow.size, fun _ _ => rfl, fun x hx hc => hgrow.block x hx (fun e => hc (by injection e with e; subst e; exact hcg)), fun x hx => hf x (Nat.le_trans hgrow.size hx)⟩
  have hs : Stp c c k w (w1.setCell ⟨p, 2, none⟩ (.slice (some ⟨g, 0, none⟩) (M.waiting.length - n) wc)) := hs0.setCell h.cp hp _
  have hpp : w1.heap[p]? = w.heap[p]? := hgrow.block p hp (fun e => hgp (by injection e with e; exact e.symm))
  have hl : (M.waiting.drop n).length = M.waiting.length - n := List.length_drop
  refine ⟨⟨?_, h.cp, h.cm, h.map.stp hs hk ((heap_setCell_other _ _ _ _ hmp).trans (hgrow.block mb hmb (fun e => hgm (by injection e with e; exact e.symm)))), ?_, (h.rows.drop n).stp hs hk, h.row⟩, hs, hpp⟩
  · rw [heap_setCell_same w1 p 2 _ 101 _ (hpp.trans h.str)]
    simp [endCells]
  · simp only [hl]
    exact ownsRow_of hown (fun x hx => heap_setCell_other _ _ _ _ (by injection hx with hx; subst hx; exact hgp))

/-- A message, held. -/
theorem EndQ.put {c : Nat → Nat} {k p : Nat} {w : World} {M : EndM} {wo : Option Addr} {wc mb : Nat} {vs : List Value} (h : EndQ c k w p M wo wc mb vs) (hf : Fr c w) (hk : k ≠ 0) {q : Int} (hq : M.held q = none) {v : Value} {l : List UInt8} (hv : RowC c w v l) :
    ∃ W, (Instr.mapUpdate 99 (.map (some mb)) (.int .i64 q) v).run Try.prog w = .ok () W ∧ EndQ c k W p { M with held := putH M.held q l } wo wc mb vs ∧ Stp c c k w W ∧ ∀ x, x ≠ mb → W.heap[x]? = w.heap[x]? := by
  obtain ⟨hp, hmb, hmp⟩ := h.lt
  obtain ⟨o, hrun, hmap⟩ := h.map.put hf hk h.cm hq hv
  have hs : Stp c c k w { w with heap := w.heap.setIfInBounds mb o } := (Stp.refl hf).setBlock h.cm hmb o
  have oth : ∀ x, x ≠ mb → ({ w with heap := w.heap.setIfInBounds mb o } : World).heap[x]? = w.heap[x]? := fun x hx => Array.getElem?_setIfInBounds_ne (Ne.symm hx)
  refine ⟨_, hrun, ⟨(oth p (Ne.symm hmp)).trans h.str, h.cp, h.cm, hmap, ?_, h.rows.stp hs hk, h.row⟩, hs, oth⟩
  refine ownsRow_of h.own (fun g hg => oth g ?_)
  rintro rfl
  obtain ⟨es, clock, hm, _⟩ := h.map
  rcases h.own.2 with ⟨h', _⟩ | ⟨g', cap, cur, hv', _, hh, r⟩
  · rw [h'] at hg; cases hg
  · rw [hv'] at hg
    injection hg with hg
    simp only at hg
    subst hg
    rw [hm] at hh
    cases hh

theorem ackM_wf {M : EndM} (h : Wf M) {ack : Int} (h1 : ack ≤ M.acked + M.waiting.length) (h2 : M.acked ≤ 999000000) : Wf (ackM M ack) := by
  unfold ackM
  split
  · exact ⟨h.win, h.key, by simp; have := h.wait; omega, fun l hl => h.rows l (List.mem_of_mem_drop hl), by have := h.wait; show ack.toNat ≤ _; omega, h.del, h.forg, h.hold⟩
  · exact h

theorem holdM_wf {M : EndM} (h : Wf M) {seq : Int} {l : List UInt8} (h1 : seq ≤ M.delivered + 16) (h2 : l.length ≤ 65536) : Wf (holdM M seq l) := by
  refine ⟨h.win, h.key, h.wait, h.rows, h.ack, h.del, h.forg, fun q l' hq => ?_⟩
  unfold holdM at hq ⊢
  dsimp only at hq ⊢
  split at hq
  · rename_i hc
    by_cases e : q = seq
    · subst e
      rw [putH_same] at hq
      cases hq
      exact ⟨hc.1, h1, h2⟩
    · rw [putH_other _ e] at hq
      exact h.hold q l' hq
  · exact h.hold q l' hq

theorem deliv_wf (D : Nat) : ∀ (f d : Nat) (hh : Int → Option (List UInt8)) (out : List (List UInt8)), (∀ q l, hh q = some l → (d : Int) < q ∧ q ≤ D + 16 ∧ l.length ≤ 65536) → (∀ l ∈ out, l.length ≤ 65536) → d ≤ D + 16 →
    d ≤ (delivF f d hh out).1 ∧ (delivF f d hh out).1 ≤ D + 16 ∧ (∀ q l, (delivF f d hh out).2.1 q = some l → ((delivF f d hh out).1 : Int) < q ∧ q ≤ D + 16 ∧ l.length ≤ 65536) ∧ ∀ l ∈ (delivF f d hh out).2.2, l.length ≤ 65536
  | 0, d, hh, out, h1, h2, h3 => ⟨Nat.le_refl _, h3, h1, h2⟩
  | f + 1, d, hh, out, h1, h2, h3 => by
    cases hq : hh ((d : Int) + 1) with
    | none => simp only [delivF, hq]; exact ⟨Nat.le_refl _, h3, h1, h2⟩
    | some l =>
      simp only [delivF, hq]
      have hl := h1 _ _ hq
      obtain ⟨a, b, c, e⟩ := deliv_wf D f (d + 1) (delH hh ((d : Int) + 1)) (out ++ [l]) (fun q l' hq' => by
        by_cases e : q = (d : Int) + 1
        · subst e; rw [delH_same] at hq'; cases hq'
        · rw [delH_other _ e] at hq'
          have := h1 q l' hq'
          omega) (fun l' hl' => by
        simp only [List.mem_append, List.mem_singleton] at hl'
        rcases hl' with hl' | rfl
        · exact h2 l' hl'
        · exact hl.2.2) (by omega)
      exact ⟨by omega, b, c, e⟩

theorem delivM_wf {M : EndM} (h : Wf M) (h2 : M.delivered ≤ 999000000) : Wf (delivM M) ∧ (∀ l ∈ delivL M, l.length ≤ 65536) ∧ M.delivered ≤ (delivM M).delivered ∧ (delivM M).delivered ≤ M.delivered + 16 := by
  obtain ⟨a, b, c, e⟩ := deliv_wf M.delivered 17 M.delivered M.held [] (fun q l hq => h.hold q l hq) (by simp) (by omega)
  refine ⟨⟨h.win, h.key, h.wait, h.rows, h.ack, ?_, h.forg, fun q l hq => ?_⟩, e, a, b⟩
  · show (delivF 17 M.delivered M.held []).1 ≤ _
    omega
  · have := c q l hq
    refine ⟨this.1, ?_, this.2.2⟩
    show q ≤ ((delivF 17 M.delivered M.held []).1 : Int) + 16
    omega

end Go.Proofs.Ytcpemgfpiapaaaa

namespace Go.Proofs.Ytcpemgfpiapaaaa
open Go.RowKit

/-- What In gives. -/
def InP (c : Nat → Nat) (k : Nat) (w : World) (p : Nat) (M : EndM) (ls : List (List UInt8)) (er : Int) (e : Ending) (w' : World) : Prop := ∃ c' v, Stp c c' k w w' ∧ EndV c' k w' p M ∧ e = .returned (.tuple #[v, .int .i64 er]) ∧ ListC c' w' v ls

theorem ListC.nil (c : Nat → Nat) (w : World) : ListC c w (.slice none 0 0) [] := ⟨none, 0, [], rfl, sl_zero _ _ _, RowsC.nil _ _, fun x hx => by cases hx⟩

theorem EndQ.below {c : Nat → Nat} {k p : Nat} {w w' : World} {M : EndM} {wo : Option Addr} {wc mb : Nat} {vs : List Value} (h : EndQ c k w p M wo wc mb vs) (hf : Fr c w) (hb : Below w.heap.size w w') : EndQ c k w' p M wo wc mb vs := by
  obtain ⟨hp, hmb, _⟩ := h.lt
  have hs := Stp.of_below (k := k + 1) hf hb
  exact ⟨(hb.block p hp).trans h.str, h.cp, h.cm, h.map.stp hs (by omega) (hb.block mb hmb), ownsRow_below h.own hb (Nat.le_refl _), h.rows.stp hs (by omega), h.row⟩

theorem Fr.below {c : Nat → Nat} {w w' : World} (hf : Fr c w) (hb : Below w.heap.size w w') : Fr c w' := fun b h => hf b (Nat.le_trans hb.size h)

set_option maxRecDepth 100000 in
set_option maxHeartbeats 1000000 in
theorem in_err (c : Nat → Nat) (k p : Nat) (M : EndM) (w : World) (hf : Fr c w) (hk : k ≠ 0) (hw : Wf M) (h : EndV c k w p M) (ao : Option Addr) (n cp : Nat) (b : List UInt8) (hr : SlV w ao n cp 1 (bvs b)) (hn : n ≤ 100000000000) (he : (openB M.key b).2 ≠ 0) :
    Calls Try.prog 50 #[.pointer (some ⟨p, 0, none⟩), .slice ao n cp] w (InP c k w p (if (openB M.key b).2 = 9 then { M with forged := M.forged + 1 } else M) [] (openB M.key b).2) := by
  obtain ⟨m, er, ho⟩ : ∃ m er, openB M.key b = (m, er) := ⟨_, _, rfl⟩
  rw [ho] at he ⊢
  simp only at he ⊢
  have hke := hw.key
  have hfo := hw.forg
  obtain ⟨wo, wc, mb, vs, hQ⟩ := h.open
  obtain ⟨x0, x1, x2, x3, x4, x5, x6, x7, f2, f3, f4, f6, f7⟩ := end_cells hQ.str
  have hne : (er != 0) = true := by simpa using he
  have HQ := Lib.hid hQ
  clear h hQ
  by_cases h9 : er = 9
  · subst h9
    rw [if_pos rfl]
    have s0 := True.intro
    go_enter Try.func50, Try.ntmps50
    go_wp2_with (first
      | (clear s0; go_at_call 46; refine (lopen_any M.key hke ao n cp b _ hr hn m 9 ho).mono ?_; rintro e w1 ⟨a1, c1, rfl, ho1, hb1⟩; obtain ⟨y0, y1, y2, y3, y4, y5, y6, y7, g2, g3, g4, g6, g7⟩ := end_cells (HQ.out.below hf hb1).str; have s1 := True.intro))
    go_ret2
    obtain ⟨q1, q2⟩ := (HQ.out.below hf hb1).store (hf.below hb1) hk (M' := { M with forged := M.forged + 1 }) 7 (.int .i64 ((M.forged : Int) + 1)) (by simp [endCells]) rfl rfl
    exact ⟨c, _, (Stp.of_below hf hb1).trans q2, q1.shut, rfl, ListC.nil _ _⟩
  · rw [if_neg h9]
    have h9' : (er == 9) = false := by simpa using h9
    have s0 := True.intro
    go_enter Try.func50, Try.ntmps50
    go_wp2_with (first
      | (clear s0; go_at_call 46; refine (lopen_any M.key hke ao n cp b _ hr hn m er ho).mono ?_; rintro e w1 ⟨a1, c1, rfl, ho1, hb1⟩; have s1 := True.intro))
    go_ret2
    exact ⟨c, _, Stp.of_below hf hb1, (HQ.out.below hf hb1).shut, rfl, ListC.nil _ _⟩

set_option maxRecDepth 100000 in
set_option maxHeartbeats 1000000 in
theorem in_none (c : Nat → Nat) (k p : Nat) (M : EndM) (w : World) (hf : Fr c w) (hw : Wf M) (h : EndV c k w p M) (ao : Option Addr) (n cp : Nat) (b : List UInt8) (hr : SlV w ao n cp 1 (bvs b)) (hn : n ≤ 100000000000) (m : List UInt8) (ho : openB M.key b = (m, 0)) (hm : m.length ≤ 100000000000) (hrd : readB m = none) :
    Calls Try.prog 50 #[.pointer (some ⟨p, 0, none⟩), .slice ao n cp] w (InP c k w p M [] 2) := by
  have hke := hw.key
  obtain ⟨wo, wc, mb, vs, hQ⟩ := h.open
  obtain ⟨x0, x1, x2, x3, x4, x5, x6, x7, f2, f3, f4, f6, f7⟩ := end_cells hQ.str
  have HQ := Lib.hid hQ
  clear h hQ
  have s0 := True.intro
  go_enter Try.func50, Try.ntmps50
  go_wp2_with (first
    | (clear s0; go_at_call 46; refine (lopen_any M.key hke ao n cp b _ hr hn m 0 ho).mono ?_; rintro e w1 ⟨a1, c1, rfl, ho1, hb1⟩; have s1 := True.intro)
    | (clear s1; go_at_call 70; refine (read_any a1 _ c1 m _ ho1 hm none hrd).mono ?_; rintro e w2 ⟨r0, r1, r2, r3, r4, rfl, hb2⟩; have s2 := True.intro))
  go_ret2
  have hb12 := hb1.trans (hb2.mono hb1.size)
  have hb3 := hb12.alloc hb12.size (.cells #[.int .i64 r0, .int .i64 r1, .slice r2 r3 r4] 103)
  exact ⟨c, _, Stp.of_below hf hb3, (HQ.out.below hf hb3).shut, rfl, ListC.nil _ _⟩

end Go.Proofs.Ytcpemgfpiapaaaa

namespace Go.Proofs.Ytcpemgfpiapaaaa
open Go.RowKit

/-- The cells of a packet's variable. -/
theorem pkt_cells {w : World} {P : Nat} {x0 x1 x2 : Value} (h : w.heap[P]? = some (.cells #[x0, x1, x2] 103 (0, 0))) : w.cell? ⟨P, 0, none⟩ = some x0 ∧ w.cell? ⟨P, 1, none⟩ = some x1 ∧ w.cell? ⟨P, 2, none⟩ = some x2 :=
  ⟨(cells_of h 0).1, (cells_of h 1).1, (cells_of h 2).1⟩

set_option maxRecDepth 100000 in
set_option maxHeartbeats 1000000 in
theorem in_far (c : Nat → Nat) (k p : Nat) (M : EndM) (w : World) (hf : Fr c w) (hw : Wf M) (h : EndV c k w p M) (ao : Option Addr) (n cp : Nat) (b : List UInt8) (hr : SlV w ao n cp 1 (bvs b)) (hn : n ≤ 100000000000) (m : List UInt8) (ho : openB M.key b = (m, 0)) (hm : m.length ≤ 100000000000) (seq ack : Int) (l : List UInt8) (hrd : readB m = some (seq, ack, l))
    (hfar : (M.acked : Int) + M.waiting.length < ack ∨ (M.delivered : Int) + 16 < seq) :
    Calls Try.prog 50 #[.pointer (some ⟨p, 0, none⟩), .slice ao n cp] w (InP c k w p M [] 0) := by
  have hke := hw.key
  have hac := hw.ack
  have hwa := hw.wait
  have hde := hw.del
  obtain ⟨wo, wc, mb, vs, hQ⟩ := h.open
  obtain ⟨x0, x1, x2, x3, x4, x5, x6, x7, f2, f3, f4, f6, f7⟩ := end_cells hQ.str
  have HQ := Lib.hid hQ
  have HF := Lib.hid hfar
  clear h hQ hfar
  have s0 := True.intro
  go_enter Try.func50, Try.ntmps50
  go_upto_region 9 with (first
    | (clear s0; go_at_call 46; refine (lopen_any M.key hke ao n cp b _ hr hn m 0 ho).mono ?_; rintro e w1 ⟨a1, c1, rfl, ho1, hb1⟩; have s1 := True.intro)
    | (clear s1; go_at_call 70; refine (read_any a1 _ c1 m _ ho1 hm _ hrd).mono ?_; rintro e w2 ⟨ta, tc, rfl, hta, htb, hb2⟩; have s2 := True.intro))
  have hb12 := hb1.trans (hb2.mono hb1.size)
  have hb3 := hb12.alloc hb12.size (.cells #[.int .i64 seq, .int .i64 ack, .slice ta l.length tc] 103)
  have hP : (w2.alloc (.cells #[.int .i64 seq, .int .i64 ack, .slice ta l.length tc] 103)).heap[w2.heap.size]? = some (.cells #[.int .i64 seq, .int .i64 ack, .slice ta l.length tc] 103 (0, 0)) := heap_alloc_new w2 _
  generalize w2.alloc (.cells #[.int .i64 seq, .int .i64 ack, .slice ta l.length tc] 103) = W3 at hb3 hP ⊢
  generalize w2.heap.size = P at hP ⊢
  clear x0 x1 x2 x3 x4 x5 x6 x7 f2 f3 f4 f6 f7 hta ho1
  obtain ⟨x0, x1, x2, x3, x4, x5, x6, x7, f2, f3, f4, f6, f7⟩ := end_cells (HQ.out.below hf hb3).str
  obtain ⟨y0, y1, y2⟩ := pkt_cells hP
  have e1 : IntKind.i64.wrap ((M.acked : Int) + (M.waiting.length : Int)) = (M.acked : Int) + M.waiting.length := IntWalk.i64_in _ (by omega)
  have e2 : IntKind.i64.wrap ((M.delivered : Int) + 16) = (M.delivered : Int) + 16 := IntWalk.i64_in _ (by omega)
  by_cases hA : (M.acked : Int) + M.waiting.length < ack
  · have hd : decide ((M.acked : Int) + M.waiting.length < ack) = true := by simpa using hA
    go_quiet (fail)
    go_wp2
    go_ret2
    have hb4 := below_drewN hb3 nq
    exact ⟨c, _, Stp.of_below hf hb4, (HQ.out.below hf hb4).shut, rfl, ListC.nil _ _⟩
  · have hd : decide ((M.acked : Int) + M.waiting.length < ack) = false := by simpa using hA
    have hB : (M.delivered : Int) + 16 < seq := by have := HF.out; omega
    go_quiet (fail)
    go_wp2
    go_ret2
    have hb4 := below_drewN hb3 nq
    exact ⟨c, _, Stp.of_below hf hb4, (HQ.out.below hf hb4).shut, rfl, ListC.nil _ _⟩

end Go.Proofs.Ytcpemgfpiapaaaa
