/- link.End.Copy: the clone of what waits; the range over what is held. -/
import Derived.Test.YtcpemgfpiapaaaaLkF
import Derived.Lib.SliceRun
import Derived.Maps.RangeRun
namespace Go.Proofs.Ytcpemgfpiapaaaa
open Go.RowKit

theorem Try.und63 : Try.prog.underlying 63 = some (.slice 28) := by kernel_rfl

theorem own_zero28 (w : World) (B : Nat) (hB : B ≤ w.heap.size) : (w.alloc (.cells #[] 28)).ownsRow B 28 1 (.slice (some ⟨w.heap.size, 0, none⟩) 0 0) 0 [] :=
  ⟨rfl, .inr ⟨w.heap.size, 0, #[], rfl, hB, heap_alloc_new w _, Nat.le_refl _, by unfold maxLen; omega, rfl, rfl⟩⟩

set_option maxRecDepth 20000 in
/-- slices.Clone of a list of byte slices. -/
theorem clone2_any (ao : Option Addr) (n c : Nat) (vs : List Value) (w : World) (hr : SlV w ao n c 1 vs) (hone : ∀ u ∈ vs, u.oneCell' = true) (hm : n ≤ 1000) :
    Calls Try.prog 74 #[.slice ao n c] w (fun e w' => ∃ a c', e = .returned (.slice a n c') ∧ w'.ownsRow w.heap.size 28 1 (.slice a n c') n vs ∧ Below w.heap.size w w') := by
  have hln : vs.length = n := by have := hr.len; omega
  cases ao with
  | none =>
    have hc : c = 0 := hr.nil rfl
    subst hc
    have hn : n = 0 := by have := hr.le; omega
    subst hn
    have hl : vs = [] := List.eq_nil_of_length_eq_zero hln
    subst hl
    have hq : ∀ w : World, (binOp .eql 63 (.slice none 0 0) (.slice none 0 0)).run Try.prog w = .ok (.bool true) w := fun w => Lib.run_eql_slice_nil w 63 28 none 0 0 0 0 Try.und63
    go_enter Try.func74, Try.ntmps74
    go_wp2
    go_ret
    exact ⟨none, 0, rfl, World.ownsRow_nil _ _ _ _, Below.refl _ _⟩
  | some a =>
    have hr2 := hr.below ((Below.refl w.heap.size w).alloc (Nat.le_refl _) (.cells #[] 28)) (Nat.le_refl _)
    have s0 := True.intro
    have hq : ∀ w : World, (binOp .eql 63 (.slice (some a) n c) (.slice none 0 0)).run Try.prog w = .ok (.bool false) w := fun w => Lib.run_eql_slice_nil w 63 28 (some a) n c 0 0 Try.und63
    go_enter Try.func74, Try.ntmps74
    go_wp2_with (first
      | (clear s0; at_builtin; refine ap_any rfl (.tmp 5) (.tmp 6) 63 rfl w.heap.size 28 (.slice none 0 0) 1 24 Try.und63 Try.info28 rfl (by decide) _ 0 [] rfl (own_zero28 w _ (Nat.le_refl _)) (some a) n c vs rfl hr2 hone (by omega) (by unfold maxLen; omega) (by simp) ?_; intro ao3 cap3 w2 ho3 hb3; have s2 := True.intro))
    go_ret
    refine ⟨ao3, cap3, by simp, by simpa using ho3, ((Below.refl _ _).alloc (Nat.le_refl _) _).trans hb3⟩

theorem RowsC.one' {c : Nat → Nat} {w : World} {vs : List Value} {ls : List (List UInt8)} (h : RowsC c w vs ls) : ∀ u ∈ vs, u.oneCell' = true := h.one

/-- While the copy of what is held is made: the copy's block P, its map m2, the iterator r. -/
structure Cpy (c c1 : Nat → Nat) (k2 P m2 r mb : Nat) (w wr : World) (M : EndM) (a1 : Option Addr) (k1 : Nat) (vs : List Value) (es : Array MapEntry) (clock : Nat) (seen : Array Nat) (hs : Int → Option (List UInt8)) : Prop where
  stp : Stp c c1 k2 w wr
  below : Below w.heap.size w wr
  str : wr.heap[P]? = some (.cells (endCells M a1 k1 m2) 101 (0, 0))
  own : wr.ownsRow (w.heap.size + 1) 28 1 (.slice a1 M.waiting.length k1) M.waiting.length vs
  map : MapR c1 wr m2 hs
  it : wr.heap[r]? = some (.mapIter (some mb) clock seen clock)
  col : c1 P = k2 ∧ c1 m2 = k2 ∧ c1 r = k2
  held : ∀ q, hs q = none ∨ hs q = M.held q
  done : ∀ x ∈ es.toList, ∀ q, x.key = .int .i64 q → seen.contains x.born = true → hs q = M.held q
  open' : ∀ x ∈ es.toList, ∀ q, x.key = .int .i64 q → seen.contains x.born = false → hs q = none

theorem born_one {l : List MapEntry} (h : (l.map (·.born)).Nodup) {x y : MapEntry} (hx : x ∈ l) (hy : y ∈ l) (e : x.born = y.born) : x = y := by
  have h' : l.Pairwise (fun x y => x.born ≠ y.born) := List.pairwise_map.1 h
  obtain ⟨i, hi, rfl⟩ := List.mem_iff_getElem.1 hx
  obtain ⟨j, hj, rfl⟩ := List.mem_iff_getElem.1 hy
  have hp := List.pairwise_iff_getElem.1 h'
  rcases Nat.lt_trichotomy i j with hlt | rfl | hlt
  · exact absurd e (hp i j hi hj hlt)
  · rfl
  · exact absurd e.symm (hp j i hj hi hlt)

/-- One entry more. -/
theorem Cpy.next {c c1 : Nat → Nat} {k2 P m2 r mb : Nat} {w wr w1 : World} {M : EndM} {a1 : Option Addr} {k1 : Nat} {vs : List Value} {es : Array MapEntry} {clock : Nat} {seen : Array Nat} {hs : Int → Option (List UInt8)}
    (C : Cpy c c1 k2 P m2 r mb w wr M a1 k1 vs es clock seen hs) (hk2 : k2 ≠ 0) (hm2 : w.heap.size ≤ m2) (hr : w.heap.size ≤ r) (hne : P ≠ m2 ∧ P ≠ r ∧ m2 ≠ r) (hg : ∀ g, (Value.slice a1 M.waiting.length k1).ownBlock = some g → g ≠ m2 ∧ g ≠ r)
    (hst : MapKept.Stamped es clock) (h4 : ∀ q l, M.held q = some l → ∃ x ∈ es.toList, x.key = .int .i64 q ∧ RowC c w x.val l) (h4n : ∀ q, M.held q = none → ∀ x ∈ es.toList, x.key ≠ .int .i64 q)
    {e : MapEntry} (he : e ∈ es.toList) (hs0 : seen.contains e.born = false) {q : Int} (hq : e.key = .int .i64 q) (hw1 : w1 = wr ∨ w1 = wr.drew) :
    ∃ W hs', (Instr.mapUpdate 99 (.map (some m2)) (.int .i64 q) e.val).run Try.prog (ChangeMaps.setBlock w1 r (.mapIter (some mb) clock (seen.push e.born) clock)) = .ok () W ∧ Cpy c c1 k2 P m2 r mb w W M a1 k1 vs es clock (seen.push e.born) hs' ∧
      (ChangeMaps.setBlock w1 r (.mapIter (some mb) clock (seen.push e.born) clock)).heap[r]? = some (.mapIter (some mb) clock (seen.push e.born) clock) ∧
      (ChangeMaps.setBlock w1 r (.mapIter (some mb) clock (seen.push e.born) clock)).heap[P]? = some (.cells (endCells M a1 k1 m2) 101 (0, 0)) ∧
      Below w.heap.size w (ChangeMaps.setBlock w1 r (.mapIter (some mb) clock (seen.push e.born) clock)) := by
  have hheap : w1.heap = wr.heap := by rcases hw1 with rfl | rfl <;> rfl
  have hrl : r < wr.heap.size := (Array.getElem?_eq_some_iff.1 C.it).1
  have hb1 : Below wr.heap.size wr w1 := by
    rcases hw1 with rfl | rfl
    · exact Below.refl _ _
    · exact (Below.refl _ _).drew
  have st1 : Stp c1 c1 k2 wr w1 := Stp.of_below C.stp.fr hb1
  have st2 : Stp c1 c1 k2 wr (ChangeMaps.setBlock w1 r (.mapIter (some mb) clock (seen.push e.born) clock)) := st1.setBlock C.col.2.2 hrl _
  generalize hW : ChangeMaps.setBlock w1 r (.mapIter (some mb) clock (seen.push e.born) clock) = W at st2
  have oth : ∀ x, x ≠ r → W.heap[x]? = wr.heap[x]? := fun x hx => by
    rw [← hW]
    show (w1.heap.setIfInBounds r _)[x]? = _
    rw [Array.getElem?_setIfInBounds_ne (Ne.symm hx), hheap]
  have itW : W.heap[r]? = some (.mapIter (some mb) clock (seen.push e.born) clock) := by
    rw [← hW]
    show (w1.heap.setIfInBounds r _)[r]? = _
    simp [hheap, hrl]
  have mapW : MapR c1 W m2 hs := C.map.stp st2 hk2 (oth m2 hne.2.2)
  have hbW : Below w.heap.size w W := ⟨st2.os.trans C.below.os, st2.tape.trans C.below.tape, st2.output.trans C.below.output, Nat.le_trans C.below.size st2.size, fun x hx => (oth x (by omega)).trans (C.below.block x hx)⟩
  have hnone := C.open' e he q hq hs0
  obtain ⟨l, hl⟩ : ∃ l, M.held q = some l := by
    cases h : M.held q with
    | none => exact absurd hq (h4n q h e he)
    | some l => exact ⟨l, rfl⟩
  obtain ⟨x, hx, hxk, hxr⟩ := h4 q l hl
  have hxe : x = e := key_one (stamped_keys hst) hx he (hxk.trans hq.symm)
  subst hxe
  have hrow : RowC c1 W x.val l := hxr.stp (C.stp.trans st2) hk2
  obtain ⟨o, hrun, hmap⟩ := mapW.put st2.fr hk2 C.col.2.1 hnone hrow
  have hml : m2 < W.heap.size := by
    obtain ⟨es2, clock2, hb, _⟩ := mapW
    exact (Array.getElem?_eq_some_iff.1 hb).1
  have st3 : Stp c1 c1 k2 W { W with heap := W.heap.setIfInBounds m2 o } := (Stp.refl st2.fr).setBlock C.col.2.1 hml o
  have oth3 : ∀ x, x ≠ m2 → ({ W with heap := W.heap.setIfInBounds m2 o } : World).heap[x]? = W.heap[x]? := fun x hx => Array.getElem?_setIfInBounds_ne (Ne.symm hx)
  refine ⟨_, putH hs q l, hrun, ⟨(C.stp.trans st2).trans st3, ⟨st3.os.trans hbW.os, st3.tape.trans hbW.tape, st3.output.trans hbW.output, Nat.le_trans hbW.size st3.size, fun y hy => (oth3 y (by omega)).trans (hbW.block y hy)⟩,
    (oth3 P hne.1).trans ((oth P hne.2.1).trans C.str), ?_, hmap, (oth3 r (Ne.symm hne.2.2)).trans itW, C.col, ?_, ?_, ?_⟩, itW, (oth P hne.2.1).trans C.str, hbW⟩
  · refine ⟨C.own.1, ?_⟩
    rcases C.own.2 with h | ⟨g, cap, cur, hv, hgb, hh, rr⟩
    · exact .inl h
    · have hg2 := hg g (by rw [hv]; rfl)
      exact .inr ⟨g, cap, cur, hv, hgb, (oth3 g hg2.1).trans ((oth g hg2.2).trans hh), rr⟩
  · intro y
    by_cases e : y = q
    · subst e; rw [putH_same]; exact .inr hl.symm
    · rw [putH_other _ e]; exact C.held y
  · intro z hz y hy hsz
    by_cases e : y = q
    · subst e; rw [putH_same]; exact hl.symm
    · rw [putH_other _ e]
      have hzx : z.born ≠ x.born := fun hbb => by
        have : z = x := born_one ((MapKept.stamped_iff es clock).1 hst).2.1 hz hx hbb
        subst this
        rw [hq] at hy
        injection hy with _ hy
        exact e hy.symm
      refine C.done z hz y hy ?_
      rw [contains_push] at hsz
      have e2 : (z.born == x.born) = false := by simpa using hzx
      rw [e2, Bool.or_false] at hsz
      exact hsz
  · intro z hz y hy hsz
    have h2 : seen.contains z.born = false ∧ z.born ≠ x.born := by
      rw [contains_push] at hsz
      simpa using hsz
    by_cases e : y = q
    · subst e
      have : z = x := key_one (stamped_keys hst) hz hx (hy.trans hq.symm)
      subst this
      exact absurd rfl h2.2
    · rw [putH_other _ e]
      exact C.open' z hz y hy h2.1

set_option maxRecDepth 20000 in
set_option maxHeartbeats 1000000 in
theorem copy_any (c : Nat → Nat) (k k2 p : Nat) (M : EndM) (w : World) (hf : Fr c w) (hk2 : k2 ≠ 0) (hw : Wf M) (h : EndV c k w p M) :
    Calls Try.prog 55 #[.pointer (some ⟨p, 0, none⟩)] w (fun e w' => ∃ c' p2, Stp c c' k2 w w' ∧ EndV c' k2 w' p2 M ∧ Below w.heap.size w w' ∧ e = .returned (.pointer (some ⟨p2, 0, none⟩))) := by
  obtain ⟨wo, wc, mb, vs, h1, h2, h3, h4, h5, h6, h7⟩ := id h
  obtain ⟨x0, x1, x2, x3, x4, x5, x6, x7, f2, f3, f4, f6, f7⟩ := end_cells h1
  have hwa := hw.wait
  have hS := ownsRow_sl h5
  have hone := h6.one
  have hp := (Array.getElem?_eq_some_iff.1 h1).1
  have ba := (Below.refl w.heap.size w).alloc (Nat.le_refl _) (.cells (endCells M wo wc mb) 101)
  have hS2 := hS.below ba (Nat.le_refl _)
  have hmm := @run_makeMap Try.prog
  have s0 := True.intro
  go_enter Try.func55, Try.ntmps55
  go_upto_region 3 with (first
    | (clear s0; go_at_call 74; refine (clone2_any wo _ wc vs _ hS2 hone hwa).mono ?_; rintro e w1 ⟨a1, k1, rfl, o1, b1⟩; have str1 : w1.heap[w.heap.size]? = some (.cells (endCells M wo wc mb) 101 (0, 0)) := (b1.block w.heap.size (by simp)).trans (heap_alloc_new w _); obtain ⟨y0, y1, y2, y3, y4, y5, y6, y7, g2, g3, g4, g6, g7⟩ := end_cells str1; have s1 := True.intro))
  have hb1 : Below w.heap.size w w1 := ba.trans (b1.mono (by simp))
  have str2 : (w1.setCell ⟨w.heap.size, 2, none⟩ (.slice a1 M.waiting.length k1)).heap[w.heap.size]? = some (.cells (endCells M a1 k1 mb) 101 (0, 0)) := by
    rw [heap_setCell_same w1 w.heap.size 2 _ 101 _ str1]
    simp [endCells]
  have hb2 : Below w.heap.size w (w1.setCell ⟨w.heap.size, 2, none⟩ (.slice a1 M.waiting.length k1)) := hb1.setCell (p := ⟨w.heap.size, 2, none⟩) (Nat.le_refl _) _
  have hgne : ∀ g, (Value.slice a1 M.waiting.length k1).ownBlock = some g → w.heap.size < g := fun g hg => by
    have := (o1.lt g hg).1
    simp at this
    omega
  have o2 : (w1.setCell ⟨w.heap.size, 2, none⟩ (.slice a1 M.waiting.length k1)).ownsRow (w.heap.size + 1) 28 1 (.slice a1 M.waiting.length k1) M.waiting.length vs := by
    have o1' : w1.ownsRow (w.heap.size + 1) 28 1 (.slice a1 M.waiting.length k1) M.waiting.length vs := by simpa using o1
    refine ⟨o1'.1, ?_⟩
    rcases o1'.2 with h | ⟨g, cap, cur, hv, hg, hh, r⟩
    · exact .inl h
    · exact .inr ⟨g, cap, cur, hv, hg, (heap_setCell_other _ _ _ _ (by show g ≠ w.heap.size; omega)).trans hh, r⟩
  generalize w1.setCell ⟨w.heap.size, 2, none⟩ (.slice a1 M.waiting.length k1) = w2 at str2 hb2 o2 ⊢
  clear str1 y0 y1 y2 y3 y4 y5 y6 y7 g2 g3 g4 g6 g7 o1 b1 hb1 hS2 ba
  have hsz2 : w.heap.size < w2.heap.size := (Array.getElem?_eq_some_iff.1 str2).1
  have str3 : (w2.alloc (.map #[] 0)).heap[w.heap.size]? = some (.cells (endCells M a1 k1 mb) 101 (0, 0)) := (Below.heap_alloc _ _ _ hsz2).trans str2
  obtain ⟨y0, y1, y2, y3, y4, y5, y6, y7, g2, g3, g4, g6, g7⟩ := end_cells str3
  have g5 := (cells_of str3 5).2
  go_upto_region 4 with fail
  obtain ⟨es, clock, hmb, hkeys, hst, h4n, h4s⟩ := id h4
  have hmbl : mb < w.heap.size := (Array.getElem?_eq_some_iff.1 hmb).1
  have hb4 : Below w.heap.size w ((w2.setCell ⟨w.heap.size, 5, none⟩ (.map (some w2.heap.size))).alloc (.map #[] 0)) := (hb2.setCell (p := ⟨w.heap.size, 5, none⟩) (Nat.le_refl _) _).alloc (by simp; omega) _
  have hs4 : ((w2.setCell ⟨w.heap.size, 5, none⟩ (.map (some w2.heap.size))).alloc (.map #[] 0)).heap.size = w2.heap.size + 1 := by simp
  have str4 : ((w2.setCell ⟨w.heap.size, 5, none⟩ (.map (some w2.heap.size))).alloc (.map #[] 0)).heap[w.heap.size]? = some (.cells (endCells M a1 k1 w2.heap.size) 101 (0, 0)) := by
    refine (Below.heap_alloc _ _ _ (by simpa using hsz2)).trans ?_
    rw [heap_setCell_same w2 w.heap.size 5 _ 101 _ str2]
    simp [endCells]
  have o4 : ((w2.setCell ⟨w.heap.size, 5, none⟩ (.map (some w2.heap.size))).alloc (.map #[] 0)).ownsRow (w.heap.size + 1) 28 1 (.slice a1 M.waiting.length k1) M.waiting.length vs := by
    refine ⟨o2.1, ?_⟩
    rcases o2.2 with h | ⟨g, cap, cur, hv, hg, hh, r⟩
    · exact .inl h
    · exact .inr ⟨g, cap, cur, hv, hg, (Below.heap_alloc _ _ _ (by simpa using (Array.getElem?_eq_some_iff.1 hh).1)).trans ((heap_setCell_other _ _ _ _ (by show g ≠ w.heap.size; omega)).trans hh), r⟩
  have m4 : ((w2.setCell ⟨w.heap.size, 5, none⟩ (.map (some w2.heap.size))).alloc (.map #[] 0)).heap[w2.heap.size]? = some (.map #[] 0) := by
    have := heap_alloc_new (w2.setCell ⟨w.heap.size, 5, none⟩ (.map (some w2.heap.size))) (.map #[] 0)
    simpa using this
  have hgne4 : ∀ g, (Value.slice a1 M.waiting.length k1).ownBlock = some g → g < w2.heap.size := fun g hg => (o2.lt g hg).2
  generalize (w2.setCell ⟨w.heap.size, 5, none⟩ (.map (some w2.heap.size))).alloc (.map #[] 0) = w4 at hb4 hs4 str4 o4 m4 ⊢
  generalize w2.heap.size = m2 at hs4 str4 m4 hsz2 hgne4 ⊢
  clear str2 hb2 o2 str3 y0 y1 y2 y3 y4 y5 y6 y7 g2 g3 g4 g5 g6 g7
  have hmb4 : w4.heap[mb]? = some (.map es clock) := (hb4.block mb hmbl).trans hmb
  have hrg := run_range_map (P := Try.prog) w4 99 3 28 mb es clock Try.underlying99 hmb4
  obtain ⟨y0, y1, y2, y3, y4, y5, y6, y7, g2, g3, g4, g6, g7⟩ := end_cells ((hb4.block p hp).trans h1)
  have hb5 : Below w.heap.size w (w4.alloc (.mapIter (some mb) clock #[] clock)) := hb4.alloc hb4.size _
  have hst5 : Stp c (fun b => if w.heap.size ≤ b ∧ b < w4.heap.size + 1 then k2 else c b) k2 w (w4.alloc (.mapIter (some mb) clock #[] clock)) := by
    refine ⟨hb5.os, hb5.tape, hb5.output, hb5.size, fun b hb => if_neg (by omega), fun b hb _ => hb5.block b hb, fun b hb => ?_⟩
    have : w4.heap.size + 1 ≤ b := by simpa using hb
    rw [if_neg (by omega)]
    exact hf b (by omega)
  have HC : Hid (Cpy c (fun b => if w.heap.size ≤ b ∧ b < w4.heap.size + 1 then k2 else c b) k2 w.heap.size m2 w4.heap.size mb w (w4.alloc (.mapIter (some mb) clock #[] clock)) M a1 k1 vs es clock #[] (fun _ => none)) := by
    refine Lib.hid ⟨hst5, hb5, (Below.heap_alloc _ _ _ (by omega)).trans str4, ownsRow_below o4 ((Below.refl w4.heap.size w4).alloc (Nat.le_refl _) _) (Nat.le_refl _), ?_, heap_alloc_new w4 _, ⟨if_pos (by omega), if_pos (by omega), if_pos (by omega)⟩, fun q => .inl rfl, fun x hx q _ h => by simp at h, fun _ _ _ _ _ => rfl⟩
    exact ⟨_, _, (Below.heap_alloc _ _ _ (by omega)).trans m4, by simp, by simp [MapKept.Stamped], fun q _ x hx => by simp at hx, fun q l h => by cases h⟩
  have HR5 : ∀ g, (Value.slice a1 M.waiting.length k1).ownBlock = some g → g ≠ m2 ∧ g ≠ w4.heap.size := fun g hg => by have := hgne4 g hg; omega
  have HSt := Lib.hid hst
  have H4s := Lib.hid h4s
  have H4n := Lib.hid h4n
  have H6 := Lib.hid h6
  have hbornlt := hst.1
  have hr4 : w4.heap.size = m2 + 1 := hs4
  have hc1 : ∀ b, w.heap.size ≤ b → b < w4.heap.size + 1 → (fun b => if w.heap.size ≤ b ∧ b < w4.heap.size + 1 then k2 else c b) b = k2 := fun b h1 h2 => if_pos ⟨h1, h2⟩
  generalize (fun b => if w.heap.size ≤ b ∧ b < w4.heap.size + 1 then k2 else c b) = c1 at HC hst5 hc1
  clear h4 h4s h4n hst h5 h6 hS hone o4 str4 m4 y0 y1 y2 y3 y4 y6 y7 g2 g3 g4 g6 g7 x0 x1 x2 x3 x4 x5 x6 x7 f2 f3 f4 f6 f7 hst5 hb5
  generalize w4.heap.size = r at hrg HC HR5 hc1 hr4 hs4
  have HRm := Lib.hid hr4
  clear hr4 hs4
  go_wp2_with fail
  generalize w4.alloc (.mapIter (some mb) clock #[] clock) = w5 at HC ⊢
  clear hrg y5
  go_loopw [4, 5] (fun _ _ wr => ∃ (seen : Array Nat) (hs : Int → Option (List UInt8)), Hid (Cpy c c1 k2 w.heap.size m2 r mb w wr M a1 k1 vs es clock seen hs)) (fun _ _ wr => (leftOf es (wr.iterSeen r)).size)
  case atStart => exact ⟨_, _, HC⟩
  case round =>
    obtain ⟨seen, hs, hC⟩ := hrel
    have hmbr : wr.heap[mb]? = some (.map es clock) := (hC.out.below.block mb hmbl).trans hmb
    rcases run_next_at (P := Try.prog) wr 0 r mb clock clock seen es clock hC.out.it hmbr hbornlt (Nat.le_refl _) with ⟨hl0, hnx⟩ | ⟨e, he, wn, hwn, hnx⟩
    · go_wp2
      go_ret
      have hall : ∀ x ∈ es.toList, seen.contains x.born = true := fun x hx => by
        cases hcx : seen.contains x.born with
        | true => rfl
        | false =>
          have hm : x ∈ leftOf es seen := Array.mem_filter.2 ⟨Array.mem_toList_iff.1 hx, by rw [hcx]; rfl⟩
          have := Array.size_pos_of_mem hm
          omega
      have hsM : hs = M.held := by
        funext y
        rcases hC.out.held y with h | h
        · cases hy : M.held y with
          | none => rw [h]
          | some l =>
            obtain ⟨x, hx, hxk, _⟩ := H4s.out y l hy
            rw [hC.out.done x hx y hxk (hall x hx), hy]
        · exact h
      have hmap := hC.out.map
      rw [hsM] at hmap
      exact ⟨c1, w.heap.size, hC.out.stp, ⟨a1, k1, m2, vs, hC.out.str, hC.out.col.1, hC.out.col.2.1, hmap, ownsRow_base hC.out.own (Nat.zero_le _), H6.out.stp hC.out.stp hk2, fun a ha => by
        subst ha
        have h1 := hgne a.block rfl
        have h2 := hgne4 a.block rfl
        have h3 := HRm.out
        exact ⟨hc1 _ (by omega) (by omega), by omega⟩⟩, hC.out.below, rfl⟩
    · obtain ⟨he1, he2⟩ := mem_left he
      obtain ⟨q, hq⟩ := hkeys e he1
      obtain ⟨W', hs', hup, hC', hit, hstr, hbW⟩ := hC.out.next hk2 (by have := HRm.out; omega) (by have := HRm.out; omega) ⟨by omega, by have := HRm.out; omega, by have := HRm.out; omega⟩ HR5 HSt.out H4s.out H4n.out he1 he2 hq hwn
      have hX := hC.out.it
      generalize ChangeMaps.setBlock wn r (.mapIter (some mb) clock (seen.push e.born) clock) = Wn at hnx hup hit hstr hbW
      have hen := run_entry_at (P := Try.prog) Wn r mb clock seen es clock e hit ((hbW.block mb hmbl).trans hmb) he1 HSt.out.2.1
      obtain ⟨y0, y1, y2, y3, y4, y5, y6, y7, g2, g3, g4, g6, g7⟩ := end_cells hstr
      have HC' := Lib.hid hC'
      clear hC' hit hstr hC hbW y0 y1 y2 y3 y4 y6 y7 g2 g3 g4 g6 g7
      go_wp2
      go_roundw
      case rel => exact ⟨_, hs', HC'⟩
      case measure =>
        have h1 : W'.iterSeen r = seen.push e.born := by unfold World.iterSeen; rw [HC'.out.it]
        have h2 : wr.iterSeen r = seen := by unfold World.iterSeen; rw [hX]
        rw [h1, h2]
        exact left_shrinks es seen e (by assumption)

end Go.Proofs.Ytcpemgfpiapaaaa
