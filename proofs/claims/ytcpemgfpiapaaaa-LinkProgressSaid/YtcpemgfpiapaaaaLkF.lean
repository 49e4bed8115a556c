/- How an end of a link lies in memory: colours of blocks, steps that touch one colour alone, the struct's cells, the map's laws. The plain end of a link, how it lies in memory, and what making one, asking it how many wait and how many seals were wrong do. -/
import Derived.Test.YtcpemgfpiapaaaaLkE
import Derived.Test.YtcpemgfpiapaaaaPktL
import Derived.Deep.AppendLies
import Derived.Deep.RegionHeldLaw
import Derived.Maps.Keyed
namespace Go.Proofs.Ytcpemgfpiapaaaa
open Go.RowKit

theorem Try.info28' : (Try.prog.info? 28).map (fun i => (i.zero, i.size, i.bytes)) = some (some (.slice none 0 0), 1, 24) := by kernel_rfl

/-- A step: only blocks of colour k, and new ones, are touched. -/
structure Stp (c c' : Nat → Nat) (k : Nat) (w w' : World) : Prop where
  os : w'.os = w.os
  tape : w'.tape = w.tape
  output : w'.output = w.output
  size : w.heap.size ≤ w'.heap.size
  col : ∀ b, b < w.heap.size → c' b = c b
  keep : ∀ b, b < w.heap.size → c b ≠ k → w'.heap[b]? = w.heap[b]?
  fresh : ∀ b, w'.heap.size ≤ b → c' b = 0

/-- Blocks that are not yet there have no colour. -/
def Fr (c : Nat → Nat) (w : World) : Prop := ∀ b, w.heap.size ≤ b → c b = 0

theorem Stp.trans {c c' c'' : Nat → Nat} {k : Nat} {a b d : World} (h : Stp c c' k a b) (g : Stp c' c'' k b d) : Stp c c'' k a d :=
  ⟨g.os.trans h.os, g.tape.trans h.tape, g.output.trans h.output, Nat.le_trans h.size g.size,
   fun x hx => (g.col x (Nat.lt_of_lt_of_le hx h.size)).trans (h.col x hx),
   fun x hx hc => (g.keep x (Nat.lt_of_lt_of_le hx h.size) (by rw [h.col x hx]; exact hc)).trans (h.keep x hx hc), g.fresh⟩

theorem Stp.fr {c c' : Nat → Nat} {k : Nat} {w w' : World} (h : Stp c c' k w w') : Fr c' w' := h.fresh

theorem Stp.refl {c : Nat → Nat} {k : Nat} {w : World} (hf : Fr c w) : Stp c c k w w := ⟨rfl, rfl, rfl, Nat.le_refl _, fun _ _ => rfl, fun _ _ _ => rfl, hf⟩

theorem Stp.of_below {c : Nat → Nat} {k : Nat} {w w' : World} (hf : Fr c w) (hb : Below w.heap.size w w') : Stp c c k w w' :=
  ⟨hb.os, hb.tape, hb.output, hb.size, fun _ _ => rfl, fun b hl _ => hb.block b hl, fun b hl => hf b (Nat.le_trans hb.size hl)⟩

/-- Whatever lies below B is untouched, if nothing there has the colour. -/
theorem Stp.below {c c' : Nat → Nat} {k B : Nat} {w w' : World} (h : Stp c c' k w w') (hB : B ≤ w.heap.size) (h0 : ∀ b, b < B → c b = 0) (hk : k ≠ 0) : Below B w w' :=
  ⟨h.os, h.tape, h.output, h.size, fun b hb => h.keep b (by omega) (by rw [h0 b hb]; exact fun e => hk e.symm)⟩

/-- A store into a block of the colour. -/
theorem Stp.setCell {c c' : Nat → Nat} {k : Nat} {a w : World} (h : Stp c c' k a w) {p : Addr} (hp : c' p.block = k) (hl : p.block < a.heap.size) (u : Value) : Stp c c' k a (w.setCell p u) := by
  have hs : (w.setCell p u).heap.size = w.heap.size := by simp
  refine ⟨h.os, h.tape, h.output, by rw [hs]; exact h.size, h.col, fun b hb hc => ?_, fun b hb => h.fresh b (by rw [hs] at hb; exact hb)⟩
  rw [heap_setCell_other w p b u (fun e => hc (by subst e; rw [← h.col _ hl]; exact hp))]
  exact h.keep b hb hc

/-- A row of bytes, in blocks without colour. -/
def RowC (c : Nat → Nat) (w : World) (v : Value) (l : List UInt8) : Prop := ∃ a cp, v = .slice a l.length cp ∧ SlV w a l.length cp 1 (bvs l) ∧ ∀ x, a = some x → 0 < l.length → c x.block = 0

theorem add_block (x : Addr) (j : Nat) : (x.add j).block = x.block := by unfold Addr.add; split <;> rfl

theorem SlV.lt {w : World} {x : Addr} {cp : Nat} {l : List UInt8} (h : SlV w (some x) l.length cp 1 (bvs l)) (hl : 0 < l.length) : x.block < w.heap.size := by
  have := h.cell x rfl 0 (bv l[0]) (by simp [bvs, hl])
  have := World.block_lt_of_cell? _ _ this
  rwa [add_block] at this

theorem SlV.stp {c c' : Nat → Nat} {k n cp : Nat} {w w' : World} {a : Option Addr} {xs : List Value} (h : SlV w a n cp 1 xs) (hs : Stp c c' k w w') (hk : k ≠ 0) (hc : ∀ x, a = some x → 0 < n → c x.block = 0) : SlV w' a n cp 1 xs :=
  ⟨h.len, h.le, h.top, h.nil, fun x hx j u hj => by
    have h1 := h.cell x hx j u hj
    have hlt := World.block_lt_of_cell? _ _ h1
    have hn : 0 < n := by have := h.len; have := (List.getElem?_eq_some_iff.1 hj).1; omega
    rw [World.cell?_of_block (w := w) (w' := w') (hs.keep _ hlt (by rw [add_block, hc x hx hn]; exact fun e => hk e.symm))]
    exact h1⟩

theorem RowC.stp {c c' : Nat → Nat} {k : Nat} {w w' : World} {v : Value} {l : List UInt8} (h : RowC c w v l) (hs : Stp c c' k w w') (hk : k ≠ 0) : RowC c' w' v l := by
  obtain ⟨a, cp, rfl, hr, hc⟩ := h
  refine ⟨a, cp, rfl, hr.stp hs hk hc, fun x hx hl => ?_⟩
  subst hx
  rw [hs.col _ (hr.lt hl)]
  exact hc x rfl hl

theorem RowC.row {c : Nat → Nat} {w : World} {v : Value} {l : List UInt8} (h : RowC c w v l) : RowV w v l := by
  obtain ⟨a, cp, rfl, hr, _⟩ := h
  exact ⟨a, cp, rfl, hr⟩

/-- What is new has no colour. -/
theorem RowC.own {c : Nat → Nat} {w w' : World} {a : Option Addr} {cp : Nat} {l : List UInt8} (hf : Fr c w) (h : OwnB w' w.heap.size a cp l) : RowC c w' (.slice a l.length cp) l := by
  refine ⟨a, cp, rfl, h.sl, fun x hx hl => ?_⟩
  subst hx
  rcases h.2 with ⟨h2, h3⟩ | ⟨g, cap, cur, hv, hg, _⟩
  · cases h2
  · cases hv; exact hf _ hg

/-- The cells vs are rows of the bytes ls. -/
def RowsC (c : Nat → Nat) (w : World) (vs : List Value) (ls : List (List UInt8)) : Prop := vs.length = ls.length ∧ ∀ (i : Nat) v l, vs[i]? = some v → ls[i]? = some l → RowC c w v l

theorem RowsC.stp {c c' : Nat → Nat} {k : Nat} {w w' : World} {vs : List Value} {ls : List (List UInt8)} (h : RowsC c w vs ls) (hs : Stp c c' k w w') (hk : k ≠ 0) : RowsC c' w' vs ls :=
  ⟨h.1, fun i v l h1 h2 => (h.2 i v l h1 h2).stp hs hk⟩

theorem RowsC.nil (c : Nat → Nat) (w : World) : RowsC c w [] [] := ⟨rfl, fun i v l h => by simp at h⟩

theorem RowsC.snoc {c : Nat → Nat} {w : World} {v : Value} {l : List UInt8} {vs : List Value} {ls : List (List UInt8)} (hs : RowsC c w vs ls) (h : RowC c w v l) : RowsC c w (vs ++ [v]) (ls ++ [l]) := by
  refine ⟨by simp [hs.1], fun i u m h1 h2 => ?_⟩
  by_cases hi : i < vs.length
  · rw [List.getElem?_append_left hi] at h1
    rw [List.getElem?_append_left (by rw [← hs.1]; exact hi)] at h2
    exact hs.2 i u m h1 h2
  · rw [List.getElem?_append_right (by omega)] at h1
    rw [List.getElem?_append_right (by rw [← hs.1]; omega), ← hs.1] at h2
    obtain ⟨hz, rfl⟩ : i - vs.length = 0 ∧ v = u := by
      match hz : i - vs.length, h1 with
      | 0, h1 => simp at h1; exact ⟨rfl, h1⟩
      | n + 1, h1 => simp at h1
    rw [hz] at h2
    simp at h2
    subst h2
    exact h

theorem RowsC.drop {c : Nat → Nat} {w : World} {vs : List Value} {ls : List (List UInt8)} (h : RowsC c w vs ls) (n : Nat) : RowsC c w (vs.drop n) (ls.drop n) :=
  ⟨by simp [h.1], fun i v l h1 h2 => by rw [List.getElem?_drop] at h1 h2; exact h.2 _ v l h1 h2⟩

theorem RowsC.one {c : Nat → Nat} {w : World} {vs : List Value} {ls : List (List UInt8)} (h : RowsC c w vs ls) : ∀ u ∈ vs, u.oneCell' = true := by
  intro u hu
  obtain ⟨i, hi, rfl⟩ := List.mem_iff_getElem.1 hu
  obtain ⟨a, cp, e, _⟩ := h.2 i vs[i] (ls[i]'(by rw [← h.1]; exact hi)) (List.getElem?_eq_getElem hi) (List.getElem?_eq_getElem _)
  rw [e]; rfl

/-- The map from numbers to rows. -/
def MapR (c : Nat → Nat) (w : World) (b : Nat) (held : Int → Option (List UInt8)) : Prop :=
  ∃ es clock, w.heap[b]? = some (.map es clock) ∧ (∀ x ∈ es.toList, ∃ q, x.key = .int .i64 q) ∧ MapKept.Stamped es clock ∧
    (∀ q, held q = none → ∀ x ∈ es.toList, x.key ≠ .int .i64 q) ∧ ∀ q l, held q = some l → ∃ x ∈ es.toList, x.key = .int .i64 q ∧ RowC c w x.val l

theorem Try.underlying99 : Try.prog.underlying 99 = some (.map 3 28) := by kernel_rfl

theorem MapR.stp {c c' : Nat → Nat} {k b : Nat} {w w' : World} {held : Int → Option (List UInt8)} (h : MapR c w b held) (hs : Stp c c' k w w') (hk : k ≠ 0) (hb : w'.heap[b]? = w.heap[b]?) : MapR c' w' b held := by
  obtain ⟨es, clock, h1, h2, h3, h4, h5⟩ := h
  refine ⟨es, clock, hb.trans h1, h2, h3, h4, fun q l hq => ?_⟩
  obtain ⟨x, hx, hk', hr⟩ := h5 q l hq
  exact ⟨x, hx, hk', hr.stp hs hk⟩

theorem find_key {es : Array MapEntry} (hks : ∀ x ∈ es.toList, ∃ q, x.key = .int .i64 q) (q : Int) (w : World) :
    ((Instr.findKey 3 (.int .i64 q) es.toList).run Try.prog w = .ok none w ∧ ∀ x ∈ es.toList, x.key ≠ .int .i64 q) ∨ ∃ j e, (Instr.findKey 3 (.int .i64 q) es.toList).run Try.prog w = .ok (some (j, e.val)) w ∧ es.toList[j]? = some e ∧ e.key = .int .i64 q := by
  rcases MapKept.findNow_spec (d := .int .i64) (k := .int .i64 q) rfl es.toList 0 (fun x hx => by obtain ⟨y, hy⟩ := hks x hx; rw [hy]; rfl) with ⟨h1, h2⟩ | ⟨j, e, h1, h2, h3⟩
  · exact .inl ⟨MapKept.run_findKey Try.underlying3 h1, h2⟩
  · exact .inr ⟨j, e, by simpa using MapKept.run_findKey Try.underlying3 h1, h2, h3⟩

theorem key_ok (q : Int) (em : Bool) (w : World) : (Instr.checkKey em 10000 3 (.int .i64 q)).run Try.prog w = .ok () w := MapKept.run_checkKey (d := .int .i64) (k := .int .i64 q) Try.underlying3 rfl em 9999

theorem zero28 (w : World) : (zeroValue 28).run Try.prog w = .ok (.slice none 0 0) w := by
  obtain ⟨i, hi, hz0, _, _⟩ := info_parts Try.info28
  simp [zeroValue, typeInfo, hi, hz0, Result.andThen]

theorem stamped_keys {es : Array MapEntry} {clock : Nat} (h : MapKept.Stamped es clock) : es.toList.Pairwise (fun x y => x.key ≠ y.key) := ((MapKept.stamped_iff es clock).1 h).2.2

theorem key_one {l : List MapEntry} (h : l.Pairwise (fun x y => x.key ≠ y.key)) {x y : MapEntry} (hx : x ∈ l) (hy : y ∈ l) (e : x.key = y.key) : x = y := by
  obtain ⟨i, hi, rfl⟩ := List.mem_iff_getElem.1 hx
  obtain ⟨j, hj, rfl⟩ := List.mem_iff_getElem.1 hy
  have hp := List.pairwise_iff_getElem.1 h
  rcases Nat.lt_trichotomy i j with hlt | rfl | hlt
  · exact absurd e (hp i j hi hj hlt)
  · rfl
  · exact absurd e.symm (hp j i hj hi hlt)

/-- What is held, with one more; with one less. -/
def putH (held : Int → Option (List UInt8)) (q : Int) (l : List UInt8) : Int → Option (List UInt8) := fun x => if x = q then some l else held x
def delH (held : Int → Option (List UInt8)) (q : Int) : Int → Option (List UInt8) := fun x => if x = q then none else held x

theorem putH_same (held : Int → Option (List UInt8)) (q : Int) (l : List UInt8) : putH held q l q = some l := by simp [putH]
theorem putH_other (held : Int → Option (List UInt8)) {q x : Int} (h : x ≠ q) (l : List UInt8) : putH held q l x = held x := by simp [putH, h]
theorem delH_same (held : Int → Option (List UInt8)) (q : Int) : delH held q q = none := by simp [delH]
theorem delH_other (held : Int → Option (List UInt8)) {q x : Int} (h : x ≠ q) : delH held q x = held x := by simp [delH, h]

/-- 'v, ok := m[q]'. -/
theorem MapR.look {c : Nat → Nat} {w w' : World} {b : Nat} {held : Int → Option (List UInt8)} (h : MapR c w b held) (q : Int) (hw : w'.heap[b]? = w.heap[b]?) :
    (held q = none → (Instr.lookup 99 (.map (some b)) (.int .i64 q) true).run Try.prog w' = .ok (.tuple #[.slice none 0 0, .bool false]) w') ∧
    ∀ l, held q = some l → ∃ v, RowC c w v l ∧ ∀ w' : World, w'.heap[b]? = w.heap[b]? → (Instr.lookup 99 (.map (some b)) (.int .i64 q) true).run Try.prog w' = .ok (.tuple #[v, .bool true]) w' := by
  obtain ⟨es, clock, h1, h2, h3, h4, h5⟩ := h
  refine ⟨fun hq => ?_, fun l hq => ?_⟩
  · rcases find_key h2 q w' with ⟨e1, _⟩ | ⟨j, e, _, e2, e3⟩
    · simp [Instr.lookup, run_underlying Try.underlying99, MapKept.run_getObj_map (hw.trans h1), key_ok, e1, zero28 w', Result.andThen]
    · exact absurd e3 (h4 q hq e (List.mem_of_getElem? e2))
  · obtain ⟨x, hx, hk, hr⟩ := h5 q l hq
    refine ⟨x.val, hr, fun w' hw => ?_⟩
    rcases find_key h2 q w' with ⟨_, e1⟩ | ⟨j, e, e1, e2, e3⟩
    · exact absurd hk (e1 x hx)
    · have : e = x := key_one (stamped_keys h3) (List.mem_of_getElem? e2) hx (e3.trans hk.symm)
      subst this
      simp [Instr.lookup, run_underlying Try.underlying99, MapKept.run_getObj_map (hw.trans h1), key_ok, e1, Result.andThen]

theorem cell_setBlock {w : World} {b : Nat} {es : Array MapEntry} {clock : Nat} (hb : w.heap[b]? = some (.map es clock)) (o : Obj) {a : Addr} {v : Value} (h : w.cell? a = some v) : ({ w with heap := w.heap.setIfInBounds b o } : World).cell? a = some v := by
  have hne : a.block ≠ b := by
    intro e
    simp [World.cell?, e, hb] at h
  rw [World.cell?_of_block (w := w) ((MapKept.heap_set hb).2 _ hne)]
  exact h

/-- A step that turns the map's block alone. -/
theorem Stp.setBlock {c c' : Nat → Nat} {k b : Nat} {a w : World} (h : Stp c c' k a w) (hb : c' b = k) (hl : b < a.heap.size) (o : Obj) : Stp c c' k a { w with heap := w.heap.setIfInBounds b o } := by
  refine ⟨h.os, h.tape, h.output, by simpa using h.size, h.col, fun x hx hc => ?_, fun x hx => h.fresh x (by simpa using hx)⟩
  have hne : x ≠ b := fun e => hc (by subst e; rw [← h.col _ hl]; exact hb)
  simp only [Array.getElem?_setIfInBounds_ne (Ne.symm hne)]
  exact h.keep x hx hc

/-- 'm[q] = v' at a new key. -/
theorem MapR.put {c : Nat → Nat} {k : Nat} {w : World} {b : Nat} {held : Int → Option (List UInt8)} (h : MapR c w b held) (hf : Fr c w) (hk : k ≠ 0) (hcb : c b = k) {q : Int} (hq : held q = none) {v : Value} {l : List UInt8} (hv : RowC c w v l) :
    ∃ o, (Instr.mapUpdate 99 (.map (some b)) (.int .i64 q) v).run Try.prog w = .ok () { w with heap := w.heap.setIfInBounds b o } ∧ MapR c { w with heap := w.heap.setIfInBounds b o } b (putH held q l) := by
  obtain ⟨es, clock, h1, h2, h3, h4, h5⟩ := h
  have hlt : b < w.heap.size := (Array.getElem?_eq_some_iff.1 h1).1
  rcases find_key h2 q w with ⟨e1, e0⟩ | ⟨j, e, _, e2, e3⟩
  · refine ⟨.map (es.push ⟨.int .i64 q, v, clock⟩) (clock + 1), ?_, ?_⟩
    · simp [Instr.mapUpdate, run_underlying Try.underlying99, MapKept.run_getObj_map h1, key_ok, e1, MapKept.run_setObj_map _ h1, Result.andThen]
    · have hs : Stp c c k w { w with heap := w.heap.setIfInBounds b (.map (es.push ⟨.int .i64 q, v, clock⟩) (clock + 1)) } := (Stp.refl hf).setBlock hcb hlt _
      refine ⟨_, _, (MapKept.heap_set h1).1, ?_, ?_, ?_, ?_⟩
      · intro x hx
        simp only [Array.toList_push, List.mem_append, List.mem_singleton] at hx
        rcases hx with hx | rfl
        · exact h2 x hx
        · exact ⟨q, rfl⟩
      · exact MapKept.stamped_push h3 e0
      · intro q' hq' x hx
        simp only [Array.toList_push, List.mem_append, List.mem_singleton] at hx
        by_cases hqq : q' = q
        · subst hqq; rw [putH_same] at hq'; cases hq'
        · rw [putH_other _ hqq] at hq'
          rcases hx with hx | rfl
          · exact h4 q' hq' x hx
          · intro e; simp at e; exact hqq e.symm
      · intro q' l' hq'
        by_cases hqq : q' = q
        · subst hqq
          rw [putH_same] at hq'
          cases hq'
          exact ⟨⟨.int .i64 q', v, clock⟩, by simp, rfl, hv.stp hs hk⟩
        · rw [putH_other _ hqq] at hq'
          obtain ⟨x, hx, hkx, hr⟩ := h5 q' l' hq'
          exact ⟨x, by simp [Array.toList_push] at hx ⊢; exact .inl hx, hkx, hr.stp hs hk⟩
  · exact absurd e3 (h4 q hq e (List.mem_of_getElem? e2))

/-- 'delete(m, q)' at a key that is there. -/
theorem MapR.del {c : Nat → Nat} {k : Nat} {w : World} {b : Nat} {held : Int → Option (List UInt8)} (h : MapR c w b held) (hf : Fr c w) (hk : k ≠ 0) (hcb : c b = k) {q : Int} {l : List UInt8} (hq : held q = some l) (ty : TypeId) :
    ∃ o, (Builtin.delete_ #[99, 3] ty #[.map (some b), .int .i64 q]).run Try.prog w = .ok (.tuple #[]) { w with heap := w.heap.setIfInBounds b o } ∧ MapR c { w with heap := w.heap.setIfInBounds b o } b (delH held q) := by
  obtain ⟨es, clock, h1, h2, h3, h4, h5⟩ := h
  have hlt : b < w.heap.size := (Array.getElem?_eq_some_iff.1 h1).1
  obtain ⟨x0, hx0, hk0, hr0⟩ := h5 q l hq
  rcases find_key h2 q w with ⟨_, e1⟩ | ⟨j, e, e1, e2, e3⟩
  · exact absurd hk0 (e1 x0 hx0)
  · have hjl : j < es.toList.length := (List.getElem?_eq_some_iff.1 e2).1
    have hsub : (es.eraseIdxIfInBounds j).toList = es.toList.eraseIdx j := by
      unfold Array.eraseIdxIfInBounds
      rw [dif_pos (by simpa using hjl)]
      simp
    refine ⟨.map (es.eraseIdxIfInBounds j) clock, ?_, ?_⟩
    · simp [Builtin.delete_, run_underlying Try.underlying99, MapKept.run_getObj_map h1, key_ok, e1, MapKept.run_setObj_map _ h1, Result.andThen]
    · have hs : Stp c c k w { w with heap := w.heap.setIfInBounds b (.map (es.eraseIdxIfInBounds j) clock) } := (Stp.refl hf).setBlock hcb hlt _
      have hmem : ∀ x, x ∈ es.toList.eraseIdx j ↔ x ∈ es.toList ∧ x.key ≠ .int .i64 q := by
        intro x
        have hsplit : es.toList = es.toList.take j ++ e :: es.toList.drop (j + 1) := by
          have := List.getElem?_eq_some_iff.1 e2
          rw [← this.2, List.getElem_cons_drop, List.take_append_drop]
        rw [List.eraseIdx_eq_take_drop_succ]
        have hp := stamped_keys h3
        rw [hsplit] at hp
        rw [List.pairwise_append, List.pairwise_cons] at hp
        obtain ⟨_, ⟨p1, _⟩, p2⟩ := hp
        constructor
        · intro hx
          rcases List.mem_append.1 hx with hx | hx
          · refine ⟨List.mem_of_mem_take hx, ?_⟩
            have := p2 x hx e (by simp)
            rw [e3] at this
            exact this
          · refine ⟨List.mem_of_mem_drop hx, ?_⟩
            have := p1 x hx
            rw [e3] at this
            exact fun hh => this hh.symm
        · rintro ⟨hx, hne⟩
          rw [hsplit] at hx
          rcases List.mem_append.1 hx with hx | hx
          · exact List.mem_append.2 (.inl hx)
          · rcases List.mem_cons.1 hx with rfl | hx
            · exact absurd e3 hne
            · exact List.mem_append.2 (.inr hx)
      refine ⟨_, _, (MapKept.heap_set h1).1, ?_, ?_, ?_, ?_⟩
      · intro x hx
        rw [hsub, hmem] at hx
        exact h2 x hx.1
      · exact MapKept.stamped_erase h3 j
      · intro q' hq' x hx
        rw [hsub, hmem] at hx
        by_cases hqq : q' = q
        · subst hqq; exact hx.2
        · rw [delH_other _ hqq] at hq'
          exact h4 q' hq' x hx.1
      · intro q' l' hq'
        by_cases hqq : q' = q
        · subst hqq; rw [delH_same] at hq'; cases hq'
        · rw [delH_other _ hqq] at hq'
          obtain ⟨x, hx, hkx, hr⟩ := h5 q' l' hq'
          exact ⟨x, by rw [hsub, hmem]; exact ⟨hx, by rw [hkx]; intro e; simp at e; exact hqq e⟩, hkx, hr.stp hs hk⟩

end Go.Proofs.Ytcpemgfpiapaaaa

namespace Go.Proofs.Ytcpemgfpiapaaaa
open Go.RowKit

/-- The plain end. -/
structure EndM where
  window : Nat
  key : Nat
  waiting : List (List UInt8)
  acked : Nat
  delivered : Nat
  held : Int → Option (List UInt8)
  owing : Bool
  forged : Nat

/-- The cells of an end. -/
def endCells (M : EndM) (wo : Option Addr) (wc mb : Nat) : Array Value :=
  #[.int .i64 (M.window : Int), .int .u64 (M.key : Int), .slice wo M.waiting.length wc, .int .i64 (M.acked : Int), .int .i64 (M.delivered : Int), .map (some mb), .bool M.owing, .int .i64 (M.forged : Int)]

/-- The numbers of an end are small. -/
structure Wf (M : EndM) : Prop where
  win : 1 ≤ M.window ∧ M.window ≤ 16
  key : M.key < 18446744073709551616
  wait : M.waiting.length ≤ 1000
  rows : ∀ l ∈ M.waiting, l.length ≤ 65536
  ack : M.acked ≤ 1000000000
  del : M.delivered ≤ 1000000000
  forg : M.forged ≤ 1000000000
  hold : ∀ q l, M.held q = some l → (M.delivered : Int) < q ∧ q ≤ M.delivered + 16 ∧ l.length ≤ 65536

/-- An end in memory. -/
def EndV (c : Nat → Nat) (k : Nat) (w : World) (p : Nat) (M : EndM) : Prop :=
  ∃ wo wc mb vs, w.heap[p]? = some (.cells (endCells M wo wc mb) 101 (0, 0)) ∧ c p = k ∧ c mb = k ∧ MapR c w mb M.held ∧ w.ownsRow 0 28 1 (.slice wo M.waiting.length wc) M.waiting.length vs ∧ RowsC c w vs M.waiting ∧ ∀ a, wo = some a → c a.block = k ∧ a.block ≠ p

theorem EndV.stp {c c' : Nat → Nat} {k j p : Nat} {w w' : World} {M : EndM} (h : EndV c j w p M) (hs : Stp c c' k w w') (hj : j ≠ k) (hk : k ≠ 0) : EndV c' j w' p M := by
  obtain ⟨wo, wc, mb, vs, h1, h2, h3, h4, h5, h6, h7⟩ := h
  have hp := (Array.getElem?_eq_some_iff.1 h1).1
  have hmb : mb < w.heap.size := by
    obtain ⟨es, clock, hb, _⟩ := h4
    exact (Array.getElem?_eq_some_iff.1 hb).1
  refine ⟨wo, wc, mb, vs, (hs.keep p hp (by rw [h2]; exact hj)).trans h1, (hs.col p hp).trans h2, (hs.col mb hmb).trans h3, h4.stp hs hk (hs.keep mb hmb (by rw [h3]; exact hj)), ?_, h6.stp hs hk, fun a ha => ?_⟩
  · refine ⟨h5.1, ?_⟩
    rcases h5.2 with h | ⟨g, cap, cur, hv, hg, hh, r⟩
    · exact .inl h
    · refine .inr ⟨g, cap, cur, hv, hg, ?_, r⟩
      have hgl := (Array.getElem?_eq_some_iff.1 hh).1
      have : wo = some ⟨g, 0, none⟩ := by injection hv
      have := (h7 _ this).1
      rw [hs.keep g hgl (by rw [this]; exact hj)]
      exact hh
  · have hgl : a.block < w.heap.size := by
      subst ha
      have := (h5.lt a.block rfl).2
      exact this
    exact ⟨(hs.col _ hgl).trans (h7 a ha).1, (h7 a ha).2⟩

theorem EndV.below {c : Nat → Nat} {j p : Nat} {w w' : World} {M : EndM} (h : EndV c j w p M) (hf : Fr c w) (hb : Below w.heap.size w w') : EndV c j w' p M :=
  h.stp (k := j + 1) (Stp.of_below hf hb) (by omega) (by omega)

theorem EndV.lt {c : Nat → Nat} {j p : Nat} {w : World} {M : EndM} (h : EndV c j w p M) : p < w.heap.size := by
  obtain ⟨wo, wc, mb, vs, h1, _⟩ := h
  exact (Array.getElem?_eq_some_iff.1 h1).1

/-- The cells of a block of cells. -/
theorem cells_of {w : World} {p : Nat} {cs : Array Value} {t : TypeId} (h : w.heap[p]? = some (.cells cs t (0, 0))) (i : Nat) : w.cell? ⟨p, i, none⟩ = cs[i]? ∧ w.frozen? ⟨p, i, none⟩ = false :=
  ⟨cell_of_row w p i cs t (0, 0) h, frozen_of_row w p i cs t h⟩

/-- The eight cells of an end. -/
theorem end_cells {w : World} {p : Nat} {x0 x1 x2 x3 x4 x5 x6 x7 : Value} (h : w.heap[p]? = some (.cells #[x0, x1, x2, x3, x4, x5, x6, x7] 101 (0, 0))) :
    w.cell? ⟨p, 0, none⟩ = some x0 ∧ w.cell? ⟨p, 1, none⟩ = some x1 ∧ w.cell? ⟨p, 2, none⟩ = some x2 ∧ w.cell? ⟨p, 3, none⟩ = some x3 ∧ w.cell? ⟨p, 4, none⟩ = some x4 ∧ w.cell? ⟨p, 5, none⟩ = some x5 ∧ w.cell? ⟨p, 6, none⟩ = some x6 ∧ w.cell? ⟨p, 7, none⟩ = some x7 ∧
    w.frozen? ⟨p, 2, none⟩ = false ∧ w.frozen? ⟨p, 3, none⟩ = false ∧ w.frozen? ⟨p, 4, none⟩ = false ∧ w.frozen? ⟨p, 6, none⟩ = false ∧ w.frozen? ⟨p, 7, none⟩ = false :=
  ⟨(cells_of h 0).1, (cells_of h 1).1, (cells_of h 2).1, (cells_of h 3).1, (cells_of h 4).1, (cells_of h 5).1, (cells_of h 6).1, (cells_of h 7).1, (cells_of h 2).2, (cells_of h 3).2, (cells_of h 4).2, (cells_of h 6).2, (cells_of h 7).2⟩

/-- Waiting. -/
theorem waiting_any (c : Nat → Nat) (k p : Nat) (M : EndM) (w : World) (h : EndV c k w p M) : Calls Try.prog 56 #[.pointer (some ⟨p, 0, none⟩)] w (fun e w' => e = .returned (.int .i64 (M.waiting.length : Int)) ∧ w' = w) := by
  obtain ⟨wo, wc, mb, vs, h1, h2, h3, h4, h5, h6, h7⟩ := h
  obtain ⟨x0, x1, x2, x3, x4, x5, x6, x7, f2, f3, f4, f6, f7⟩ := end_cells h1
  go_enter Try.func56, Try.ntmps56
  go_wp2
  go_ret
  exact ⟨rfl, rfl⟩

/-- Forged. -/
theorem forged_any (c : Nat → Nat) (k p : Nat) (M : EndM) (w : World) (h : EndV c k w p M) : Calls Try.prog 52 #[.pointer (some ⟨p, 0, none⟩)] w (fun e w' => e = .returned (.int .i64 (M.forged : Int)) ∧ w' = w) := by
  obtain ⟨wo, wc, mb, vs, h1, h2, h3, h4, h5, h6, h7⟩ := h
  obtain ⟨x0, x1, x2, x3, x4, x5, x6, x7, f2, f3, f4, f6, f7⟩ := end_cells h1
  go_enter Try.func52, Try.ntmps52
  go_wp2
  go_ret
  exact ⟨rfl, rfl⟩

/-- A new end. -/
def newM (win key : Nat) : EndM := ⟨win, key, [], 0, 0, fun _ => none, false, 0⟩

theorem newM_wf {win key : Nat} (h1 : 1 ≤ win) (h2 : win ≤ 16) (h3 : key < 18446744073709551616) : Wf (newM win key) :=
  ⟨⟨h1, h2⟩, h3, by simp [newM], by simp [newM], by simp [newM], by simp [newM], by simp [newM], fun q l h => by simp [newM] at h⟩

/-- Colours of two new blocks. -/
def col2 (c : Nat → Nat) (n k : Nat) : Nat → Nat := fun b => if b = n ∨ b = n + 1 then k else c b

theorem new_world {c : Nat → Nat} (k : Nat) {w : World} (hf : Fr c w) (win key : Nat) :
    ∃ c', Stp c c' k w ((w.alloc (.map #[] 0)).alloc (.cells (endCells (newM win key) none 0 w.heap.size) 101)) ∧ EndV c' k ((w.alloc (.map #[] 0)).alloc (.cells (endCells (newM win key) none 0 w.heap.size) 101)) (w.heap.size + 1) (newM win key) := by
  have hb : Below w.heap.size w ((w.alloc (.map #[] 0)).alloc (.cells (endCells (newM win key) none 0 w.heap.size) 101)) := ((Below.refl _ _).alloc (Nat.le_refl _) _).alloc (by simp) _
  have hs : ((w.alloc (.map #[] 0)).alloc (.cells (endCells (newM win key) none 0 w.heap.size) 101)).heap.size = w.heap.size + 2 := by simp
  have hbm : ((w.alloc (.map #[] 0)).alloc (.cells (endCells (newM win key) none 0 w.heap.size) 101)).heap[w.heap.size]? = some (.map #[] 0) := by
    exact (Below.heap_alloc _ _ w.heap.size (by simp)).trans (heap_alloc_new w _)
  have hbp : ((w.alloc (.map #[] 0)).alloc (.cells (endCells (newM win key) none 0 w.heap.size) 101)).heap[w.heap.size + 1]? = some (.cells (endCells (newM win key) none 0 w.heap.size) 101 (0, 0)) := by
    have := heap_alloc_new (w.alloc (.map #[] 0)) (.cells (endCells (newM win key) none 0 w.heap.size) 101)
    simpa using this
  refine ⟨col2 c w.heap.size k, ⟨hb.os, hb.tape, hb.output, hb.size, fun b hl => ?_, fun b hl _ => hb.block b hl, fun b hl => ?_⟩, none, 0, w.heap.size, [], hbp, by simp [col2], by simp [col2], ?_, World.ownsRow_nil _ _ _ _, RowsC.nil _ _, fun a ha => by cases ha⟩
  · unfold col2; rw [if_neg (by omega)]
  · rw [hs] at hl
    unfold col2; rw [if_neg (by omega)]; exact hf b (by omega)
  · exact ⟨_, _, hbm, by simp, by simp [MapKept.Stamped], fun q _ x hx => by simp at hx, fun q l h => by simp [newM] at h⟩

/-- What New gives. -/
theorem new_any (c : Nat → Nat) (k win key : Nat) (w : World) (hf : Fr c w) (h1 : 1 ≤ win) (h2 : win ≤ 16) :
    Calls Try.prog 47 #[.int .i64 (win : Int), .int .u64 (key : Int)] w (fun e w' => ∃ c' p, e = .returned (.tuple #[.pointer (some ⟨p, 0, none⟩), .int .i64 0]) ∧ Stp c c' k w w' ∧ EndV c' k w' p (newM win key) ∧ w.heap.size ≤ p) := by
  obtain ⟨c', hs, hv⟩ := new_world k hf win key
  have hmm := @run_makeMap Try.prog
  go_enter Try.func47, Try.ntmps47
  go_wp2
  go_ret2
  exact ⟨c', w.heap.size + 1, rfl, hs, hv, by omega⟩

/-- New refuses a window. -/
theorem new_bad (win : Int) (key : Nat) (w : World) (hbad : win < 1 ∨ 16 < win) :
    Calls Try.prog 47 #[.int .i64 win, .int .u64 (key : Int)] w (fun e w' => e = .returned (.tuple #[.pointer none, .int .i64 1]) ∧ w' = w) := by
  rcases hbad with h | h
  · go_enter Try.func47, Try.ntmps47
    go_wp2
    go_ret2
    exact ⟨rfl, rfl⟩
  · by_cases h1 : win < 1
    · omega
    · go_enter Try.func47, Try.ntmps47
      go_wp2
      go_ret2
      exact ⟨rfl, rfl⟩

end Go.Proofs.Ytcpemgfpiapaaaa
