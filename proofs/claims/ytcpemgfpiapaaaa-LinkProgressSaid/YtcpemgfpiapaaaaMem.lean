/- What slices in memory read as, and the law of append on them, for this program; nothing of the single functions. -/
import Derived.Test.YtcpemgfpiapaaaaProg
import Derived.WalkKit
import Derived.WalkSpells
import Derived.WalkLawsBesides
import Derived.WalkMore
import Derived.Lib.Hide
import Derived.Lib.AppendStr
import Derived.Laws.AppendOwnNone
import Derived.Deep.LoopGhost
import Derived.Deep.DeepCutAuto
import Derived.Deep.QuietTactic
import Derived.BigQuiet
import Derived.Deep.DeepFit
import Derived.Deep.CutBlock
import Derived.Deep.RegionWith
import Derived.RegionTactic
import Derived.ChangeAlike
namespace Go.Proofs.Ytcpemgfpiapaaaa
open Go.RowKit

theorem Try.info3 : (Try.prog.info? 3).map (fun i => (i.zero, i.size, i.bytes)) = some (some (.int .i64 0), 1, 8) := by kernel_rfl
theorem Try.info5 : (Try.prog.info? 5).map (fun i => (i.zero, i.size, i.bytes)) = some (some (.int .u8 0), 1, 1) := by kernel_rfl
theorem Try.info9 : (Try.prog.info? 9).map (fun i => (i.zero, i.size, i.bytes)) = some (some (.string ByteArray.empty), 1, 16) := by kernel_rfl
theorem Try.info28 : (Try.prog.info? 28).map (fun i => (i.zero, i.size, i.bytes)) = some (some (.slice none 0 0), 1, 24) := by kernel_rfl

/-- A byte's cell. -/
def bv (c : UInt8) : Value := .int .u8 (c.toNat : Int)
/-- An integer's cell. -/
def iv (n : Int) : Value := .int .i64 n
/-- Bytes as cells. -/
def bvs (l : List UInt8) : List Value := l.map bv

@[simp] theorem bvs_length (l : List UInt8) : (bvs l).length = l.length := by simp [bvs]
theorem bvs_append (a b : List UInt8) : bvs (a ++ b) = bvs a ++ bvs b := by simp [bvs]
theorem bvs_one (l : List UInt8) : ∀ u ∈ bvs l, u.oneCell' = true := by
  intro u hu
  obtain ⟨_, _, rfl⟩ := List.mem_map.1 hu
  rfl

/-- The slice value (ao, n, cap), of elements of 'size' cells, reads as the cells xs. -/
structure SlV (w : World) (ao : Option Addr) (n cap size : Nat) (xs : List Value) : Prop where
  len : xs.length = n * size
  le : n ≤ cap
  top : cap ≤ maxLen
  nil : ao = none → cap = 0
  cell : ∀ a, ao = some a → ∀ j u, xs[j]? = some u → w.cell? (a.add j) = some u

theorem SlV.below {w w' : World} {ao : Option Addr} {n cap size B : Nat} {xs : List Value} (h : SlV w ao n cap size xs) (hb : Below B w w') (hB : w.heap.size ≤ B) : SlV w' ao n cap size xs :=
  ⟨h.len, h.le, h.top, h.nil, fun a ha j u hj => by
    have hc := h.cell a ha j u hj
    exact (hb.cell (Nat.lt_of_lt_of_le (World.block_lt_of_cell? w _ hc) hB)).trans hc⟩

theorem SlV.drew {w : World} {ao : Option Addr} {n cap size : Nat} {xs : List Value} (h : SlV w ao n cap size xs) : SlV w.drew ao n cap size xs := ⟨h.len, h.le, h.top, h.nil, h.cell⟩
theorem SlV.drewN {w : World} {ao : Option Addr} {n cap size : Nat} {xs : List Value} (h : SlV w ao n cap size xs) (d : Nat) : SlV (w.drewN d) ao n cap size xs := ⟨h.len, h.le, h.top, h.nil, h.cell⟩

theorem SlV.has {w : World} {ao : Option Addr} {n cap size : Nat} {xs : List Value} (h : SlV w ao n cap size xs) (hn : 0 < n) : ∃ a, ao = some a := by
  cases ao with
  | none => have := h.nil rfl; have := h.le; omega
  | some a => exact ⟨a, rfl⟩

/-- A slice of the call's own bytes. -/
def OwnB (w : World) (B : Nat) (ao : Option Addr) (cap : Nat) (l : List UInt8) : Prop := w.ownsRow B 5 1 (.slice ao l.length cap) l.length (bvs l)

theorem ownsRow_below {w w' : World} {B B' : Nat} {e : TypeId} {size n : Nat} {v : Value} {xs : List Value} (h : w.ownsRow B e size v n xs) (hb : Below B' w w') (hB : w.heap.size ≤ B') : w'.ownsRow B e size v n xs := by
  refine ⟨h.1, ?_⟩
  rcases h.2 with h2 | ⟨g, cap, cur, hv, hg, hh, r⟩
  · exact Or.inl h2
  · exact Or.inr ⟨g, cap, cur, hv, hg, by rw [hb.block g (by have := lt_of_block hh; omega)]; exact hh, r⟩

theorem ownsRow_base {w : World} {B B' : Nat} {e : TypeId} {size n : Nat} {v : Value} {xs : List Value} (h : w.ownsRow B e size v n xs) (hB : B' ≤ B) : w.ownsRow B' e size v n xs := by
  refine ⟨h.1, ?_⟩
  rcases h.2 with h2 | ⟨g, cap, cur, hv, hg, r⟩
  · exact Or.inl h2
  · exact Or.inr ⟨g, cap, cur, hv, by omega, r⟩

/-- Whatever is owned is read as what it is. -/
theorem ownsRow_sl {w : World} {B : Nat} {e : TypeId} {size n : Nat} {ao : Option Addr} {n' cap : Nat} {xs : List Value} (h : w.ownsRow B e size (.slice ao n' cap) n xs) : SlV w ao n cap size xs := by
  rcases h.2 with ⟨h2, h3⟩ | ⟨g, cap', cur, hv, hg, hh, hc1, hc2, hc3, hc4⟩
  · cases h2
    subst h3
    exact ⟨h.1, Nat.le_refl _, by simp, fun _ => rfl, fun a ha => by cases ha⟩
  · cases hv
    refine ⟨h.1, hc1, hc2, fun h => by (cases h), fun a ha j u hj => ?_⟩
    cases ha
    exact World.ownsRow.cells (g := g) h rfl j u hj

theorem OwnB.sl {w : World} {B : Nat} {ao : Option Addr} {cap : Nat} {l : List UInt8} (h : OwnB w B ao cap l) : SlV w ao l.length cap 1 (bvs l) := ownsRow_sl h

/-- Every value that owns a row is a slice of that length. -/
theorem ownsRow_shape {w : World} {B : Nat} {e : TypeId} {size n : Nat} {v : Value} {xs : List Value} (h : w.ownsRow B e size v n xs) : ∃ ao cap, v = .slice ao n cap := by
  rcases h.2 with ⟨h2, h3⟩ | ⟨g, cap', cur, hv, _⟩
  · exact ⟨none, 0, by rw [h2, h3]⟩
  · exact ⟨_, _, hv⟩

/-- The world behind an append to a row of the call's own. -/
theorem grown_below {w w' : World} {B : Nat} {e : TypeId} {size n : Nat} {v : Value} {xs : List Value} (h : w.ownsRow B e size v n xs) (hg : w.grownBy w' v.ownBlock) (hB : B ≤ w.heap.size) : Below B w w' :=
  (Below.refl B w).grown hg hB (fun k hk => (h.lt k hk).1)

theorem Below.fromAlloc {B : Nat} {w w' : World} {o : Obj} (h : Below B (w.alloc o) w') (hB : B ≤ w.heap.size) : Below B w w' := ((Below.refl B w).alloc hB o).trans h

/-- APPEND to a row of bytes of the call's own, whatever is appended. -/
theorem ap_any {w : World} {ops : Array Oper} {rest : List Oper} {o : Oper} {a : Act} {Q : Exit → Act → World → Prop} (hgd : o.guard = none) (s x : Operand) (t : TypeId)
    (ho : o.op = .call { callee := .builtin .append, args := #[s, x], argTypes := #[t, t] })
    (B : Nat) (e : TypeId) (z : Value) (size bytes : Nat) (ht : Try.prog.underlying t = some (.slice e)) (hinfo : (Try.prog.info? e).map (fun i => (i.zero, i.size, i.bytes)) = some (some z, size, bytes)) (hzs : z.cells.size = size) (hsz : 0 < size)
    (v : Value) (n : Nat) (xs : List Value) (hs : a.eval s = v) (hown : w.ownsRow B e size v n xs)
    (ao : Option Addr) (m c : Nat) (news : List Value) (hx : a.eval x = .slice ao m c) (hr : SlV w ao m c size news) (h1 : ∀ u ∈ news, u.oneCell' = true)
    (hbytes : (n + m) * bytes ≤ 140737488355328) (hmax : n + m ≤ maxLen) (hB : B ≤ w.heap.size)
    (h : ∀ ao' cap' w', w'.ownsRow B e size (.slice ao' (n + m) cap') (n + m) (xs ++ news) → Below B w w' → wpList Try.prog ops Q rest (a.put o.dst (.slice ao' (n + m) cap')) w') : wpList Try.prog ops Q (o :: rest) a w := by
  obtain ⟨i, hi, hz0, hz1, hz2⟩ := info_parts hinfo
  cases ao with
  | none =>
    have hc : c = 0 := hr.nil rfl
    subst hc
    have hm : m = 0 := by have := hr.le; omega
    subst hm
    have hn : news = [] := List.eq_nil_of_length_eq_zero (by simpa using hr.len)
    subst hn
    obtain ⟨ao', cap', hv⟩ := ownsRow_shape hown
    subst hv
    refine wpList_append_own_none hgd s x t ho B e i size ht hi _ n xs hs hown hx ?_
    have := h ao' cap' w (by simpa using hown) (Below.refl _ _)
    simpa using this
  | some ad =>
    refine wpList_append_own w hgd s x t ho B e i z size bytes ht hi hz0 hz1 hz2 hzs hsz v n xs hs hown ad m c news hx hr.len (hr.cell ad rfl) h1 hmax hbytes hB ?_
    intro v' w' ho' hg _
    obtain ⟨ao', cap', hv⟩ := ownsRow_shape ho'
    subst hv
    exact h ao' cap' w' ho' (grown_below hown hg hB)

/-- APPEND of bytes to bytes. -/
theorem ap_bytes {w : World} {ops : Array Oper} {rest : List Oper} {o : Oper} {a : Act} {Q : Exit → Act → World → Prop} (hgd : o.guard = none) (s x : Operand)
    (ho : o.op = .call { callee := .builtin .append, args := #[s, x], argTypes := #[28, 28] })
    (B : Nat) (ao : Option Addr) (cap : Nat) (l m : List UInt8) (N : Nat) (hN : N = l.length) (hs : a.eval s = .slice ao N cap) (hown : OwnB w B ao cap l)
    (ax : Option Addr) (M c : Nat) (hM : M = m.length) (hx : a.eval x = .slice ax M c) (hr : SlV w ax m.length c 1 (bvs m))
    (hbytes : l.length + m.length ≤ 140737488355328) (hB : B ≤ w.heap.size)
    (h : ∀ ao' cap' w', OwnB w' B ao' cap' (l ++ m) → Below B w w' → wpList Try.prog ops Q rest (a.put o.dst (.slice ao' (l.length + m.length) cap')) w') : wpList Try.prog ops Q (o :: rest) a w := by
  subst hN hM
  refine ap_any hgd s x 28 ho B 5 (.int .u8 0) 1 1 Try.underlying28 Try.info5 rfl (by decide) _ l.length (bvs l) hs hown ax m.length c (bvs m) hx hr (bvs_one m) (by omega) (by unfold maxLen; omega) hB ?_
  intro ao' cap' w' ho' hg
  refine h ao' cap' w' ?_ hg
  unfold OwnB
  rw [bvs_append, List.length_append]
  exact ho'

/-- One new cell, read as a slice of one byte. -/
theorem sl_new (w : World) (u : Value) (t : TypeId) : SlV (w.alloc (.cells #[u] t)) (some ⟨w.heap.size, 0, none⟩) 1 1 1 [u] :=
  ⟨rfl, Nat.le_refl _, by unfold maxLen; omega, fun h => by (cases h), fun a ha j x hj => by
    cases ha
    match j, hj with
    | 0, hj =>
      simp at hj
      subst hj
      simp [Addr.add, World.cell?_alloc_at]⟩

theorem own_new (w : World) (c : UInt8) (B : Nat) (hB : B ≤ w.heap.size) : OwnB (w.alloc (.cells #[bv c] 5)) B (some ⟨w.heap.size, 0, none⟩) 1 [c] :=
  ⟨rfl, .inr ⟨w.heap.size, 1, #[bv c], rfl, hB, heap_alloc_new w _, Nat.le_refl _, by unfold maxLen; omega, rfl, rfl⟩⟩

theorem OwnB.alloc {w : World} {B : Nat} {ao : Option Addr} {cap : Nat} {l : List UInt8} (h : OwnB w B ao cap l) (o : Obj) : OwnB (w.alloc o) B ao cap l := World.ownsRow.alloc h o

theorem OwnB.nil (w : World) (B : Nat) : OwnB w B none 0 [] := World.ownsRow_nil w B 5 1

theorem OwnB.base {w : World} {B B' : Nat} {ao : Option Addr} {cap : Nat} {l : List UInt8} (h : OwnB w B ao cap l) (hB : B' ≤ B) : OwnB w B' ao cap l := ownsRow_base h hB

theorem OwnB.below {w w' : World} {B B' : Nat} {ao : Option Addr} {cap : Nat} {l : List UInt8} (h : OwnB w B ao cap l) (hb : Below B' w w') (hB : w.heap.size ≤ B') : OwnB w' B ao cap l := ownsRow_below h hb hB

/-- APPEND of one byte that the statement has just laid in a block of its own. -/
theorem ap_byte {w : World} {ops : Array Oper} {rest : List Oper} {o : Oper} {a : Act} {Q : Exit → Act → World → Prop} (hgd : o.guard = none) (s x : Operand)
    (ho : o.op = .call { callee := .builtin .append, args := #[s, x], argTypes := #[28, 28] })
    (B : Nat) (ao : Option Addr) (cap : Nat) (l : List UInt8) (c : UInt8) (N : Nat) (hN : N = l.length) (hs : a.eval s = .slice ao N cap) (hown : OwnB w B ao cap l)
    (hx : a.eval x = .slice (some ⟨w.heap.size, 0, none⟩) 1 1)
    (hbytes : l.length + 1 ≤ 140737488355328) (hB : B ≤ w.heap.size)
    (h : ∀ ao' cap' w', OwnB w' B ao' cap' (l ++ [c]) → Below B w w' → wpList Try.prog ops Q rest (a.put o.dst (.slice ao' (N + 1) cap')) w') : wpList Try.prog ops Q (o :: rest) a (w.alloc (.cells #[bv c] 5)) := by
  subst hN
  refine ap_bytes hgd s x ho B ao cap l [c] _ rfl hs (hown.alloc _) _ 1 1 rfl hx (sl_new w (bv c) 5) (by simpa using hbytes) (by simp; omega) ?_
  intro ao' cap' w' ho' hb
  exact h ao' cap' w' ho' (((Below.refl B w).alloc hB _).trans hb)

/-- APPEND of a string's bytes. -/
theorem ap_str {w : World} {ops : Array Oper} {rest : List Oper} {o : Oper} {a : Act} {Q : Exit → Act → World → Prop} (hgd : o.guard = none) (s x : Operand)
    (ho : o.op = .call { callee := .builtin .append, args := #[s, x], argTypes := #[28, 9] })
    (B : Nat) (ao : Option Addr) (cap : Nat) (l : List UInt8) (N : Nat) (hN : N = l.length) (hs : a.eval s = .slice ao N cap) (hown : OwnB w B ao cap l) (st : ByteArray) (hx : a.eval x = .string st)
    (hbytes : l.length + st.size ≤ 140737488355328) (hB : B ≤ w.heap.size)
    (h : ∀ ao' cap' w', OwnB w' B ao' cap' (l ++ st.data.toList) → Below B w w' → wpList Try.prog ops Q rest (a.put o.dst (.slice ao' (N + st.size) cap')) w') : wpList Try.prog ops Q (o :: rest) a w := by
  subst hN
  obtain ⟨i, hi, hz0, hz1, hz2⟩ := info_parts Try.info5
  refine Lib.wpList_append_own_string w hgd s x 28 9 ho B 5 i Try.underlying28 Try.underlying9 hi hz0 hz1 hz2 _ l.length (bvs l) hs hown st hx (by unfold maxLen; omega) hbytes hB ?_
  intro v' w' ho' hg _
  obtain ⟨ao', cap', hv⟩ := ownsRow_shape ho'
  subst hv
  refine h ao' cap' w' ?_ (grown_below hown hg hB)
  unfold OwnB
  rw [bvs_append, List.length_append]
  exact ho'

/-- An operation that comes to a value. -/
theorem wpList_val {P : Program} {w w' : World} {ops : Array Oper} {rest : List Oper} {o : Oper} {a : Act} {Q : Exit → Act → World → Prop} (hgd : o.guard = none) (v : Value)
    (hrun : (execOp a.eval o).run P w = .ok (.value v) w') (h : wpList P ops Q rest (a.put o.dst v) w') : wpList P ops Q (o :: rest) a w :=
  wpList_plain hgd fun K hK => by
    unfold Oper.wp
    rw [hrun]
    exact hK _ _ h

/-- A string's bytes in a new block. -/
theorem cv_bytes {w : World} {ops : Array Oper} {rest : List Oper} {o : Oper} {a : Act} {Q : Exit → Act → World → Prop} (hgd : o.guard = none) (x : Operand) (ho : o.op = .convert 9 28 x) (st : ByteArray) (hx : a.eval x = .string st) (hst : st.size ≤ 140737488355328)
    (h : ∀ ao cap w', SlV w' ao st.size cap 1 (bvs st.data.toList) → Below w.heap.size w w' → wpList Try.prog ops Q rest (a.put o.dst (.slice ao st.size cap)) w') : wpList Try.prog ops Q (o :: rest) a w := by
  have hrun := run_bytes_of_string (P := Try.prog) w 9 28 5 st Try.underlying9 Try.underlying28 Try.underlying5
  have hm : st.size ≤ maxLen := by unfold maxLen; omega
  refine wpList_val hgd (.slice (some ⟨w.heap.size, 0, none⟩) st.size (grownCap w st.size 0 5)) (w' := w.drew.alloc (.cells (bytesRow st (grownCap w st.size 0 5)) 5 ((bytesRow st (grownCap w st.size 0 5)).size, (bytesRow st (grownCap w st.size 0 5)).size + 1))) (by unfold execOp; simp only [ho, hx, Sem.run_bind, hrun, Result.andThen_ok, Sem.run_pure]) (h _ _ _ ?_ ?_)
  · refine ⟨by rw [bvs_length, Nat.mul_one]; rfl, grownCap_ge _ _ _ _, grownCap_le_maxLen _ _ _ _ hm, fun e => by (cases e), fun a ha j u hj => ?_⟩
    cases ha
    have hj' : j < st.data.size := by
      have := (List.getElem?_eq_some_iff.1 hj).1
      simpa using this
    have hb : (w.drew.alloc (.cells (bytesRow st (grownCap w st.size 0 5)) 5 ((bytesRow st (grownCap w st.size 0 5)).size, (bytesRow st (grownCap w st.size 0 5)).size + 1))).heap[w.heap.size]? = some (.cells (bytesRow st (grownCap w st.size 0 5)) 5 ((bytesRow st (grownCap w st.size 0 5)).size, (bytesRow st (grownCap w st.size 0 5)).size + 1)) := heap_alloc_new w.drew _
    rw [Addr.add_lit, Nat.zero_add, cell_of_row _ _ _ _ _ _ hb, bytesRow, Array.getElem?_append_left (by simpa using hj'), ← hj]
    simp [bvs]
    rfl
  · exact (Below.refl _ _).drew.alloc (Nat.le_refl _) _

theorem foldl_push (l : List UInt8) (s : ByteArray) : (l.map (fun c => (c.toNat : Int))).foldl (fun r n => r.push (UInt8.ofNat n.toNat)) s = ⟨s.data ++ l.toArray⟩ := by
  induction l generalizing s with
  | nil => simp
  | cons c l ih =>
    simp only [List.map_cons, List.foldl_cons, ih]
    congr 1
    apply Array.toList_inj.1
    simp [ByteArray.push]

/-- Bytes as a string. -/
theorem cv_string {w : World} {ops : Array Oper} {rest : List Oper} {o : Oper} {a : Act} {Q : Exit → Act → World → Prop} (hgd : o.guard = none) (x : Operand) (ho : o.op = .convert 28 9 x) (ao : Option Addr) (n cap : Nat) (l : List UInt8) (hx : a.eval x = .slice ao n cap) (hr : SlV w ao n cap 1 (bvs l))
    (h : wpList Try.prog ops Q rest (a.put o.dst (.string ⟨l.toArray⟩)) w) : wpList Try.prog ops Q (o :: rest) a w := by
  have hrun : (convert 28 9 (.slice ao n cap)).run Try.prog w = .ok (.string ⟨l.toArray⟩) w := by
    rw [run_convert_bytes_string (P := Try.prog) w 28 9 5 ao n cap Try.underlying28 Try.underlying5 Try.underlying9]
    cases ao with
    | none =>
      have : l = [] := by
        have h1 := hr.len
        have h2 := hr.nil rfl
        have h3 := hr.le
        apply List.eq_nil_of_length_eq_zero
        simp at h1
        omega
      subst this
      simp [Conv.bytesToString]
      rfl
    | some ad =>
      have hl := run_loadCells_list (P := Try.prog) w ad (bvs l) (hr.cell ad rfl)
      rw [hr.len, Nat.mul_one] at hl
      have he : bvs l = (l.map (fun c => (c.toNat : Int))).map (Value.int .u8) := by simp [bvs, bv, Function.comp_def]
      rw [he] at hl
      rw [run_bytesToString w ad n cap _ hl, foldl_push]
      simp [ByteArray.empty, ByteArray.emptyWithCapacity]
      rfl
  exact wpList_val hgd _ (by unfold execOp; simp only [ho, hx, Sem.run_bind, hrun, Result.andThen_ok, Sem.run_pure]) h

/-- A part of a slice. -/
theorem slv_part {w : World} {ao : Option Addr} {n c size : Nat} {xs : List Value} (hr : SlV w ao n c size xs) (L H M : Nat) (hLH : L ≤ H) (hH : H ≤ n) (hHM : H ≤ M) (hM : M ≤ c) :
    ∃ ao', (if M = L then ao else ao.map (·.add (L * size))) = ao' ∧ SlV w ao' (H - L) (M - L) size ((xs.drop (L * size)).take ((H - L) * size)) := by
  refine ⟨_, rfl, ?_, by omega, by have := hr.top; omega, ?_, ?_⟩
  · rw [List.length_take, List.length_drop, hr.len, Nat.sub_mul]
    have : H * size ≤ n * size := Nat.mul_le_mul_right _ hH
    omega
  · intro h
    split at h
    · omega
    · have := hr.nil (by cases ao with
        | none => rfl
        | some a => cases h)
      omega
  · intro a ha j u hj
    split at ha
    · have : H - L = 0 := by omega
      rw [this] at hj
      simp at hj
    · cases ao with
      | none => cases ha
      | some b =>
        cases ha
        have hj' : j < (H - L) * size := by
          have := (List.getElem?_eq_some_iff.1 hj).1
          rw [List.length_take] at this
          omega
        rw [List.getElem?_take_of_lt hj', List.getElem?_drop] at hj
        have hc := hr.cell b rfl _ u hj
        show w.cell? ((b.add (L * size)).add j) = some u
        rw [show (b.add (L * size)).add j = b.add (L * size + j) from by
          unfold Addr.add
          by_cases h1 : L * size = 0 <;> by_cases h2 : j = 0 <;> simp [h1, h2, Nat.add_assoc]]
        exact hc

section
variable {w : World} {ops : Array Oper} {rest : List Oper} {o : Oper} {a : Act} {Q : Exit → Act → World → Prop}

theorem run_sliceAt {t e : TypeId} (ht : Try.prog.underlying t = some (.slice e)) {size : Nat} (hs : (Try.prog.info? e).map (·.size) = some size) (ao : Option Addr) (n c L H M : Nat) (lo hi mx : Option Value)
    (hb : (Instr.sliceBounds true n c lo hi mx).run Try.prog w = .ok (L, H, M) w) :
    (Instr.sliceAt t (.slice ao n c) lo hi mx).run Try.prog w = .ok (.slice (if M = L then ao else ao.map (·.add (L * size))) (H - L) (M - L)) w := by
  cases hq : Try.prog.info? e with
  | none => simp [hq] at hs
  | some i =>
    have hsz : i.size = size := by simpa [hq] using hs
    simp only [Instr.sliceAt, Instr.slice, Sem.run_bind, run_underlying ht, Result.andThen_ok, hb, sizeOf, typeInfo, run_program, hq, Sem.run_pure, hsz]

theorem cut_law (hgd : o.guard = none) (t : TypeId) (x : Operand) (lo hi mx : Option Operand) (ho : o.op = .slice t x lo hi mx) (e : TypeId) (size : Nat) (ht : Try.prog.underlying t = some (.slice e)) (hs : (Try.prog.info? e).map (·.size) = some size)
    (ao : Option Addr) (n c : Nat) (xs : List Value) (hx : a.eval x = .slice ao n c) (hr : SlV w ao n c size xs) (L H M : Nat)
    (hb : (Instr.sliceBounds true n c (lo.map a.eval) (hi.map a.eval) (mx.map a.eval)).run Try.prog w = .ok (L, H, M) w) (hLH : L ≤ H) (hH : H ≤ n) (hHM : H ≤ M) (hM : M ≤ c)
    (h : ∀ ao', SlV w ao' (H - L) (M - L) size ((xs.drop (L * size)).take ((H - L) * size)) → wpList Try.prog ops Q rest (a.put o.dst (.slice ao' (H - L) (M - L))) w) : wpList Try.prog ops Q (o :: rest) a w := by
  obtain ⟨ao', hao, hsl⟩ := slv_part hr L H M hLH hH hHM hM
  have hrun := run_sliceAt ht hs ao n c L H M _ _ _ hb
  rw [hao] at hrun
  exact wpList_val hgd _ (by unfold execOp; simp only [ho, hx, Sem.run_bind, hrun, Result.andThen_ok, Sem.run_pure]) (h ao' hsl)

/-- 'x[lo:]'. -/
theorem cut_from (hgd : o.guard = none) (t : TypeId) (x lo : Operand) (ho : o.op = .slice t x (some lo) none none) (e : TypeId) (size : Nat) (ht : Try.prog.underlying t = some (.slice e)) (hs : (Try.prog.info? e).map (·.size) = some size)
    (ao : Option Addr) (n c : Nat) (xs : List Value) (hx : a.eval x = .slice ao n c) (hr : SlV w ao n c size xs) (L : Nat) (LI : Int) (hlo : a.eval lo = .int .i64 LI) (hLI : LI = (L : Int)) (hL : L ≤ n)
    (h : ∀ ao', SlV w ao' (n - L) (c - L) size (xs.drop (L * size)) → wpList Try.prog ops Q rest (a.put o.dst (.slice ao' (n - L) (c - L))) w) : wpList Try.prog ops Q (o :: rest) a w := by
  subst hLI
  refine cut_law hgd t x (some lo) none none ho e size ht hs ao n c xs hx hr L n c ?_ hL (Nat.le_refl _) hr.le (Nat.le_refl _) ?_
  · simp [Instr.sliceBounds, Instr.sliceBound, hlo, asIntOf, hL]
  · intro ao' hsl
    refine h ao' ?_
    rw [List.take_of_length_le (by rw [List.length_drop, hr.len, Nat.sub_mul]; exact Nat.le_refl _)] at hsl
    exact hsl

/-- 'x[:hi]'. -/
theorem cut_to (hgd : o.guard = none) (t : TypeId) (x hi : Operand) (ho : o.op = .slice t x none (some hi) none) (e : TypeId) (size : Nat) (ht : Try.prog.underlying t = some (.slice e)) (hs : (Try.prog.info? e).map (·.size) = some size)
    (ao : Option Addr) (n c : Nat) (xs : List Value) (hx : a.eval x = .slice ao n c) (hr : SlV w ao n c size xs) (H : Nat) (HI : Int) (hhi : a.eval hi = .int .i64 HI) (hHI : HI = (H : Int)) (hH : H ≤ n)
    (h : ∀ ao', SlV w ao' H c size (xs.take (H * size)) → wpList Try.prog ops Q rest (a.put o.dst (.slice ao' H c)) w) : wpList Try.prog ops Q (o :: rest) a w := by
  subst hHI
  have hle := hr.le
  refine cut_law hgd t x none (some hi) none ho e size ht hs ao n c xs hx hr 0 H c ?_ (Nat.zero_le _) hH (by omega) (Nat.le_refl _) ?_
  · have : H ≤ c := by omega
    simp [Instr.sliceBounds, Instr.sliceBound, hhi, asIntOf, this]
  · intro ao' hsl
    simpa using h ao' (by simpa using hsl)

/-- 'x[:hi:mx]'. -/
theorem cut_to3 (hgd : o.guard = none) (t : TypeId) (x hi mx : Operand) (ho : o.op = .slice t x none (some hi) (some mx)) (e : TypeId) (size : Nat) (ht : Try.prog.underlying t = some (.slice e)) (hs : (Try.prog.info? e).map (·.size) = some size)
    (ao : Option Addr) (n c : Nat) (xs : List Value) (hx : a.eval x = .slice ao n c) (hr : SlV w ao n c size xs) (hhi : a.eval hi = .int .i64 (n : Int)) (hmx : a.eval mx = .int .i64 (n : Int))
    (h : ∀ ao', SlV w ao' n n size xs → wpList Try.prog ops Q rest (a.put o.dst (.slice ao' n n)) w) : wpList Try.prog ops Q (o :: rest) a w := by
  have hle := hr.le
  refine cut_law hgd t x none (some hi) (some mx) ho e size ht hs ao n c xs hx hr 0 n n ?_ (Nat.zero_le _) (Nat.le_refl _) (Nat.le_refl _) hle ?_
  · simp [Instr.sliceBounds, Instr.sliceBound, hhi, hmx, asIntOf, hle]
  · intro ao' hsl
    have := hr.len
    simpa using h ao' (by simpa [← this] using hsl)

/-- 'x[lo:hi]'. -/
theorem cut_mid (hgd : o.guard = none) (t : TypeId) (x lo hi : Operand) (ho : o.op = .slice t x (some lo) (some hi) none) (e : TypeId) (size : Nat) (ht : Try.prog.underlying t = some (.slice e)) (hs : (Try.prog.info? e).map (·.size) = some size)
    (ao : Option Addr) (n c : Nat) (xs : List Value) (hx : a.eval x = .slice ao n c) (hr : SlV w ao n c size xs) (L H : Nat) (LI HI : Int) (hlo : a.eval lo = .int .i64 LI) (hLI : LI = (L : Int)) (hhi : a.eval hi = .int .i64 HI) (hHI : HI = (H : Int)) (hLH : L ≤ H) (hH : H ≤ n) (K : Nat) (hK : H - L = K)
    (h : ∀ ao', SlV w ao' K (c - L) size ((xs.drop (L * size)).take (K * size)) → wpList Try.prog ops Q rest (a.put o.dst (.slice ao' K (c - L))) w) : wpList Try.prog ops Q (o :: rest) a w := by
  subst hHI hLI hK
  have hle := hr.le
  refine cut_law hgd t x (some lo) (some hi) none ho e size ht hs ao n c xs hx hr L H c ?_ hLH hH (by omega) (Nat.le_refl _) h
  have : H ≤ c := by omega
  simp [Instr.sliceBounds, Instr.sliceBound, hhi, hlo, asIntOf, this, hLH]
end

theorem Try.size5 : (Try.prog.info? 5).map (·.size) = some 1 := by kernel_rfl
theorem Try.size3 : (Try.prog.info? 3).map (·.size) = some 1 := by kernel_rfl
theorem Try.size28 : (Try.prog.info? 28).map (·.size) = some 1 := by kernel_rfl

/-- What a call that makes bytes gives. -/
def GivesB (W : World) (l : List UInt8) (e : Ending) (w' : World) : Prop :=
  ∃ ao cap, e = .returned (.slice ao l.length cap) ∧ OwnB w' W.heap.size ao cap l ∧ Below W.heap.size W w'

end Go.Proofs.Ytcpemgfpiapaaaa
