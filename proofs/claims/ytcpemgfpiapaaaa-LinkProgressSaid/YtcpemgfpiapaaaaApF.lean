/- Append to a slice without spare room, which may be another's memory. -/
import Derived.Test.YtcpemgfpiapaaaaUse
import Derived.ArgAppend
namespace Go.Proofs.Ytcpemgfpiapaaaa
open Go.RowKit

theorem run_append_zero (w : World) (ty : TypeId) (ao ax : Option Addr) (n cap c : Nat) (hn : n ≤ cap) :
    (Builtin.append_ #[28, 28] ty #[.slice ao n cap, .slice ax 0 c]).run Try.prog w = .ok (.slice ao n cap) w := by
  obtain ⟨i, hi, hz0, hz1, hz2⟩ := info_parts Try.info5
  have ht := Try.underlying28
  cases ax with
  | none => cases ao <;> simp [Builtin.append_, run_underlying ht, sizeOf, typeInfo, hi, Builtin.lenOf, Builtin.firstCells, hn, storeCells]
  | some a =>
    have hf := run_firstCells_some (P := Try.prog) w i.size 0 a 0 c [] (by simp) (by simp)
    cases ao <;> simp [Builtin.append_, run_underlying ht, sizeOf, typeInfo, hi, Builtin.lenOf, hf, hn, storeCells]

variable {w : World} {ops : Array Oper} {rest : List Oper} {o : Oper} {a : Act} {Q : Exit → Act → World → Prop}

/-- APPEND of bytes to bytes without spare room. -/
theorem ap_full (hgd : o.guard = none) (s x : Operand)
    (ho : o.op = .call { callee := .builtin .append, args := #[s, x], argTypes := #[28, 28] })
    (ao : Option Addr) (n : Nat) (l : List UInt8) (hs : a.eval s = .slice ao n n) (h1 : SlV w ao n n 1 (bvs l))
    (ax : Option Addr) (m c : Nat) (k : List UInt8) (hx : a.eval x = .slice ax m c) (h2 : SlV w ax m c 1 (bvs k))
    (hbytes : n + m ≤ 140737488355328)
    (h : ∀ ao' cap' w', SlV w' ao' (n + m) cap' 1 (bvs (l ++ k)) → Below w.heap.size w w' → wpList Try.prog ops Q rest (a.put o.dst (.slice ao' (n + m) cap')) w') : wpList Try.prog ops Q (o :: rest) a w := by
  obtain ⟨i, hi, hz0, hz1, hz2⟩ := info_parts Try.info5
  by_cases hm : m = 0
  · subst hm
    have hk : k = [] := List.eq_nil_of_length_eq_zero (by have := h2.len; simpa using this)
    subst hk
    refine wpList_plain hgd fun K hK' => ?_
    have hrun := run_append_zero w o.type ao ax n n c (Nat.le_refl _)
    unfold Oper.wp
    simp [execOp, ho, resolve, invoke, builtin, hs, hx, hrun, Result.andThen]
    exact hK' _ _ (by simpa using h ao n w (by simpa using h1) (Below.refl _ _))
  · obtain ⟨ad, rfl⟩ := h2.has (by omega)
    refine wpList_append_grows w hgd s x 28 ho 5 i (.int .u8 0) 1 1 Try.underlying28 hi hz0 hz1 hz2 rfl (by decide) ao n n (bvs l) hs (fun e => ?_) h1.len (fun b hb j u hj => h1.cell b hb j u hj) ad m c (bvs k) hx h2.len (h2.cell ad rfl) (bvs_one k) (by omega) (by unfold maxLen; omega) (by omega) ?_
    · have := h1.nil e; omega
    · intro v' w' ho' hg
      obtain ⟨ao', cap', hv⟩ := ownsRow_shape ho'
      subst hv
      refine h ao' cap' w' ?_ ((Below.refl _ _).grown hg (Nat.le_refl _) (fun _ h => by cases h))
      rw [bvs_append]
      exact ownsRow_sl ho'

end Go.Proofs.Ytcpemgfpiapaaaa
