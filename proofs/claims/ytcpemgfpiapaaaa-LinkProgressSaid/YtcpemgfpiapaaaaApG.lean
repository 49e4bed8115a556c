/- Append to a slice without spare room of at least one byte: the result is the call's own; an empty slice. -/
import Derived.Test.YtcpemgfpiapaaaaApF
namespace Go.Proofs.Ytcpemgfpiapaaaa
open Go.RowKit

theorem sl_zero (w : World) (ao : Option Addr) (size : Nat) : SlV w ao 0 0 size [] :=
  ⟨by simp, Nat.le_refl _, by unfold maxLen; omega, fun _ => rfl, fun a ha j u hj => by simp at hj⟩

variable {w : World} {ops : Array Oper} {rest : List Oper} {o : Oper} {a : Act} {Q : Exit → Act → World → Prop}

theorem ap_grow (hgd : o.guard = none) (s x : Operand)
    (ho : o.op = .call { callee := .builtin .append, args := #[s, x], argTypes := #[28, 28] })
    (ao : Option Addr) (n : Nat) (l : List UInt8) (hs : a.eval s = .slice ao n n) (h1 : SlV w ao n n 1 (bvs l))
    (ax : Option Addr) (m c : Nat) (k : List UInt8) (hx : a.eval x = .slice ax m c) (h2 : SlV w ax m c 1 (bvs k)) (hm : 0 < m)
    (hbytes : n + m ≤ 140737488355328)
    (h : ∀ ao' cap' w', OwnB w' w.heap.size ao' cap' (l ++ k) → Below w.heap.size w w' → wpList Try.prog ops Q rest (a.put o.dst (.slice ao' (n + m) cap')) w') : wpList Try.prog ops Q (o :: rest) a w := by
  obtain ⟨i, hi, hz0, hz1, hz2⟩ := info_parts Try.info5
  have l1 : l.length = n := by have := h1.len; simpa using this
  have l2 : k.length = m := by have := h2.len; simpa using this
  obtain ⟨ad, rfl⟩ := h2.has (by omega)
  refine wpList_append_grows w hgd s x 28 ho 5 i (.int .u8 0) 1 1 Try.underlying28 hi hz0 hz1 hz2 rfl (by decide) ao n n (bvs l) hs (fun e => ?_) h1.len (fun b hb j u hj => h1.cell b hb j u hj) ad m c (bvs k) hx h2.len (h2.cell ad rfl) (bvs_one k) (by omega) (by unfold maxLen; omega) (by omega) ?_
  · have := h1.nil e; omega
  · intro v' w' ho' hg
    obtain ⟨ao', cap', hv⟩ := ownsRow_shape ho'
    subst hv
    refine h ao' cap' w' ?_ ((Below.refl _ _).grown hg (Nat.le_refl _) (fun _ h => by cases h))
    unfold OwnB
    rw [bvs_append, List.length_append, l1, l2]
    exact ho'

end Go.Proofs.Ytcpemgfpiapaaaa
