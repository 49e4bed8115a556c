/- What the second form's bound gives for a slice of strings. -/
import Derived.Test.YtcpemgfpiapaaaaRows
import Derived.Test.YtcpemgfpiapaaaaArg
namespace Go.Proofs.Ytcpemgfpiapaaaa
open Go.ChangeShapes

theorem strs_bulk {H : Type} (l : List ByteArray) : Rows.uptoBulkAll (H := H) (strs l) = bulk l := by
  unfold bulk
  induction l with
  | nil => simp [strs, Rows.uptoBulkAll]
  | cons x l ih =>
    have e : x.data.toList.length = x.size := rfl
    simp only [strs] at ih
    simp only [strs, List.map_cons, Rows.uptoBulkAll, Rows.uptoBulk, e, ih, List.length_cons, List.sum_cons]
    omega

theorem arg_bulk {H : Type} {d : DataW H} {l : List ByteArray} (h : l = [] ∨ ∃ sp, d = .slice (strs l) sp) : bulk l ≤ Rows.uptoBulk d := by
  rcases h with rfl | ⟨sp, rfl⟩
  · simp [bulk]
  · simp only [Rows.uptoBulk, strs_bulk]
    omega

theorem upto_bound {H : Type} {l : List (DataW H)} (hk : Rows.uptoSmall H l = true) : Rows.uptoBulkAll l ≤ 1048576 := of_decide_eq_true hk

end Go.Proofs.Ytcpemgfpiapaaaa
