/- The conversion of bytes to a string, as an equation. -/
import Derived.Test.YtcpemgfpiapaaaaMem
namespace Go.Proofs.Ytcpemgfpiapaaaa
open Go.RowKit

theorem cv_run {w : World} {ao : Option Addr} {n cap : Nat} {l : List UInt8} (hr : SlV w ao n cap 1 (bvs l)) : (convert 28 9 (.slice ao n cap)).run Try.prog w = .ok (.string ⟨l.toArray⟩) w := by
  rw [run_convert_bytes_string (P := Try.prog) w 28 9 5 ao n cap Try.underlying28 Try.underlying5 Try.underlying9]
  cases ao with
  | none =>
    have : l = [] := by
      have h1 := hr.len
      have h2 := hr.nil rfl
      have h3 := hr.le
      apply List.eq_nil_of_length_eq_zero
      simp at h1
      omega
    subst this
    simp [Conv.bytesToString]
    rfl
  | some ad =>
    have hl := run_loadCells_list (P := Try.prog) w ad (bvs l) (hr.cell ad rfl)
    rw [hr.len, Nat.mul_one] at hl
    have he : bvs l = (l.map (fun c => (c.toNat : Int))).map (Value.int .u8) := by simp [bvs, bv, Function.comp_def]
    rw [he] at hl
    rw [run_bytesToString w ad n cap _ hl, foldl_push]
    simp [ByteArray.empty, ByteArray.emptyWithCapacity]
    rfl

end Go.Proofs.Ytcpemgfpiapaaaa
