/- The laws of package link, as their frames ask for them. -/
import Derived.Test.YtcpemgfpiapaaaaL6
import Derived.Test.YtcpemgfpiapaaaaArg
namespace Go.Proofs.Ytcpemgfpiapaaaa
open Go.RowKit

theorem nat_of_u64 {a : Int} (h : (Lit.int .u64 a).wf = true) : ∃ n : Nat, a = (n : Int) ∧ n < 18446744073709551616 := by
  have h2 : 0 ≤ a ∧ a ≤ 18446744073709551615 := by
    simp [Lit.wf] at h
    rw [show IntKind.u64.min = 0 from by decide, show IntKind.u64.max = 18446744073709551615 from by decide] at h
    omega
  exact ⟨a.toNat, by omega, by omega⟩

theorem nat_of_u8 {a : Int} (h : (Lit.int .u8 a).wf = true) : ∃ n : Nat, a = (n : Int) ∧ n < 256 := by
  have h2 : 0 ≤ a ∧ a ≤ 255 := by
    simp [Lit.wf] at h
    rw [show IntKind.u8.min = 0 from by decide, show IntKind.u8.max = 255 from by decide] at h
    omega
  exact ⟨a.toNat, by omega, by omega⟩

theorem law6 (W : World) (key : Nat) (hk : key < 18446744073709551616) (ao : Option Addr) (n c : Nat) (b : List UInt8) (hr : SlV W ao n c 1 (bvs b)) (at' : Int) (hat : InR at') (v : Nat) (hv : v < 256) :
    Calls Try.prog 6 #[.int .u64 (key : Int), .slice ao n c, .int .i64 at', .int .u8 (v : Int)] W (fun e w' => e = .returned (.bool true) ∧ Below W.heap.size W w' ∧ True) :=
  (l6_any W key hk ao n c b hr at' hat v hv).mono fun _ _ h => ⟨h.1, h.2, trivial⟩

end Go.Proofs.Ytcpemgfpiapaaaa
