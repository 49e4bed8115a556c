/- WireOrder: the walk. -/
import Derived.Test.YtcpemgfpiapaaaaUse
import Derived.Test.YtcpemgfpiapaaaaOrd
import Derived.Test.YtcpemgfpiapaaaaCv
import Derived.Lib.QuietBelow
namespace Go.Proofs.Ytcpemgfpiapaaaa
open Go.RowKit

theorem beq_of {m n : Int} (a b : List UInt8) (h1 : m = n → a = b) (h2 : a = b → m = n) : (a == b) = (m == n) := by
  by_cases e : m = n
  · rw [h1 e, e]; simp
  · have e2 : ¬ a = b := fun h => e (h2 h)
    rw [beq_false_of_ne e, beq_false_of_ne e2]

set_option maxRecDepth 100000 in
set_option maxHeartbeats 400000 in
theorem law5 (m n : Int) (hm : InR m) (hn : InR n) (w : World) :
    Calls Try.prog 5 #[.int .i64 m, .int .i64 n] w (Nx w w (.bool true)) := by
  have hb := (Below.refl w.heap.size w).drew
  go_enter Try.func5, Try.ntmps5
  go_upto_region 1 with fail
  go_cut [5, 6] (fun va vb wx => va = .string ⟨(encInt m).toArray⟩ ∧ vb = .string ⟨(encInt n).toArray⟩ ∧ Below w.heap.size w wx)
  case first =>
    go_region_with (first
      | (go_at_call_of 20 (Value.int IntKind.i64 m); refine (ux_int hb hm).mono ?_; rintro e w1 ⟨sa, sc, rfl, hA, hb1, hk⟩; have cA := cv_run hA)
      | (go_at_call_of 20 (Value.int IntKind.i64 n); refine (ux_int hb1 hn).mono ?_; rintro e w2 ⟨sb, sd, rfl, hB, hb2, hk2⟩; have cB := cv_run hB; have cA2 := cv_run (hA.below hk2 (Nat.le_refl _))))
    all_goals (go_wp2_with fail; go_meet; exact ⟨rfl, rfl, hb2⟩)
  case rest =>
    obtain ⟨rfl, rfl, hbc⟩ := hcut
    obtain ⟨x, hx⟩ : ∃ x : ByteArray, (⟨(encInt m).toArray⟩ : ByteArray) = x := ⟨_, rfl⟩
    obtain ⟨y, hy⟩ : ∃ y : ByteArray, (⟨(encInt n).toArray⟩ : ByteArray) = y := ⟨_, rfl⟩
    rw [hx, hy]
    obtain ⟨k, hk⟩ : ∃ k : Nat, min x.size y.size = k := ⟨_, rfl⟩
    have hkI : min (x.size : Int) (y.size : Int) = (k : Int) := by omega
    go_upto_region 2 with fail
    go_cut [7] (fun v wx => v = .int .i64 (k : Int) ∧ wx = wc)
    case first =>
      go_wp2_with fail
      all_goals (go_meet; exact ⟨by go_num, rfl⟩)
    obtain ⟨rfl, rfl⟩ := hcut
    have hbd := hbc.drew
    have kx : k ≤ x.size := by omega
    have ky : k ≤ y.size := by omega
    go_upto_region 3 with fail
    have hless : Op.bytesLess x.toList y.toList = decide (m < n) := by rw [← hx, ← hy, ByteArray.toList_eq, ByteArray.toList_eq]; exact enc_less hm hn
    have heq : (x.toList == y.toList) = (m == n) := by
      rw [← hx, ← hy, ByteArray.toList_eq, ByteArray.toList_eq]
      exact beq_of _ _ (fun e => by rw [e]) (fun h => enc_inj hm hn h)
    have htk : ((x.extract 0 k).toList == (y.extract 0 k).toList) = (m == n) := by
      rw [ByteArray.toList_eq, ByteArray.toList_eq, ByteArray.data_extract, ByteArray.data_extract, Array.toList_extract, Array.toList_extract]
      have ex : x.data.toList = encInt m := by rw [← hx]
      have ey : y.data.toList = encInt n := by rw [← hy]
      have lx : x.size = (encInt m).length := by rw [← ex]; rfl
      have ly : y.size = (encInt n).length := by rw [← ey]; rfl
      rw [ex, ey]
      refine beq_of _ _ (fun e => by rw [e]) (fun h => enc_take hm hn ?_)
      rw [← lx, ← ly, hk]
      simpa using h
    clear hx hy
    refine wp_region_quiet_below (by kernel_rfl) (by kernel_rfl) ?_
    repeat (quiet_step (exact Calls.regrown_of (sanity_ok _)))
    refine wpQuiet_nil ?_
    rintro w' ⟨q, rfl⟩
    have hbe := hbc.trans ((below_regrown wc q.d q.os).mono hbc.size)
    go_wp2
    go_ret
    exact ⟨rfl, hbe, hbe⟩

end Go.Proofs.Ytcpemgfpiapaaaa
