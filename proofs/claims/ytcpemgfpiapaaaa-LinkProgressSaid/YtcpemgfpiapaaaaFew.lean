/- The guard of the laws of layer 1, few: the number of elements and of their bytes is at most 2000. -/
import Derived.Test.YtcpemgfpiapaaaaSame
namespace Go.Proofs.Ytcpemgfpiapaaaa
open Go.RowKit

/-- The number of elements and of bytes. -/
def bulk (l : List ByteArray) : Nat := l.length + (l.map ByteArray.size).sum

theorem bulk_at {l : List ByteArray} {k : Nat} (hk : k < l.length) {x : ByteArray} (hx : l[k] = x) {s : Nat} (hs : Hid (s = l.length + ((l.take k).map ByteArray.size).sum)) :
    s + x.size ≤ bulk l ∧ Hid (s + x.size = l.length + ((l.take (k + 1)).map ByteArray.size).sum) := by
  have e : s + x.size = l.length + ((l.take (k + 1)).map ByteArray.size).sum := by
    rw [List.take_succ_eq_append_getElem hk, hx, hs.out]
    simp; omega
  refine ⟨?_, e⟩
  have h2 : bulk l = l.length + ((l.take (k + 1)).map ByteArray.size).sum + ((l.drop (k + 1)).map ByteArray.size).sum := by
    unfold bulk
    rw [Nat.add_assoc, ← List.sum_append, ← List.map_append, List.take_append_drop]
  omega

theorem bulk_end {l : List ByteArray} {n : Nat} (hn : Hid (l.length = n)) {s : Nat} (hs : Hid (s = l.length + ((l.take n).map ByteArray.size).sum)) : s = bulk l := by
  rw [hs.out, List.take_of_length_le (by rw [hn.out]; exact Nat.le_refl _)]; rfl

/-- dioramalaw01.few. -/
theorem few_any (ao : Option Addr) (n c : Nat) (l : List ByteArray) (w : World) (h : SlV w ao n c 1 (l.map Value.string)) (hB : bulk l ≤ 9223372036854775807) (b : Bool) (hb : Hid (b = decide (bulk l ≤ 2000))) :
    Calls Try.prog 17 #[.slice ao n c] w (Looks w (.bool b)) := by
  have t1 : n ≤ maxLen := Nat.le_trans h.le h.top
  unfold maxLen at t1
  have l1 : Hid (l.length = n) := Lib.hid (by have := h.len; simpa using this)
  have HS : Hid (n = l.length + ((l.take 0).map ByteArray.size).sum) := Lib.hid (by rw [l1.out]; simp)
  go_enter Try.func17, Try.ntmps17
  go_wp2
  go_loopw [3, 5, 10] (fun m _ i wr => ∃ (k s d : Nat), k ≤ n ∧ s ≤ bulk l ∧ i = .int .i64 k ∧ m = .int .i64 (s : Int) ∧ wr = w.drewN d ∧ Hid (s = l.length + ((l.take k).map ByteArray.size).sum)) (fun _ _ i _ => n - (intOf i).toNat)
  case atStart => exact ⟨0, n, 0, by omega, by have := l1.out; unfold bulk; omega, rfl, rfl, rfl, HS⟩
  case round =>
    clear HS
    obtain ⟨k, s, d, hk, hs, rfl, rfl, rfl, HS⟩ := hrel
    by_cases hlt : k < n
    · obtain ⟨a, rfl⟩ := h.has (by omega)
      have q1 : k < l.length := by rw [l1.out]; exact hlt
      have e1 := h.cell a rfl k _ (map_at q1)
      obtain ⟨x, hx⟩ : ∃ x, l[k] = x := ⟨_, rfl⟩
      rw [hx] at e1
      have e1' : w.cell? (a.add k) = some (.string x) := e1
      clear e1
      obtain ⟨hle, HN⟩ := bulk_at q1 hx HS
      clear q1 hx HS
      go_wp2
      go_roundw
      case rel => exact ⟨k + 1, s + x.size, _, by omega, hle, by go_num, by simp, rfl, HN⟩
      case measure => simp [intOf]; omega
    · obtain rfl : k = n := by omega
      have HE := bulk_end l1 HS
      subst HE
      go_wp2
      go_ret
      exact ⟨by rw [hb.out]; congr 1; simp; omega, _, rfl⟩

end Go.Proofs.Ytcpemgfpiapaaaa
