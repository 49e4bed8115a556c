/- The references' comparisons of two slices answer whether the slices are equal; they change nothing. -/
import Derived.Test.YtcpemgfpiapaaaaMem
namespace Go.Proofs.Ytcpemgfpiapaaaa
open Go.RowKit

/-- What a call gives that only looks. -/
def Looks (W : World) (v : Value) (e : Ending) (w' : World) : Prop := e = .returned v ∧ ∃ n, w' = W.drewN n

theorem map_at {α : Type} {f : α → Value} {l : List α} {k : Nat} (h : k < l.length) : (l.map f)[k]? = some (f l[k]) := by
  simp [h]

theorem take_next {α : Type} {l m : List α} {k : Nat} (h1 : k < l.length) (h2 : k < m.length) (h : Hid (l.take k = m.take k)) (hc : l[k] = m[k]) : Hid (l.take (k + 1) = m.take (k + 1)) := by
  show _ = _
  rw [List.take_succ_eq_append_getElem h1, List.take_succ_eq_append_getElem h2, h.out, hc]

theorem eq_of_take {α : Type} {l m : List α} {n : Nat} (h1 : l.length = n) (h2 : m.length = n) (h : l.take n = m.take n) : l = m := by
  rw [List.take_of_length_le (by omega), List.take_of_length_le (by omega)] at h
  exact h

theorem ne_of_at {α : Type} {l m : List α} {k : Nat} (h1 : k < l.length) (h2 : k < m.length) (h : l[k] ≠ m[k]) : l ≠ m := by
  intro e
  subst e
  exact h rfl

theorem u8_ne {x y : UInt8} (h : x ≠ y) : ((x.toNat : Int) != (y.toNat : Int)) = true := by
  simp; intro e; exact h (UInt8.toNat_inj.1 (by omega))
theorem u8_eq {x y : UInt8} (h : x = y) : ((x.toNat : Int) != (y.toNat : Int)) = false := by simp [h]
theorem i64_ne {x y : Int} (h : x ≠ y) : (x != y) = true := by simpa using h
theorem i64_eq {x y : Int} (h : x = y) : (x != y) = false := by simp [h]
theorem str_ne {x y : ByteArray} (h : x ≠ y) : (!x.toList == y.toList) = true := by
  simp only [ByteArray.toList_eq, Bool.not_eq_true', beq_eq_false_iff_ne]
  intro e
  exact h (ByteArray.ext (Array.toList_inj.1 e))
theorem str_eq {x y : ByteArray} (h : x = y) : (!x.toList == y.toList) = false := by simp [h]

set_option maxHeartbeats 400000 in
theorem same_eq (ao bo : Option Addr) (n c1 c2 : Nat) (l m : List UInt8) (w : World) (h1 : SlV w ao n c1 1 (l.map bv)) (h2 : SlV w bo n c2 1 (m.map bv)) (b : Bool) (hb : Hid (b = decide (l = m))) :
    Calls Try.prog 19 #[.slice ao n c1, .slice bo n c2] w (Looks w (.bool b)) := by
  have t1 : n ≤ maxLen := Nat.le_trans h1.le h1.top
  unfold maxLen at t1
  have l1 : Hid (l.length = n) := Lib.hid (by have := h1.len; simpa using this)
  have l2 : Hid (m.length = n) := Lib.hid (by have := h2.len; simpa using this)
  go_enter Try.func19, Try.ntmps19
  go_wp2
  go_loopw [5] (fun i wr => ∃ (k d : Nat), k ≤ n ∧ i = .int .i64 k ∧ wr = w.drewN d ∧ Hid (l.take k = m.take k)) (fun i _ => n - (intOf i).toNat)
  case atStart => exact ⟨0, 0, by omega, rfl, rfl, by simp [Hid]⟩
  case round =>
    obtain ⟨k, d, hk, rfl, rfl, hkk⟩ := hrel
    by_cases hlt : k < n
    · obtain ⟨a, rfl⟩ := h1.has (by omega)
      obtain ⟨a', rfl⟩ := h2.has (by omega)
      have q1 : k < l.length := by rw [l1.out]; exact hlt
      have q2 : k < m.length := by rw [l2.out]; exact hlt
      have e1 := h1.cell a rfl k _ (map_at q1)
      have e2 := h2.cell a' rfl k _ (map_at q2)
      obtain ⟨x, hx⟩ : ∃ x, Hid (l[k] = x) := ⟨_, Lib.hid rfl⟩
      obtain ⟨y, hy⟩ : ∃ y, Hid (m[k] = y) := ⟨_, Lib.hid rfl⟩
      rw [hx.out] at e1
      rw [hy.out] at e2
      have e1' : w.cell? (a.add k) = some (.int .u8 (x.toNat : Int)) := e1
      have e2' : w.cell? (a'.add k) = some (.int .u8 (y.toNat : Int)) := e2
      clear e1 e2
      by_cases hxy : x = y
      · have hbx := u8_eq hxy
        have HN := take_next q1 q2 hkk (by rw [hx.out, hy.out, hxy])
        clear q1 q2 hxy hx hy
        go_wp2
        go_quiet (fail)
        go_wp2
        go_roundw
        case rel => exact ⟨k + 1, _, by omega, by go_num, rfl, HN⟩
        case measure => simp [intOf]; omega
      · have hbx := u8_ne hxy
        have hbf : b = false := by
          rw [hb.out, decide_eq_false]
          exact ne_of_at q1 q2 (by rw [hx.out, hy.out]; exact hxy)
        subst hbf
        clear q1 q2 hxy hx hy hb
        go_wp2
        go_quiet (fail)
        go_wp2
        go_ret
        exact ⟨rfl, d + nq, by rw [World.drewN_drewN]⟩
    · obtain rfl : k = n := by omega
      have hbt : b = true := by
        rw [hb.out, decide_eq_true]
        exact eq_of_take l1.out l2.out hkk.out
      subst hbt
      clear hb
      go_wp2
      go_ret
      exact ⟨rfl, _, rfl⟩

theorem same_len (ao bo : Option Addr) (n n' c1 c2 : Nat) (w : World) (hne : (((n : Int) != (n' : Int))) = true) :
    Calls Try.prog 19 #[.slice ao n c1, .slice bo n' c2] w (Looks w (.bool false)) := by
  go_enter Try.func19, Try.ntmps19
  go_wp2
  go_ret
  exact ⟨rfl, 0, rfl⟩

/-- dioramaref01.Same. -/
theorem same_any (ao bo : Option Addr) (n n' c1 c2 : Nat) (l m : List UInt8) (w : World) (h1 : SlV w ao n c1 1 (l.map bv)) (h2 : SlV w bo n' c2 1 (m.map bv)) (b : Bool) (hb : b = decide (l = m)) :
    Calls Try.prog 19 #[.slice ao n c1, .slice bo n' c2] w (Looks w (.bool b)) := by
  have l1 : l.length = n := by have := h1.len; simpa using this
  have l2 : m.length = n' := by have := h2.len; simpa using this
  by_cases hn : n = n'
  · subst hn
    exact same_eq ao bo n c1 c2 l m w h1 h2 b hb
  · have : b = false := by
      rw [hb, decide_eq_false]
      intro e
      subst e
      omega
    rw [this]
    exact same_len ao bo n n' c1 c2 w (by simp; omega)

set_option maxHeartbeats 400000 in
theorem sameInts_eq (ao bo : Option Addr) (n c1 c2 : Nat) (l m : List Int) (w : World) (h1 : SlV w ao n c1 1 (l.map iv)) (h2 : SlV w bo n c2 1 (m.map iv)) (b : Bool) (hb : Hid (b = decide (l = m))) :
    Calls Try.prog 36 #[.slice ao n c1, .slice bo n c2] w (Looks w (.bool b)) := by
  have t1 : n ≤ maxLen := Nat.le_trans h1.le h1.top
  unfold maxLen at t1
  have l1 : Hid (l.length = n) := Lib.hid (by have := h1.len; simpa using this)
  have l2 : Hid (m.length = n) := Lib.hid (by have := h2.len; simpa using this)
  go_enter Try.func36, Try.ntmps36
  go_wp2
  go_loopw [5] (fun i wr => ∃ (k d : Nat), k ≤ n ∧ i = .int .i64 k ∧ wr = w.drewN d ∧ Hid (l.take k = m.take k)) (fun i _ => n - (intOf i).toNat)
  case atStart => exact ⟨0, 0, by omega, rfl, rfl, by simp [Hid]⟩
  case round =>
    obtain ⟨k, d, hk, rfl, rfl, hkk⟩ := hrel
    by_cases hlt : k < n
    · obtain ⟨a, rfl⟩ := h1.has (by omega)
      obtain ⟨a', rfl⟩ := h2.has (by omega)
      have q1 : k < l.length := by rw [l1.out]; exact hlt
      have q2 : k < m.length := by rw [l2.out]; exact hlt
      have e1 := h1.cell a rfl k _ (map_at q1)
      have e2 := h2.cell a' rfl k _ (map_at q2)
      obtain ⟨x, hx⟩ : ∃ x, Hid (l[k] = x) := ⟨_, Lib.hid rfl⟩
      obtain ⟨y, hy⟩ : ∃ y, Hid (m[k] = y) := ⟨_, Lib.hid rfl⟩
      rw [hx.out] at e1
      rw [hy.out] at e2
      have e1' : w.cell? (a.add k) = some (.int .i64 x) := e1
      have e2' : w.cell? (a'.add k) = some (.int .i64 y) := e2
      clear e1 e2
      by_cases hxy : x = y
      · have hbx := i64_eq hxy
        have HN := take_next q1 q2 hkk (by rw [hx.out, hy.out, hxy])
        clear q1 q2 hxy hx hy
        go_wp2
        go_quiet (fail)
        go_wp2
        go_roundw
        case rel => exact ⟨k + 1, _, by omega, by go_num, rfl, HN⟩
        case measure => simp [intOf]; omega
      · have hbx := i64_ne hxy
        have hbf : b = false := by
          rw [hb.out, decide_eq_false]
          exact ne_of_at q1 q2 (by rw [hx.out, hy.out]; exact hxy)
        subst hbf
        clear q1 q2 hxy hx hy hb
        go_wp2
        go_quiet (fail)
        go_wp2
        go_ret
        exact ⟨rfl, d + nq, by rw [World.drewN_drewN]⟩
    · obtain rfl : k = n := by omega
      have hbt : b = true := by
        rw [hb.out, decide_eq_true]
        exact eq_of_take l1.out l2.out hkk.out
      subst hbt
      clear hb
      go_wp2
      go_ret
      exact ⟨rfl, _, rfl⟩

theorem sameInts_len (ao bo : Option Addr) (n n' c1 c2 : Nat) (w : World) (hne : (((n : Int) != (n' : Int))) = true) :
    Calls Try.prog 36 #[.slice ao n c1, .slice bo n' c2] w (Looks w (.bool false)) := by
  go_enter Try.func36, Try.ntmps36
  go_wp2
  go_ret
  exact ⟨rfl, 0, rfl⟩

/-- dioramaref01.SameInts. -/
theorem sameInts_any (ao bo : Option Addr) (n n' c1 c2 : Nat) (l m : List Int) (w : World) (h1 : SlV w ao n c1 1 (l.map iv)) (h2 : SlV w bo n' c2 1 (m.map iv)) (b : Bool) (hb : b = decide (l = m)) :
    Calls Try.prog 36 #[.slice ao n c1, .slice bo n' c2] w (Looks w (.bool b)) := by
  have l1 : l.length = n := by have := h1.len; simpa using this
  have l2 : m.length = n' := by have := h2.len; simpa using this
  by_cases hn : n = n'
  · subst hn
    exact sameInts_eq ao bo n c1 c2 l m w h1 h2 b hb
  · have : b = false := by
      rw [hb, decide_eq_false]
      intro e
      subst e
      omega
    rw [this]
    exact sameInts_len ao bo n n' c1 c2 w (by simp; omega)

set_option maxHeartbeats 400000 in
theorem sameTexts_eq (ao bo : Option Addr) (n c1 c2 : Nat) (l m : List ByteArray) (w : World) (h1 : SlV w ao n c1 1 (l.map Value.string)) (h2 : SlV w bo n c2 1 (m.map Value.string)) (b : Bool) (hb : Hid (b = decide (l = m))) :
    Calls Try.prog 39 #[.slice ao n c1, .slice bo n c2] w (Looks w (.bool b)) := by
  have t1 : n ≤ maxLen := Nat.le_trans h1.le h1.top
  unfold maxLen at t1
  have l1 : Hid (l.length = n) := Lib.hid (by have := h1.len; simpa using this)
  have l2 : Hid (m.length = n) := Lib.hid (by have := h2.len; simpa using this)
  go_enter Try.func39, Try.ntmps39
  go_wp2
  go_loopw [5] (fun i wr => ∃ (k d : Nat), k ≤ n ∧ i = .int .i64 k ∧ wr = w.drewN d ∧ Hid (l.take k = m.take k)) (fun i _ => n - (intOf i).toNat)
  case atStart => exact ⟨0, 0, by omega, rfl, rfl, by simp [Hid]⟩
  case round =>
    obtain ⟨k, d, hk, rfl, rfl, hkk⟩ := hrel
    by_cases hlt : k < n
    · obtain ⟨a, rfl⟩ := h1.has (by omega)
      obtain ⟨a', rfl⟩ := h2.has (by omega)
      have q1 : k < l.length := by rw [l1.out]; exact hlt
      have q2 : k < m.length := by rw [l2.out]; exact hlt
      have e1 := h1.cell a rfl k _ (map_at q1)
      have e2 := h2.cell a' rfl k _ (map_at q2)
      obtain ⟨x, hx⟩ : ∃ x, Hid (l[k] = x) := ⟨_, Lib.hid rfl⟩
      obtain ⟨y, hy⟩ : ∃ y, Hid (m[k] = y) := ⟨_, Lib.hid rfl⟩
      rw [hx.out] at e1
      rw [hy.out] at e2
      have e1' : w.cell? (a.add k) = some (.string x) := e1
      have e2' : w.cell? (a'.add k) = some (.string y) := e2
      clear e1 e2
      by_cases hxy : x = y
      · have hbx := str_eq hxy
        have HN := take_next q1 q2 hkk (by rw [hx.out, hy.out, hxy])
        clear q1 q2 hxy hx hy
        go_wp2
        go_quiet (fail)
        go_wp2
        go_roundw
        case rel => exact ⟨k + 1, _, by omega, by go_num, rfl, HN⟩
        case measure => simp [intOf]; omega
      · have hbx := str_ne hxy
        have hbf : b = false := by
          rw [hb.out, decide_eq_false]
          exact ne_of_at q1 q2 (by rw [hx.out, hy.out]; exact hxy)
        subst hbf
        clear q1 q2 hxy hx hy hb
        go_wp2
        go_quiet (fail)
        go_wp2
        go_ret
        exact ⟨rfl, d + nq, by rw [World.drewN_drewN]⟩
    · obtain rfl : k = n := by omega
      have hbt : b = true := by
        rw [hb.out, decide_eq_true]
        exact eq_of_take l1.out l2.out hkk.out
      subst hbt
      clear hb
      go_wp2
      go_ret
      exact ⟨rfl, _, rfl⟩

theorem sameTexts_len (ao bo : Option Addr) (n n' c1 c2 : Nat) (w : World) (hne : (((n : Int) != (n' : Int))) = true) :
    Calls Try.prog 39 #[.slice ao n c1, .slice bo n' c2] w (Looks w (.bool false)) := by
  go_enter Try.func39, Try.ntmps39
  go_wp2
  go_ret
  exact ⟨rfl, 0, rfl⟩

/-- dioramaref01.SameTexts. -/
theorem sameTexts_any (ao bo : Option Addr) (n n' c1 c2 : Nat) (l m : List ByteArray) (w : World) (h1 : SlV w ao n c1 1 (l.map Value.string)) (h2 : SlV w bo n' c2 1 (m.map Value.string)) (b : Bool) (hb : b = decide (l = m)) :
    Calls Try.prog 39 #[.slice ao n c1, .slice bo n' c2] w (Looks w (.bool b)) := by
  have l1 : l.length = n := by have := h1.len; simpa using this
  have l2 : m.length = n' := by have := h2.len; simpa using this
  by_cases hn : n = n'
  · subst hn
    exact sameTexts_eq ao bo n c1 c2 l m w h1 h2 b hb
  · have : b = false := by
      rw [hb, decide_eq_false]
      intro e
      subst e
      omega
    rw [this]
    exact sameTexts_len ao bo n n' c1 c2 w (by simp; omega)

end Go.Proofs.Ytcpemgfpiapaaaa
