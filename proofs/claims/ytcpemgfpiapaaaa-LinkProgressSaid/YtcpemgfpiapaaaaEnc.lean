/- The encoders of strings, of lists of integers and of lists of strings, of the program and of the reference, return the encoding. -/
import Derived.Test.YtcpemgfpiapaaaaWRInt
import Derived.Test.YtcpemgfpiapaaaaSame
import Derived.Test.YtcpemgfpiapaaaaDec
namespace Go.Proofs.Ytcpemgfpiapaaaa
open Go.RowKit

def encBytes (s : ByteArray) : List UInt8 := encInt s.size ++ s.data.toList

/-- The encoding of a list by its elements' encodings. -/
def encL {α : Type} (f : α → List UInt8) (l : List α) : List UInt8 := encInt l.length ++ (l.map f).flatten

def encInts (l : List Int) : List UInt8 := encL encInt l
def encStrs (l : List ByteArray) : List UInt8 := encL encBytes l
def encDigs (l : List (List UInt8)) : List UInt8 := encL id l

theorem encBytes_len (s : ByteArray) : (encBytes s).length ≤ 9 + s.size := by
  have := encInt_len (s.size : Int)
  simp only [encBytes, List.length_append, Array.length_toList]
  have : s.data.size = s.size := rfl
  omega

theorem encBytes_ge (s : ByteArray) : s.size ≤ (encBytes s).length := by
  simp only [encBytes, List.length_append, Array.length_toList]
  have : s.data.size = s.size := rfl
  omega

theorem encL_at {α : Type} {f : α → List UInt8} {l : List α} {k : Nat} (hk : k < l.length) {D : List UInt8} (hD : Hid (D = encInt l.length ++ ((l.take k).map f).flatten)) {x : α} (hx : Hid (l[k] = x)) :
    D.length + (f x).length ≤ (encL f l).length ∧ Hid (D ++ f x = encInt l.length ++ ((l.take (k + 1)).map f).flatten) := by
  have e : D ++ f x = encInt l.length ++ ((l.take (k + 1)).map f).flatten := by
    rw [List.take_succ_eq_append_getElem hk, hx.out, hD.out]
    simp
  refine ⟨?_, e⟩
  have h2 : (encL f l) = encInt l.length ++ ((l.take (k + 1)).map f).flatten ++ ((l.drop (k + 1)).map f).flatten := by
    unfold encL
    rw [List.append_assoc, ← List.flatten_append, ← List.map_append, List.take_append_drop]
  rw [h2, ← e]
  simp only [List.length_append]
  omega

theorem encL_start {α : Type} (f : α → List UInt8) (l : List α) {n : Nat} (hn : Hid (l.length = n)) : Hid (encInt n = encInt l.length ++ ((l.take 0).map f).flatten) := by
  show _ = _
  rw [hn.out]; simp

theorem encL_end {α : Type} (f : α → List UInt8) (l : List α) {n : Nat} (hn : Hid (l.length = n)) {D : List UInt8} (hD : Hid (D = encInt l.length ++ ((l.take n).map f).flatten)) : D = encL f l := by
  rw [hD.out, List.take_of_length_le (by rw [hn.out]; exact Nat.le_refl _)]; rfl

theorem bytes_any (s : ByteArray) (w : World) (hs : s.size ≤ 1000000000000) : Calls Try.prog 22 #[.string s] w (GivesB w (encBytes s)) := by
  have hE := encInt_len (s.size : Int)
  go_enter Try.func22, Try.ntmps22
  go_wp2_with (first | (go_at_call 20; refine (int_any _ _ (by omega) (by omega)).mono ?_; rintro e w1 ⟨ao, cap, rfl, hown, hb⟩; have hbs := hb.size) | (at_builtin; refine ap_str rfl (.tmp 5) (.tmp 6) rfl w.heap.size ao cap _ _ rfl rfl hown s rfl (by omega) hbs ?_; intro ao' cap' w2 hown1 hb1))
  go_ret
  exact ⟨ao', cap', by simp [encBytes], hown1, hb.trans hb1⟩

theorem rbytes_any (s : ByteArray) (w : World) (hs : s.size ≤ 1000000000000) : Calls Try.prog 23 #[.string s] w (GivesB w (encBytes s)) := by
  have hE := encInt_len (s.size : Int)
  go_enter Try.func23, Try.ntmps23
  go_wp2_with (first | (go_at_call 21; refine (rint_any _ _ (by omega) (by omega)).mono ?_; rintro e w1 ⟨ao, cap, rfl, hown, hb⟩; have hbs := hb.size) | (refine cv_bytes rfl (.tmp 6) rfl s rfl (by omega) ?_; intro ao1 cap1 w2 hsl hb1; have hbs1 := hb1.size) | (at_builtin; refine ap_bytes rfl (.tmp 5) (.tmp 7) rfl w.heap.size ao cap _ s.data.toList _ rfl rfl (hown.below hb1 (Nat.le_refl _)) _ _ _ rfl rfl hsl (by simp; omega) (by omega) ?_; intro ao' cap' w3 hown1 hb2))
  go_ret
  exact ⟨ao', cap', by simp [encBytes], hown1, (hb.trans (hb1.mono hbs)).trans hb2⟩

set_option maxHeartbeats 400000 in
/-- wire.Ints. -/
theorem ints_any (ao : Option Addr) (n c : Nat) (l : List Int) (w : World) (h : SlV w ao n c 1 (l.map iv)) (hR : ∀ x ∈ l, InR x) (hT : (encL encInt l).length ≤ 1000000000000) :
    Calls Try.prog 24 #[.slice ao n c] w (GivesB w (encL encInt l)) := by
  have t1 : n ≤ maxLen := Nat.le_trans h.le h.top
  unfold maxLen at t1
  have l1 : Hid (l.length = n) := Lib.hid (by have := h.len; simpa using this)
  have HS := encL_start encInt l l1
  have HE : ∀ D, _ → _ := fun D => @encL_end _ encInt l n l1 D
  go_enter Try.func24, Try.ntmps24
  go_wp2_with (go_at_call 20; refine (int_any _ _ (by omega) (by omega)).mono ?_; rintro e w1 ⟨ao1, cap1, rfl, hown, hb⟩)
  go_loopw [3, 5, 11] (fun v _ i wr => ∃ (k : Nat) (ao2 : Option Addr) (cap2 : Nat) (D : List UInt8), k ≤ n ∧ i = .int .i64 k ∧ v = .slice ao2 D.length cap2 ∧ OwnB wr w.heap.size ao2 cap2 D ∧ Hid (D = encInt l.length ++ ((l.take k).map encInt).flatten) ∧ Below w.heap.size w wr) (fun _ _ i _ => n - (intOf i).toNat)
  case atStart => exact ⟨0, ao1, cap1, _, by omega, rfl, rfl, hown, HS, hb⟩
  case round =>
    clear hown hb HS
    obtain ⟨k, ao2, cap2, D, hk, rfl, rfl, hown, hD, hb⟩ := hrel
    have hbs := hb.size
    by_cases hlt : k < n
    · obtain ⟨a, rfl⟩ := h.has (by omega)
      have q1 : k < l.length := by rw [l1.out]; exact hlt
      have e1 := (h.below hb (Nat.le_refl _)).cell a rfl k _ (map_at q1)
      obtain ⟨x, hx⟩ : ∃ x, Hid (l[k] = x) := ⟨_, Lib.hid rfl⟩
      obtain ⟨hle, hN⟩ := encL_at q1 hD hx
      have hR1 : InR x := hR x (hx.out ▸ List.getElem_mem q1)
      unfold InR at hR1
      rw [hx.out] at e1
      have e1' : wr.cell? (a.add k) = some (.int .i64 x) := e1
      clear e1 q1 hx HE
      go_wp2_with (first | (go_at_call 20; refine (int_any _ _ hR1.1 hR1.2).mono ?_; rintro e w2 ⟨ao3, cap3, rfl, hown3, hb3⟩; have hbs3 := hb3.size) | (at_builtin; refine ap_bytes rfl (.tmp 15) (.tmp 17) rfl w.heap.size ao2 cap2 D (encInt x) _ rfl rfl (hown.below hb3 (Nat.le_refl _)) _ _ _ rfl rfl hown3.sl (by omega) (by omega) ?_; intro ao' cap' w3 hown4 hb4))
      go_roundw
      case rel => exact ⟨k + 1, ao', cap', D ++ encInt x, by omega, by go_num, by simp, hown4, hN, (hb.trans (hb3.mono hbs)).trans hb4⟩
      case measure => simp [intOf]; omega
    · obtain rfl : k = n := by omega
      have HD := Lib.hid (HE D hD)
      clear HE hD
      go_wp2
      go_ret
      rw [← HD.out]
      exact ⟨ao2, cap2, rfl, hown, hb⟩

set_option maxHeartbeats 400000 in
/-- dioramaref01.Ints. -/
theorem rints_any (ao : Option Addr) (n c : Nat) (l : List Int) (w : World) (h : SlV w ao n c 1 (l.map iv)) (hR : ∀ x ∈ l, InR x) (hT : (encL encInt l).length ≤ 1000000000000) :
    Calls Try.prog 25 #[.slice ao n c] w (GivesB w (encL encInt l)) := by
  have t1 : n ≤ maxLen := Nat.le_trans h.le h.top
  unfold maxLen at t1
  have l1 : Hid (l.length = n) := Lib.hid (by have := h.len; simpa using this)
  have HS := encL_start encInt l l1
  have HE : ∀ D, _ → _ := fun D => @encL_end _ encInt l n l1 D
  go_enter Try.func25, Try.ntmps25
  go_wp2_with (go_at_call 21; refine (rint_any _ _ (by omega) (by omega)).mono ?_; rintro e w1 ⟨ao1, cap1, rfl, hown, hb⟩)
  go_loopw [3, 4] (fun v i wr => ∃ (k : Nat) (ao2 : Option Addr) (cap2 : Nat) (D : List UInt8), k ≤ n ∧ i = .int .i64 k ∧ v = .slice ao2 D.length cap2 ∧ OwnB wr w.heap.size ao2 cap2 D ∧ Hid (D = encInt l.length ++ ((l.take k).map encInt).flatten) ∧ Below w.heap.size w wr) (fun _ i _ => n - (intOf i).toNat)
  case atStart => exact ⟨0, ao1, cap1, _, by omega, rfl, rfl, hown, HS, hb⟩
  case round =>
    clear hown hb HS
    obtain ⟨k, ao2, cap2, D, hk, rfl, rfl, hown, hD, hb⟩ := hrel
    have hbs := hb.size
    by_cases hlt : k < n
    · obtain ⟨a, rfl⟩ := h.has (by omega)
      have q1 : k < l.length := by rw [l1.out]; exact hlt
      have e1 := (h.below hb (Nat.le_refl _)).cell a rfl k _ (map_at q1)
      obtain ⟨x, hx⟩ : ∃ x, Hid (l[k] = x) := ⟨_, Lib.hid rfl⟩
      obtain ⟨hle, hN⟩ := encL_at q1 hD hx
      have hR1 : InR x := hR x (hx.out ▸ List.getElem_mem q1)
      unfold InR at hR1
      rw [hx.out] at e1
      have e1' : wr.cell? (a.add k) = some (.int .i64 x) := e1
      clear e1 q1 hx HE
      go_wp2_with (first | (go_at_call 21; refine (rint_any _ _ hR1.1 hR1.2).mono ?_; rintro e w2 ⟨ao3, cap3, rfl, hown3, hb3⟩; have hbs3 := hb3.size) | (at_builtin; refine ap_bytes rfl (.tmp 14) (.tmp 19) rfl w.heap.size ao2 cap2 D (encInt x) _ rfl rfl (hown.below hb3 (Nat.le_refl _)) _ _ _ rfl rfl hown3.sl (by omega) (by omega) ?_; intro ao' cap' w3 hown4 hb4))
      go_roundw
      case rel => exact ⟨k + 1, ao', cap', D ++ encInt x, by omega, by go_num, by simp, hown4, hN, (hb.trans (hb3.mono hbs)).trans hb4⟩
      case measure => simp [intOf]; omega
    · obtain rfl : k = n := by omega
      have HD := Lib.hid (HE D hD)
      clear HE hD
      go_wp2
      go_ret
      rw [← HD.out]
      exact ⟨ao2, cap2, rfl, hown, hb⟩

set_option maxHeartbeats 400000 in
/-- wire.Strings. -/
theorem strs_any (ao : Option Addr) (n c : Nat) (l : List ByteArray) (w : World) (h : SlV w ao n c 1 (l.map Value.string)) (hT : (encL encBytes l).length ≤ 1000000000000) :
    Calls Try.prog 26 #[.slice ao n c] w (GivesB w (encL encBytes l)) := by
  have t1 : n ≤ maxLen := Nat.le_trans h.le h.top
  unfold maxLen at t1
  have l1 : Hid (l.length = n) := Lib.hid (by have := h.len; simpa using this)
  have HS := encL_start encBytes l l1
  have HE : ∀ D, _ → _ := fun D => @encL_end _ encBytes l n l1 D
  go_enter Try.func26, Try.ntmps26
  go_wp2_with (go_at_call 20; refine (int_any _ _ (by omega) (by omega)).mono ?_; rintro e w1 ⟨ao1, cap1, rfl, hown, hb⟩)
  go_loopw [3, 5, 11] (fun v _ i wr => ∃ (k : Nat) (ao2 : Option Addr) (cap2 : Nat) (D : List UInt8), k ≤ n ∧ i = .int .i64 k ∧ v = .slice ao2 D.length cap2 ∧ OwnB wr w.heap.size ao2 cap2 D ∧ Hid (D = encInt l.length ++ ((l.take k).map encBytes).flatten) ∧ Below w.heap.size w wr) (fun _ _ i _ => n - (intOf i).toNat)
  case atStart => exact ⟨0, ao1, cap1, _, by omega, rfl, rfl, hown, HS, hb⟩
  case round =>
    clear hown hb HS
    obtain ⟨k, ao2, cap2, D, hk, rfl, rfl, hown, hD, hb⟩ := hrel
    have hbs := hb.size
    by_cases hlt : k < n
    · obtain ⟨a, rfl⟩ := h.has (by omega)
      have q1 : k < l.length := by rw [l1.out]; exact hlt
      have e1 := (h.below hb (Nat.le_refl _)).cell a rfl k _ (map_at q1)
      obtain ⟨x, hx⟩ : ∃ x, Hid (l[k] = x) := ⟨_, Lib.hid rfl⟩
      obtain ⟨hle, hN⟩ := encL_at q1 hD hx
      have hxs := encBytes_ge x
      rw [hx.out] at e1
      have e1' : wr.cell? (a.add k) = some (.string x) := e1
      clear e1 q1 hx HE
      go_wp2_with (first | (go_at_call 22; refine (bytes_any _ _ (by omega)).mono ?_; rintro e w2 ⟨ao3, cap3, rfl, hown3, hb3⟩; have hbs3 := hb3.size) | (at_builtin; refine ap_bytes rfl (.tmp 15) (.tmp 17) rfl w.heap.size ao2 cap2 D (encBytes x) _ rfl rfl (hown.below hb3 (Nat.le_refl _)) _ _ _ rfl rfl hown3.sl (by omega) (by omega) ?_; intro ao' cap' w3 hown4 hb4))
      go_roundw
      case rel => exact ⟨k + 1, ao', cap', D ++ encBytes x, by omega, by go_num, by simp, hown4, hN, (hb.trans (hb3.mono hbs)).trans hb4⟩
      case measure => simp [intOf]; omega
    · obtain rfl : k = n := by omega
      have HD := Lib.hid (HE D hD)
      clear HE hD
      go_wp2
      go_ret
      rw [← HD.out]
      exact ⟨ao2, cap2, rfl, hown, hb⟩

set_option maxHeartbeats 400000 in
/-- dioramaref01.Strings. -/
theorem rstrs_any (ao : Option Addr) (n c : Nat) (l : List ByteArray) (w : World) (h : SlV w ao n c 1 (l.map Value.string)) (hT : (encL encBytes l).length ≤ 1000000000000) :
    Calls Try.prog 27 #[.slice ao n c] w (GivesB w (encL encBytes l)) := by
  have t1 : n ≤ maxLen := Nat.le_trans h.le h.top
  unfold maxLen at t1
  have l1 : Hid (l.length = n) := Lib.hid (by have := h.len; simpa using this)
  have HS := encL_start encBytes l l1
  have HE : ∀ D, _ → _ := fun D => @encL_end _ encBytes l n l1 D
  go_enter Try.func27, Try.ntmps27
  go_wp2_with (go_at_call 21; refine (rint_any _ _ (by omega) (by omega)).mono ?_; rintro e w1 ⟨ao1, cap1, rfl, hown, hb⟩)
  go_loopw [3, 4] (fun v i wr => ∃ (k : Nat) (ao2 : Option Addr) (cap2 : Nat) (D : List UInt8), k ≤ n ∧ i = .int .i64 k ∧ v = .slice ao2 D.length cap2 ∧ OwnB wr w.heap.size ao2 cap2 D ∧ Hid (D = encInt l.length ++ ((l.take k).map encBytes).flatten) ∧ Below w.heap.size w wr) (fun _ i _ => n - (intOf i).toNat)
  case atStart => exact ⟨0, ao1, cap1, _, by omega, rfl, rfl, hown, HS, hb⟩
  case round =>
    clear hown hb HS
    obtain ⟨k, ao2, cap2, D, hk, rfl, rfl, hown, hD, hb⟩ := hrel
    have hbs := hb.size
    by_cases hlt : k < n
    · obtain ⟨a, rfl⟩ := h.has (by omega)
      have q1 : k < l.length := by rw [l1.out]; exact hlt
      have e1 := (h.below hb (Nat.le_refl _)).cell a rfl k _ (map_at q1)
      obtain ⟨x, hx⟩ : ∃ x, Hid (l[k] = x) := ⟨_, Lib.hid rfl⟩
      obtain ⟨hle, hN⟩ := encL_at q1 hD hx
      have hxs := encBytes_ge x
      rw [hx.out] at e1
      have e1' : wr.cell? (a.add k) = some (.string x) := e1
      clear e1 q1 hx HE
      go_wp2_with (first | (go_at_call 23; refine (rbytes_any _ _ (by omega)).mono ?_; rintro e w2 ⟨ao3, cap3, rfl, hown3, hb3⟩; have hbs3 := hb3.size) | (at_builtin; refine ap_bytes rfl (.tmp 14) (.tmp 19) rfl w.heap.size ao2 cap2 D (encBytes x) _ rfl rfl (hown.below hb3 (Nat.le_refl _)) _ _ _ rfl rfl hown3.sl (by omega) (by omega) ?_; intro ao' cap' w3 hown4 hb4))
      go_roundw
      case rel => exact ⟨k + 1, ao', cap', D ++ encBytes x, by omega, by go_num, by simp, hown4, hN, (hb.trans (hb3.mono hbs)).trans hb4⟩
      case measure => simp [intOf]; omega
    · obtain rfl : k = n := by omega
      have HD := Lib.hid (HE D hD)
      clear HE hD
      go_wp2
      go_ret
      rw [← HD.out]
      exact ⟨ao2, cap2, rfl, hown, hb⟩

end Go.Proofs.Ytcpemgfpiapaaaa
