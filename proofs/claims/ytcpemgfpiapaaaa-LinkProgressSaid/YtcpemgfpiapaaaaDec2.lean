/- The plain decoders of lengths, of strings and of lists; no program in sight. -/
import Derived.Test.YtcpemgfpiapaaaaDec
namespace Go.Proofs.Ytcpemgfpiapaaaa

theorem dec_err {l : List UInt8} {x : Int} {k : Nat} {e : Int} (h : decInt l = (x, k, e)) : (e = 0 ∨ e = 2 ∨ e = 3) ∧ (e ≠ 0 → x = 0 ∧ k = 0) := by
  unfold decInt at h
  split at h
  · simp only [Prod.mk.injEq] at h; omega
  · split at h
    · simp only [Prod.mk.injEq] at h; omega
    · split at h
      · simp only [Prod.mk.injEq] at h; omega
      · dsimp only at h
        split at h <;> simp only [Prod.mk.injEq] at h <;> omega

/-- A length: the number of elements, of at least the given size each, the bytes that it takes, the error. -/
def decCount (size : Nat) (l : List UInt8) : Nat × Nat × Int :=
  let r := decInt l
  if r.2.2 ≠ 0 then (0, 0, r.2.2) else if r.1 < 0 then (0, 0, 2) else if l.length - r.2.1 < r.1.toNat * size then (0, 0, 3) else (r.1.toNat, r.2.1, 0)

theorem count_good {size : Nat} {l : List UInt8} {n k : Nat} (h : decCount size l = (n, k, 0)) : decInt l = ((n : Int), k, 0) ∧ n * size ≤ l.length - k ∧ k ≤ l.length := by
  unfold decCount at h
  dsimp only at h
  by_cases h1 : (decInt l).2.2 = 0
  · rw [if_neg (by simpa using h1)] at h
    by_cases h2 : (decInt l).1 < 0
    · rw [if_pos h2] at h; simp at h
    · rw [if_neg h2] at h
      by_cases h3 : l.length - (decInt l).2.1 < (decInt l).1.toNat * size
      · rw [if_pos h3] at h; simp at h
      · rw [if_neg h3] at h
        simp only [Prod.mk.injEq, and_true] at h
        obtain ⟨rfl, rfl⟩ := h
        have e : decInt l = (((decInt l).1.toNat : Int), (decInt l).2.1, 0) := by
          rw [Int.toNat_of_nonneg (by omega), ← h1]
        exact ⟨e, by omega, (dec_canon e).2.1⟩
  · rw [if_pos h1] at h
    simp only [Prod.mk.injEq] at h
    exact (h1 h.2.2).elim

theorem count_bad {size : Nat} {l : List UInt8} {n k : Nat} {e : Int} (h : decCount size l = (n, k, e)) (he : e ≠ 0) : n = 0 ∧ k = 0 ∧ (e = 2 ∨ e = 3) ∧ ∃ x j f, decInt l = (x, j, f) ∧ ((f ≠ 0 ∧ f = e) ∨ (f = 0 ∧ x < 0 ∧ e = 2) ∨ (f = 0 ∧ 0 ≤ x ∧ j ≤ l.length ∧ l.length - j < x.toNat * size ∧ e = 3)) := by
  have hd := dec_err (l := l) (x := (decInt l).1) (k := (decInt l).2.1) (e := (decInt l).2.2) rfl
  unfold decCount at h
  dsimp only at h
  by_cases h1 : (decInt l).2.2 = 0
  · rw [if_neg (by simpa using h1)] at h
    by_cases h2 : (decInt l).1 < 0
    · rw [if_pos h2] at h
      simp only [Prod.mk.injEq] at h
      exact ⟨h.1.symm, h.2.1.symm, .inl h.2.2.symm, _, _, _, rfl, .inr (.inl ⟨h1, h2, h.2.2.symm⟩)⟩
    · rw [if_neg h2] at h
      by_cases h3 : l.length - (decInt l).2.1 < (decInt l).1.toNat * size
      · rw [if_pos h3] at h
        simp only [Prod.mk.injEq] at h
        have e : decInt l = ((decInt l).1, (decInt l).2.1, 0) := by rw [← h1]
        exact ⟨h.1.symm, h.2.1.symm, .inr h.2.2.symm, _, _, _, rfl, .inr (.inr ⟨h1, by omega, (dec_canon e).2.1, h3, h.2.2.symm⟩)⟩
      · rw [if_neg h3] at h
        simp only [Prod.mk.injEq] at h
        exact (he h.2.2.symm).elim
  · rw [if_pos h1] at h
    simp only [Prod.mk.injEq] at h
    exact ⟨h.1.symm, h.2.1.symm, by omega, _, _, _, rfl, .inl ⟨h1, h.2.2⟩⟩

/-- The decoder of a string. -/
def decBytes (l : List UInt8) : ByteArray × Nat × Int :=
  let r := decCount 1 l
  if r.2.2 ≠ 0 then (ByteArray.empty, 0, r.2.2) else (⟨((l.drop r.2.1).take r.1).toArray⟩, r.2.1 + r.1, 0)

/-- Elements, one after the other. -/
def decN {α : Type} (dec : List UInt8 → α × Nat × Int) : Nat → List UInt8 → List α × Nat × Int
  | 0, _ => ([], 0, 0)
  | n + 1, l =>
    if (dec l).2.2 ≠ 0 then ([], 0, (dec l).2.2)
    else if (decN dec n (l.drop (dec l).2.1)).2.2 ≠ 0 then ([], 0, (decN dec n (l.drop (dec l).2.1)).2.2)
    else ((dec l).1 :: (decN dec n (l.drop (dec l).2.1)).1, (dec l).2.1 + (decN dec n (l.drop (dec l).2.1)).2.1, 0)

/-- What has been read, and what is still to be read. -/
def joinN {α : Type} (xs : List α) (at0 : Nat) (r : List α × Nat × Int) : List α × Nat × Int :=
  if r.2.2 ≠ 0 then ([], 0, r.2.2) else (xs ++ r.1, at0 + r.2.1, 0)

/-- The decoder of a list. -/
def decList {α : Type} (size : Nat) (dec : List UInt8 → α × Nat × Int) (l : List UInt8) : List α × Nat × Int :=
  let r := decCount size l
  if r.2.2 ≠ 0 then ([], 0, r.2.2) else joinN [] r.2.1 (decN dec r.1 (l.drop r.2.1))

theorem join_step {α : Type} (dec : List UInt8 → α × Nat × Int) (xs : List α) (at0 n : Nat) (l : List UInt8) (x : α) (k : Nat) (h : dec l = (x, k, 0)) :
    joinN xs at0 (decN dec (n + 1) l) = joinN (xs ++ [x]) (at0 + k) (decN dec n (l.drop k)) := by
  unfold joinN
  rw [decN]
  simp only [h]
  by_cases c : (decN dec n (l.drop k)).2.2 = 0
  · simp [c, Nat.add_assoc]
  · simp [c]

theorem join_fail {α : Type} (dec : List UInt8 → α × Nat × Int) (xs : List α) (at0 n : Nat) (l : List UInt8) (x : α) (k : Nat) (e : Int) (he : e ≠ 0) (h : dec l = (x, k, e)) :
    joinN xs at0 (decN dec (n + 1) l) = ([], 0, e) := by
  unfold joinN
  rw [decN]
  simp [h, he]

theorem join_end {α : Type} (dec : List UInt8 → α × Nat × Int) (xs : List α) (at0 : Nat) (l : List UInt8) : joinN xs at0 (decN dec 0 l) = (xs, at0, 0) := by
  simp [joinN, decN]

/-- A digest. -/
def decDig (l : List UInt8) : List UInt8 × Nat × Int := (l.take 16, 16, 0)

def decInts (l : List UInt8) : List Int × Nat × Int := decList 1 decInt l
def decStrs (l : List UInt8) : List ByteArray × Nat × Int := decList 1 decBytes l
def decDigs (l : List UInt8) : List (List UInt8) × Nat × Int := decList 16 decDig l

attribute [irreducible] decCount decBytes decN joinN decList

end Go.Proofs.Ytcpemgfpiapaaaa
