/- The plain encodings of layer 1 (wire), on lists of bytes, and what they give; no program in sight. -/
namespace Go.Proofs.Ytcpemgfpiapaaaa

/-- The least number of base-256 digits of m (m below 256^8). -/
def nd (m : Nat) : Nat :=
  if m < 1 then 0 else if m < 256 then 1 else if m < 65536 then 2 else if m < 16777216 then 3 else if m < 4294967296 then 4
  else if m < 1099511627776 then 5 else if m < 281474976710656 then 6 else if m < 72057594037927936 then 7 else 8

/-- The k lowest base-256 digits of m, most significant first. -/
def be (m : Nat) : Nat → List UInt8
  | 0 => []
  | k + 1 => UInt8.ofNat (m / 256 ^ k % 256) :: be m k

/-- The flip: bytes of a negative number's encoding are subtracted from 255. -/
def fx (f : Nat) (c : UInt8) : UInt8 := if f = 255 then 255 - c else c

/-- -1 - n for a negative n, else n. -/
def mag (n : Int) : Nat := if n < 0 then (-1 - n).toNat else n.toNat

/-- The flip of a number: 255 for a negative one, else 0. -/
def fl (n : Int) : Nat := if n < 0 then 255 else 0

/-- The encoding by magnitude and flip. -/
def enc2 (m f : Nat) : List UInt8 := fx f (UInt8.ofNat (128 + nd m)) :: (be m (nd m)).map (fx f)

def encInt (n : Int) : List UInt8 := enc2 (mag n) (fl n)

theorem nd_le (m : Nat) : nd m ≤ 8 := by unfold nd; (repeat' split) <;> omega

theorem nd_eq {m j : Nat} (h8 : j ≤ 8) (h1 : m < 256 ^ j) (h2 : j = 0 ∨ 256 ^ (j - 1) ≤ m) : nd m = j := by
  have h : j = 0 ∨ j = 1 ∨ j = 2 ∨ j = 3 ∨ j = 4 ∨ j = 5 ∨ j = 6 ∨ j = 7 ∨ j = 8 := by omega
  rcases h with rfl | rfl | rfl | rfl | rfl | rfl | rfl | rfl | rfl <;> unfold nd <;> simp at h1 h2 <;> repeat (first | rw [if_pos (by omega)] | rw [if_neg (by omega)])

theorem nd_lt {m : Nat} (h : m < 256 ^ 8) : m < 256 ^ nd m := by
  unfold nd; (repeat' split) <;> first | omega | (simp; omega)

theorem nd_ge {m : Nat} (h : 0 < nd m) : 256 ^ (nd m - 1) ≤ m := by
  revert h; unfold nd; (repeat' split) <;> first | omega | (simp; omega)

theorem pow_cast (i : Nat) : ((2 : Int) ^ (8 * i)) = ((256 ^ i : Nat) : Int) := by
  rw [Int.pow_mul]; simp

theorem shr_pos (m i : Nat) : ((0 : Int) < (m : Int) / 2 ^ (8 * i)) ↔ 256 ^ i ≤ m := by
  rw [pow_cast, ← Int.natCast_ediv]
  have h0 : 0 < 256 ^ i := Nat.pow_pos (by decide)
  constructor
  · intro h
    have h' : 0 < m / 256 ^ i := by omega
    exact (Nat.div_pos_iff.1 h').2
  · intro h
    have : 0 < m / 256 ^ i := Nat.div_pos h h0
    omega

@[simp] theorem be_length (m k : Nat) : (be m k).length = k := by
  induction k with
  | zero => rfl
  | succ k ih => simp [be, ih]

theorem be_snoc_fx (m f q : Nat) : (be m (q + 1)).map (fx f) = fx f (UInt8.ofNat (m / 256 ^ q % 256)) :: (be m q).map (fx f) := rfl

theorem mag_neg {n : Int} (h : n < 0) : n = -1 - (mag n : Int) ∧ fl n = 255 := by unfold mag fl; rw [if_pos h, if_pos h]; omega
theorem mag_nonneg {n : Int} (h : ¬ n < 0) : n = (mag n : Int) ∧ fl n = 0 := by unfold mag fl; rw [if_neg h, if_neg h]; omega
theorem fl_or (n : Int) : fl n = 0 ∨ fl n = 255 := by unfold fl; split <;> simp
theorem mag_lt {n : Int} (h0 : -9223372036854775808 ≤ n) (h1 : n ≤ 9223372036854775807) : mag n < 9223372036854775808 := by unfold mag; split <;> omega

theorem fx_toNat (f : Nat) (hf : f = 0 ∨ f = 255) (c : UInt8) : (fx f c).toNat = if f = 255 then 255 - c.toNat else c.toNat := by
  have hc := c.toNat_lt
  rcases hf with rfl | rfl <;> simp [fx]
  rw [UInt8.toNat_sub_of_le _ _ (by rw [UInt8.le_iff_toNat_le]; simp; omega)]; simp

theorem fx_fx (f : Nat) (c : UInt8) : fx f (fx f c) = c := by
  unfold fx; split
  · have hc := c.toNat_lt
    have h1 : (255 - c).toNat = 255 - c.toNat := by rw [UInt8.toNat_sub_of_le _ _ (by rw [UInt8.le_iff_toNat_le]; simp; omega)]; simp
    have h2 : (255 - (255 - c)).toNat = 255 - (255 - c).toNat := by rw [UInt8.toNat_sub_of_le _ _ (by rw [UInt8.le_iff_toNat_le]; simp; omega)]; simp
    exact UInt8.toNat_inj.1 (by omega)
  · rfl

/-- The j lowest digits, least significant first. -/
def le (m : Nat) : Nat → List UInt8
  | 0 => []
  | j + 1 => le m j ++ [UInt8.ofNat (m / 256 ^ j % 256)]

@[simp] theorem le_length (m k : Nat) : (le m k).length = k := by
  induction k with
  | zero => rfl
  | succ k ih => simp [le, ih]

theorem le_get (m k i : Nat) (h : i < k) : (le m k)[i]? = some (UInt8.ofNat (m / 256 ^ i % 256)) := by
  induction k with
  | zero => omega
  | succ k ih =>
    by_cases e : i < k
    · rw [le, List.getElem?_append_left (by simpa using e), ih e]
    · obtain rfl : i = k := by omega
      rw [le, List.getElem?_append_right (by simp)]; simp

theorem pow_small {m j : Nat} (hm : m < 9223372036854775808) (h : 256 ^ j ≤ m) : j < 8 := by
  apply Nat.lt_of_not_le
  intro h8
  have : 256 ^ 8 ≤ 256 ^ j := Nat.pow_le_pow_right (by decide) h8
  simp at this; omega

theorem div_pow_succ (m j : Nat) : m / 256 ^ j / 256 = m / 256 ^ (j + 1) := by rw [Nat.div_div_eq_div_mul, Nat.pow_succ]
theorem div_pow_zero {m j : Nat} (h : m / 256 ^ j = 0) : m < 256 ^ j := by
  rcases Nat.div_eq_zero_iff.1 h with h | h
  · have : 0 < 256 ^ j := Nat.pow_pos (by decide)
    omega
  · exact h
theorem div_pow_pos {m j : Nat} (h : 0 < m / 256 ^ j) : 256 ^ j ≤ m := (Nat.div_pos_iff.1 h).2

theorem enc2_length (m f : Nat) : (enc2 m f).length = nd m + 1 := by simp [enc2]

end Go.Proofs.Ytcpemgfpiapaaaa
