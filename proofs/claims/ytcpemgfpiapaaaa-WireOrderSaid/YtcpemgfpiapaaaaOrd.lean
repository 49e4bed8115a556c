/- The order of integers is that of their encodings, byte by byte; no program in sight. -/
import Derived.Test.YtcpemgfpiapaaaaDec
import GoSem.Op.String
namespace Go.Proofs.Ytcpemgfpiapaaaa
open Go.Op

theorem bl_lt {a b : UInt8} (x y : List UInt8) (h : a.toNat < b.toNat) : bytesLess (a :: x) (b :: y) = true := by
  have : a < b := by rw [UInt8.lt_iff_toNat_lt]; exact h
  simp [bytesLess, this]

theorem bl_gt {a b : UInt8} (x y : List UInt8) (h : b.toNat < a.toNat) : bytesLess (a :: x) (b :: y) = false := by
  have h1 : ¬ a < b := by rw [UInt8.lt_iff_toNat_lt]; omega
  have h2 : ¬ a = b := by intro e; subst e; omega
  simp [bytesLess, h1, h2]

theorem bl_eq {a b : UInt8} (x y : List UInt8) (h : a.toNat = b.toNat) : bytesLess (a :: x) (b :: y) = bytesLess x y := by
  have e : a = b := UInt8.toNat_inj.1 h
  subst e
  have h1 : ¬ a < a := by rw [UInt8.lt_iff_toNat_lt]; omega
  simp [bytesLess, h1]

/-- The order of numbers of k digits each, flipped or not. -/
theorem bl_be (f : Nat) (hf : f = 0 ∨ f = 255) (k : Nat) : ∀ (m n : Nat), m < 256 ^ k → n < 256 ^ k → bytesLess ((be m k).map (fx f)) ((be n k).map (fx f)) = if f = 255 then decide (n < m) else decide (m < n) := by
  induction k with
  | zero =>
    intro m n hm hn
    simp at hm hn
    subst hm hn
    simp [be, bytesLess]
  | succ k ih =>
    intro m n hm hn
    have h0 : 0 < 256 ^ k := Nat.pow_pos (by decide)
    have im := ih (m % 256 ^ k) (n % 256 ^ k) (Nat.mod_lt _ h0) (Nat.mod_lt _ h0)
    rw [be_mod m k k (Nat.le_refl _), be_mod n k k (Nat.le_refl _)] at im
    have em := Nat.div_add_mod m (256 ^ k)
    have en := Nat.div_add_mod n (256 ^ k)
    have dm : m / 256 ^ k < 256 := by rw [Nat.div_lt_iff_lt_mul h0, Nat.mul_comm]; rw [Nat.pow_succ] at hm; exact hm
    have dn : n / 256 ^ k < 256 := by rw [Nat.div_lt_iff_lt_mul h0, Nat.mul_comm]; rw [Nat.pow_succ] at hn; exact hn
    have lm := Nat.mod_lt m h0
    have ln := Nat.mod_lt n h0
    simp only [be, List.map_cons]
    have hcm := fx_toNat f hf (UInt8.ofNat (m / 256 ^ k % 256))
    have hcn := fx_toNat f hf (UInt8.ofNat (n / 256 ^ k % 256))
    have vm : (UInt8.ofNat (m / 256 ^ k % 256)).toNat = m / 256 ^ k := by simp; omega
    have vn : (UInt8.ofNat (n / 256 ^ k % 256)).toNat = n / 256 ^ k := by simp; omega
    rw [vm] at hcm
    rw [vn] at hcn
    generalize m / 256 ^ k = a at *
    generalize n / 256 ^ k = b at *
    generalize m % 256 ^ k = r at *
    generalize n % 256 ^ k = s at *
    generalize 256 ^ k = P at *
    have key : a < b → m < n := by
      intro h
      have : P * (a + 1) ≤ P * b := Nat.mul_le_mul_left _ h
      rw [Nat.mul_add, Nat.mul_one] at this
      omega
    have key' : b < a → n < m := by
      intro h
      have : P * (b + 1) ≤ P * a := Nat.mul_le_mul_left _ h
      rw [Nat.mul_add, Nat.mul_one] at this
      omega
    have hcmn : a = b → (fx f (UInt8.ofNat (a % 256))).toNat = (fx f (UInt8.ofNat (b % 256))).toNat := fun e => by rw [e]
    rcases Nat.lt_trichotomy a b with h | h | h
    · have hk := key h
      rcases hf with rfl | rfl
      · rw [bl_lt _ _ (by simp at hcm hcn; omega)]; simp [hk]
      · rw [bl_gt _ _ (by simp at hcm hcn; omega)]; simp; omega
    · rw [bl_eq _ _ (hcmn h), im]
      subst h
      have e1 : (r < s) ↔ (m < n) := by omega
      have e2 : (s < r) ↔ (n < m) := by omega
      simp [e1, e2]
    · have hk := key' h
      rcases hf with rfl | rfl
      · rw [bl_gt _ _ (by simp at hcm hcn; omega)]; simp; omega
      · rw [bl_lt _ _ (by simp at hcm hcn; omega)]; simp [hk]

theorem nd_mono {m n : Nat} (hn : n < 256 ^ 8) (h : m ≤ n) : nd m ≤ nd n := by
  apply Nat.le_of_not_lt
  intro hlt
  have h1 := nd_ge (m := m) (by omega)
  have h2 := nd_lt hn
  have h3 : 256 ^ nd n ≤ 256 ^ (nd m - 1) := Nat.pow_le_pow_right (by decide) (by omega)
  omega

theorem head_val (f m : Nat) (hf : f = 0 ∨ f = 255) : (fx f (UInt8.ofNat (128 + nd m))).toNat = if f = 255 then 127 - nd m else 128 + nd m := by
  rw [fx_toNat f hf]
  have := nd_le m
  have e : (UInt8.ofNat (128 + nd m)).toNat = 128 + nd m := by simp; omega
  rw [e]
  split <;> omega

theorem enc2_less (f m n : Nat) (hf : f = 0 ∨ f = 255) (hm : m < 256 ^ 8) (hn : n < 256 ^ 8) : bytesLess (enc2 m f) (enc2 n f) = if f = 255 then decide (n < m) else decide (m < n) := by
  unfold enc2
  have hcm := head_val f m hf
  have hcn := head_val f n hf
  have bm := nd_le m
  have bn := nd_le n
  rcases Nat.lt_trichotomy (nd m) (nd n) with h | h | h
  · have hk : m < n := by apply Nat.lt_of_not_le; intro hle; have := nd_mono hm hle; omega
    rcases hf with rfl | rfl
    · rw [if_neg (by decide)] at hcm hcn; rw [bl_lt _ _ (by omega)]; simp [hk]
    · rw [if_pos rfl] at hcm hcn; rw [bl_gt _ _ (by omega)]; simp; omega
  · rw [bl_eq _ _ (by rw [hcm, hcn, h]), h, bl_be f hf _ m n (by rw [← h]; exact nd_lt hm) (nd_lt hn)]
  · have hk : n < m := by apply Nat.lt_of_not_le; intro hle; have := nd_mono hn hle; omega
    rcases hf with rfl | rfl
    · rw [if_neg (by decide)] at hcm hcn; rw [bl_gt _ _ (by omega)]; simp; omega
    · rw [if_pos rfl] at hcm hcn; rw [bl_lt _ _ (by omega)]; simp [hk]

theorem mag_8 {n : Int} (h : InR n) : mag n < 256 ^ 8 := by
  have := mag_lt h.1 h.2
  have e : (256 : Nat) ^ 8 = 18446744073709551616 := by decide
  omega

/-- The order. -/
theorem enc_less {m n : Int} (hm : InR m) (hn : InR n) : bytesLess (encInt m) (encInt n) = decide (m < n) := by
  unfold encInt
  have bm := nd_le (mag m)
  have bn := nd_le (mag n)
  by_cases h1 : m < 0 <;> by_cases h2 : n < 0
  · obtain ⟨e1, f1⟩ := mag_neg h1
    obtain ⟨e2, f2⟩ := mag_neg h2
    rw [f1, f2, enc2_less 255 _ _ (.inr rfl) (mag_8 hm) (mag_8 hn)]
    simp; omega
  · obtain ⟨e1, f1⟩ := mag_neg h1
    obtain ⟨e2, f2⟩ := mag_nonneg h2
    rw [f1, f2]
    unfold enc2
    rw [bl_lt _ _ (by rw [head_val _ _ (.inr rfl), head_val _ _ (.inl rfl)]; simp; omega)]
    simp; omega
  · obtain ⟨e1, f1⟩ := mag_nonneg h1
    obtain ⟨e2, f2⟩ := mag_neg h2
    rw [f1, f2]
    unfold enc2
    rw [bl_gt _ _ (by rw [head_val _ _ (.inr rfl), head_val _ _ (.inl rfl)]; simp; omega)]
    simp; omega
  · obtain ⟨e1, f1⟩ := mag_nonneg h1
    obtain ⟨e2, f2⟩ := mag_nonneg h2
    rw [f1, f2, enc2_less 0 _ _ (.inl rfl) (mag_8 hm) (mag_8 hn)]
    simp; omega

theorem enc_inj {m n : Int} (hm : InR m) (hn : InR n) (h : encInt m = encInt n) : m = n := by
  have a := dec_enc hm []
  have b := dec_enc hn []
  rw [h] at a
  rw [a] at b
  exact (Prod.mk.inj b).1

/-- Neither is a proper part at the beginning of the other. -/
theorem enc_take {m n : Int} (hm : InR m) (hn : InR n) (h : (encInt m).take (min (encInt m).length (encInt n).length) = (encInt n).take (min (encInt m).length (encInt n).length)) : m = n := by
  rcases Nat.le_total (encInt m).length (encInt n).length with hl | hl
  · rw [Nat.min_eq_left hl, List.take_length] at h
    have e : encInt n = encInt m ++ (encInt n).drop (encInt m).length := by
      conv => lhs; rw [← List.take_append_drop (encInt m).length (encInt n)]
      rw [← h]
    have a := dec_enc hm ((encInt n).drop (encInt m).length)
    have b := dec_enc hn []
    rw [← e] at a
    rw [List.append_nil, a] at b
    exact (Prod.mk.inj b).1
  · rw [Nat.min_eq_right hl, List.take_length] at h
    have e : encInt m = encInt n ++ (encInt m).drop (encInt n).length := by
      conv => lhs; rw [← List.take_append_drop (encInt n).length (encInt m)]
      rw [h]
    have a := dec_enc hn ((encInt m).drop (encInt n).length)
    have b := dec_enc hm []
    rw [← e] at a
    rw [List.append_nil, a] at b
    exact (Prod.mk.inj b).1.symm

end Go.Proofs.Ytcpemgfpiapaaaa
