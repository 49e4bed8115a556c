/- The plain decoder of integers, and what it gives; no program in sight. -/
import Derived.Test.YtcpemgfpiapaaaaSpec
namespace Go.Proofs.Ytcpemgfpiapaaaa

/-- The number that digits make, most significant first. -/
def val (ds : List UInt8) : Nat := ds.foldl (fun m d => 256 * m + d.toNat) 0

theorem val_nil : val [] = 0 := rfl

theorem val_snoc (ds : List UInt8) (d : UInt8) : val (ds ++ [d]) = 256 * val ds + d.toNat := by simp [val]

theorem foldl_val (ds : List UInt8) (m : Nat) : ds.foldl (fun m d => 256 * m + d.toNat) m = m * 256 ^ ds.length + val ds := by
  induction ds generalizing m with
  | nil => simp [val]
  | cons d ds ih =>
    have h0 := ih (256 * m + d.toNat)
    have h1 := ih (256 * 0 + d.toNat)
    simp only [List.foldl_cons, List.length_cons, val] at *
    rw [h0, h1, Nat.pow_succ, Nat.add_mul]
    simp only [Nat.mul_zero, Nat.zero_add]
    rw [Nat.add_assoc]
    congr 1
    rw [Nat.mul_comm 256 m, Nat.mul_assoc, Nat.mul_comm 256]

theorem val_cons (d : UInt8) (ds : List UInt8) : val (d :: ds) = d.toNat * 256 ^ ds.length + val ds := by
  have := foldl_val ds d.toNat
  simpa [val] using this

theorem val_take_le (ds : List UInt8) (j : Nat) : val (ds.take j) ≤ val ds := by
  have h : val ds = val (ds.take j ++ ds.drop j) := by rw [List.take_append_drop]
  have h2 : val (ds.take j ++ ds.drop j) = val (ds.take j) * 256 ^ (ds.drop j).length + val (ds.drop j) := by
    have := foldl_val (ds.drop j) (val (ds.take j))
    rw [← this]
    exact List.foldl_append
  have hp : 0 < 256 ^ (ds.drop j).length := Nat.pow_pos (by decide)
  rw [h, h2]
  have : val (ds.take j) * 1 ≤ val (ds.take j) * 256 ^ (ds.drop j).length := Nat.mul_le_mul_left _ hp
  omega

theorem val_lt (ds : List UInt8) : val ds < 256 ^ ds.length := by
  induction ds with
  | nil => simp [val]
  | cons d ds ih =>
    rw [val_cons, List.length_cons, Nat.pow_succ]
    have hd := d.toNat_lt
    have : d.toNat * 256 ^ ds.length ≤ 255 * 256 ^ ds.length := Nat.mul_le_mul_right _ (by omega)
    omega

theorem be_mod (m k j : Nat) (h : k ≤ j) : be (m % 256 ^ j) k = be m k := by
  induction k with
  | zero => rfl
  | succ k ih =>
    rw [be, be, ih (by omega)]
    congr 2
    have e : 256 ^ j = 256 ^ k * 256 ^ (j - k) := by rw [← Nat.pow_add]; congr 1; omega
    have e2 : 256 ^ (j - k) = 256 * 256 ^ (j - k - 1) := by rw [← Nat.pow_succ']; congr 1; omega
    rw [e, Nat.mod_mul_right_div_self, e2, Nat.mod_mul_right_mod]

theorem be_val (ds : List UInt8) : be (val ds) ds.length = ds := by
  induction ds with
  | nil => rfl
  | cons d ds ih =>
    have hl := val_lt ds
    have hp : 0 < 256 ^ ds.length := Nat.pow_pos (by decide)
    rw [val_cons, List.length_cons, be]
    congr 1
    · rw [Nat.add_comm, Nat.add_mul_div_right _ _ hp, Nat.div_eq_of_lt hl, Nat.zero_add, Nat.mod_eq_of_lt d.toNat_lt]
      simp
    · rw [← be_mod _ _ _ (Nat.le_refl _), Nat.add_comm, Nat.add_mul_mod_self_right, Nat.mod_eq_of_lt hl, ih]

theorem val_be (m k : Nat) (h : m < 256 ^ k) : val (be m k) = m := by
  induction k generalizing m with
  | zero => simp at h; subst h; rfl
  | succ k ih =>
    have hp : 0 < 256 ^ k := Nat.pow_pos (by decide)
    rw [be, val_cons, be_length, ← be_mod m k k (Nat.le_refl _), ih _ (Nat.mod_lt _ hp)]
    have : m / 256 ^ k < 256 := by rw [Nat.div_lt_iff_lt_mul hp, Nat.mul_comm]; rw [Nat.pow_succ] at h; exact h
    rw [Nat.mod_eq_of_lt this]
    simp only [UInt8.toNat_ofNat']
    rw [Nat.mod_eq_of_lt (by simpa using this), Nat.mul_comm]
    exact Nat.div_add_mod m (256 ^ k)

/-- The flip that a first byte tells. -/
def hF (h : UInt8) : Nat := if h.toNat < 128 then 255 else 0
/-- The number of digits that a first byte tells. -/
def hK (h : UInt8) : Nat := if h.toNat < 128 then 127 - h.toNat else h.toNat - 128

/-- The decoder of an integer: the integer, the bytes that it takes, the error (2: ErrForm, 3: ErrMore). -/
def decInt (l : List UInt8) : Int × Nat × Int :=
  match l with
  | [] => (0, 0, 3)
  | h :: t =>
    if 8 < hK h then (0, 0, 2)
    else if t.length < hK h then (0, 0, 3)
    else
      let m := val ((t.take (hK h)).map (fx (hF h)))
      if nd m = hK h ∧ m < 9223372036854775808 then ((if hF h = 255 then -1 - (m : Int) else (m : Int)), hK h + 1, 0) else (0, 0, 2)

/-- An int. -/
def InR (n : Int) : Prop := -9223372036854775808 ≤ n ∧ n ≤ 9223372036854775807

theorem encInt_len (n : Int) : 1 ≤ (encInt n).length ∧ (encInt n).length ≤ 9 := by
  unfold encInt; rw [enc2_length]; have := nd_le (mag n); omega

theorem hF_or (h : UInt8) : hF h = 0 ∨ hF h = 255 := by unfold hF; split <;> simp

theorem head_of (f k : Nat) (hf : f = 0 ∨ f = 255) (hk : k ≤ 8) : hF (fx f (UInt8.ofNat (128 + k))) = f ∧ hK (fx f (UInt8.ofNat (128 + k))) = k := by
  have e : (fx f (UInt8.ofNat (128 + k))).toNat = if f = 255 then 127 - k else 128 + k := by
    rw [fx_toNat f hf]
    have : (UInt8.ofNat (128 + k)).toNat = 128 + k := by simp; omega
    rw [this]
    split <;> omega
  unfold hF hK
  rw [e]
  rcases hf with rfl | rfl
  · simp only [show ¬ ((0 : Nat) = 255) from by decide, if_false]
    rw [if_neg (by omega), if_neg (by omega)]; omega
  · simp only [if_true]
    rw [if_pos (by omega), if_pos (by omega)]; omega

theorem head_back (h : UInt8) (h8 : hK h ≤ 8) : fx (hF h) (UInt8.ofNat (128 + hK h)) = h := by
  have hl := h.toNat_lt
  apply UInt8.toNat_inj.1
  rw [fx_toNat _ (hF_or h)]
  have : (UInt8.ofNat (128 + hK h)).toNat = 128 + hK h := by
    rw [UInt8.toNat_ofNat']; exact Nat.mod_eq_of_lt (by omega)
  rw [this]
  unfold hF hK at *
  by_cases c : h.toNat < 128
  · simp only [if_pos c, if_true] at h8 ⊢; omega
  · simp only [if_neg c, show ¬ ((0 : Nat) = 255) from by decide, if_false] at h8 ⊢; omega

theorem map_fx_fx (f : Nat) (l : List UInt8) : (l.map (fx f)).map (fx f) = l := by
  rw [List.map_map]
  conv => rhs; rw [← List.map_id l]
  apply List.map_congr_left
  intro c _
  simp [fx_fx]

theorem num_back (n : Int) : (if fl n = 255 then -1 - (mag n : Int) else (mag n : Int)) = n := by
  by_cases h : n < 0
  · obtain ⟨h1, h2⟩ := mag_neg h
    rw [if_pos h2]; omega
  · obtain ⟨h1, h2⟩ := mag_nonneg h
    rw [if_neg (by rw [h2]; decide)]; omega

/-- Decoding an encoding, whatever follows it. -/
theorem dec_enc {n : Int} (hn : InR n) (t : List UInt8) : decInt (encInt n ++ t) = (n, (encInt n).length, 0) := by
  have hm := mag_lt hn.1 hn.2
  have hnd := nd_le (mag n)
  obtain ⟨h1, h2⟩ := head_of (fl n) (nd (mag n)) (fl_or n) hnd
  have hlen : (encInt n).length = nd (mag n) + 1 := enc2_length _ _
  rw [hlen]
  unfold encInt enc2
  simp only [List.cons_append, decInt, h1, h2]
  rw [if_neg (by omega), if_neg (by simp)]
  have ht : (((be (mag n) (nd (mag n))).map (fx (fl n)) ++ t).take (nd (mag n))) = (be (mag n) (nd (mag n))).map (fx (fl n)) := by
    rw [List.take_append_of_le_length (by simp)]; exact List.take_of_length_le (by simp)
  rw [ht, map_fx_fx, val_be _ _ (nd_lt (by simp; omega)), if_pos ⟨rfl, hm⟩, num_back n]

/-- A proper prefix of an encoding wants more. -/
theorem dec_prefix (n : Int) (i : Nat) (hi : i < (encInt n).length) : decInt ((encInt n).take i) = (0, 0, 3) := by
  have hnd := nd_le (mag n)
  obtain ⟨h1, h2⟩ := head_of (fl n) (nd (mag n)) (fl_or n) hnd
  have hlen : (encInt n).length = nd (mag n) + 1 := enc2_length _ _
  cases i with
  | zero => rfl
  | succ i =>
    unfold encInt enc2
    simp only [List.take_succ_cons, decInt, h2]
    rw [if_neg (by omega), if_pos (by simp; omega)]

/-- What is decoded is what was encoded. -/
theorem dec_canon {l : List UInt8} {n : Int} {k : Nat} (h : decInt l = (n, k, 0)) : l.take k = encInt n ∧ k ≤ l.length ∧ InR n ∧ k = (encInt n).length := by
  cases l with
  | nil => simp [decInt] at h
  | cons hd t =>
    simp only [decInt] at h
    split at h
    · simp at h
    · split at h
      · simp at h
      · split at h
        · rename_i h8 hlt hcan
          simp only [Prod.mk.injEq, and_true] at h
          obtain ⟨hn, hk⟩ := h
          obtain ⟨c1, c2⟩ := hcan
          generalize hM : val ((t.take (hK hd)).map (fx (hF hd))) = m at *
          have hml : mag n = m ∧ fl n = hF hd := by
            rcases hF_or hd with hf | hf
            · rw [hf, if_neg (by decide)] at hn
              subst hn
              unfold mag fl
              rw [if_neg (by omega), if_neg (by omega), hf]; simp
            · rw [hf, if_pos rfl] at hn
              subst hn
              unfold mag fl
              rw [if_pos (by omega), if_pos (by omega), hf]; omega
          have hdl : ((t.take (hK hd)).map (fx (hF hd))).length = hK hd := by simp; omega
          have hb := be_val ((t.take (hK hd)).map (fx (hF hd)))
          rw [hM, hdl] at hb
          have henc : encInt n = hd :: t.take (hK hd) := by
            unfold encInt enc2
            rw [hml.1, hml.2, c1, hb, map_fx_fx, head_back hd (by omega)]
          refine ⟨?_, ?_, ?_, ?_⟩
          · rw [henc, ← hk]; rfl
          · rw [← hk]; simp; omega
          · unfold InR; rw [← hn]; split <;> omega
          · rw [henc, ← hk]; simp; omega
        · simp at h

attribute [irreducible] decInt val hF hK

end Go.Proofs.Ytcpemgfpiapaaaa
