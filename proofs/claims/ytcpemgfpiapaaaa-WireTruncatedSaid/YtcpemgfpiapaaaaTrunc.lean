/- A proper part at the beginning of an encoding wants more; no program in sight. -/
import Derived.Test.YtcpemgfpiapaaaaPure
namespace Go.Proofs.Ytcpemgfpiapaaaa

theorem count_short {size N i : Nat} (hi : i < (encInt (N : Int)).length) (B : List UInt8) : decCount size ((encInt (N : Int) ++ B).take i) = (0, 0, 3) := by
  rw [List.take_append_of_le_length (by omega)]
  unfold decCount
  rw [dec_prefix _ i hi]
  rfl

theorem count_rest {size N i : Nat} (hN : N ≤ 1000000000000000) (hi : (encInt (N : Int)).length ≤ i) (B : List UInt8) (hB : i ≤ (encInt (N : Int)).length + B.length) :
    decCount size ((encInt (N : Int) ++ B).take i) = if i - (encInt (N : Int)).length < N * size then (0, 0, 3) else (N, (encInt (N : Int)).length, 0) := by
  have e : (encInt (N : Int) ++ B).take i = encInt (N : Int) ++ B.take (i - (encInt (N : Int)).length) := by
    rw [List.take_append, List.take_of_length_le hi]
  rw [e]
  unfold decCount
  rw [dec_enc (inr_nat hN)]
  dsimp only
  rw [if_neg (by simp), if_neg (by omega), List.length_append, Nat.add_sub_cancel_left, List.length_take, Nat.min_eq_left (by omega)]
  simp

theorem bytes_short {s : ByteArray} (hs : s.size ≤ 1000000000000000) {i : Nat} (hi : i < (encBytes s).length) : (decBytes ((encBytes s).take i)).2.2 = 3 := by
  have hd : s.data.toList.length = s.size := rfl
  unfold encBytes at hi ⊢
  rw [List.length_append, hd] at hi
  unfold decBytes
  by_cases h : i < (encInt (s.size : Int)).length
  · rw [count_short h]; rfl
  · rw [count_rest hs (by omega) _ (by rw [hd]; omega), if_pos (show i - (encInt (s.size : Int)).length < s.size * 1 by omega)]; rfl

theorem decN_short {α : Type} {dec : List UInt8 → α × Nat × Int} {f : α → List UInt8} : ∀ (l : List α), (∀ x ∈ l, ∀ t, dec (f x ++ t) = (x, (f x).length, 0)) → (∀ x ∈ l, ∀ i, i < (f x).length → (dec ((f x).take i)).2.2 = 3) →
    ∀ i, i < (l.map f).flatten.length → (decN dec l.length ((l.map f).flatten.take i)).2.2 = 3 := by
  intro l
  induction l with
  | nil => intro _ _ i hi; simp at hi
  | cons x l ih =>
    intro h1 h2 i hi
    simp only [List.map_cons, List.flatten_cons, List.length_append, List.length_cons] at hi ⊢
    rw [decN]
    by_cases hx : i < (f x).length
    · have := h2 x (by simp) i hx
      rw [List.take_append_of_le_length (by omega), if_pos (by rw [this]; decide)]
      exact this
    · have e : (f x ++ (l.map f).flatten).take i = f x ++ ((l.map f).flatten).take (i - (f x).length) := by
        rw [List.take_append, List.take_of_length_le (by omega)]
      have ih' := ih (fun y hy => h1 y (by simp [hy])) (fun y hy => h2 y (by simp [hy])) (i - (f x).length) (by omega)
      rw [e, h1 x (by simp)]
      dsimp only
      rw [List.drop_left, if_neg (by simp), if_pos (by rw [ih']; decide)]
      exact ih'

theorem list_short {α : Type} {size : Nat} {dec : List UInt8 → α × Nat × Int} {f : α → List UInt8} {l : List α} (hl : l.length ≤ 1000000000000000) {i : Nat} (hi : i < (encL f l).length)
    (h : l.length * size ≤ i - (encInt (l.length : Int)).length → i - (encInt (l.length : Int)).length < (l.map f).flatten.length → (decN dec l.length ((l.map f).flatten.take (i - (encInt (l.length : Int)).length))).2.2 = 3) : (decList size dec ((encL f l).take i)).2.2 = 3 := by
  unfold encL at hi ⊢
  rw [List.length_append] at hi
  unfold decList
  by_cases hs : i < (encInt (l.length : Int)).length
  · rw [count_short hs]; rfl
  · rw [count_rest hl (by omega) _ (by omega)]
    by_cases hc : i - (encInt (l.length : Int)).length < l.length * size
    · rw [if_pos hc]; rfl
    · rw [if_neg hc]
      have e : (encInt (l.length : Int) ++ (l.map f).flatten).take i = encInt (l.length : Int) ++ ((l.map f).flatten).take (i - (encInt (l.length : Int)).length) := by
        rw [List.take_append, List.take_of_length_le (by omega)]
      have := h (by omega) (by omega)
      dsimp only
      rw [if_neg (by simp), e, List.drop_left]
      unfold joinN
      rw [if_pos (by rw [this]; decide)]
      exact this

theorem ints_short {l : List Int} (hR : ∀ x ∈ l, InR x) (hl : l.length ≤ 1000000000000000) {i : Nat} (hi : i < (encL encInt l).length) : (decList 1 decInt ((encL encInt l).take i)).2.2 = 3 :=
  list_short hl hi fun _ h => decN_short l (fun x hx t => dec_enc (hR x hx) t) (fun x _ i hi => by rw [dec_prefix x i hi]) _ h

theorem strs_short {l : List ByteArray} (hR : ∀ x ∈ l, x.size ≤ 1000000000000000) (hl : l.length ≤ 1000000000000000) {i : Nat} (hi : i < (encL encBytes l).length) : (decList 1 decBytes ((encL encBytes l).take i)).2.2 = 3 :=
  list_short hl hi fun _ h => decN_short l (fun x hx t => dec_enc_bytes (hR x hx) t) (fun x hx _ hi => bytes_short (hR x hx) hi) _ h

theorem digs_short {l : List (List UInt8)} (hd : Digs l) (hl : l.length ≤ 1000000000000000) {i : Nat} (hi : i < (encL id l).length) : (decList 16 decDig ((encL id l).take i)).2.2 = 3 :=
  list_short hl hi fun h1 h2 => by
    have := flat_le (f := id) (size := 16) l (fun x hx => Nat.le_of_eq (hd x hx))
    omega

end Go.Proofs.Ytcpemgfpiapaaaa
