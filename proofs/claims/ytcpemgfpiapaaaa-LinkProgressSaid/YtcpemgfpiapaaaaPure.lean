/- Round trip, canonical form and proper prefixes of the plain encodings of layer 1; no program in sight. -/
import Derived.Test.YtcpemgfpiapaaaaDec2
import Derived.Test.YtcpemgfpiapaaaaEnc
import Derived.Test.YtcpemgfpiapaaaaSameD
namespace Go.Proofs.Ytcpemgfpiapaaaa

theorem inr_nat {n : Nat} (h : n ≤ 1000000000000000) : InR (n : Int) := by unfold InR; omega

theorem count_enc {size n : Nat} (hn : n ≤ 1000000000000000) (t : List UInt8) (ht : n * size ≤ t.length) : decCount size (encInt (n : Int) ++ t) = (n, (encInt (n : Int)).length, 0) := by
  unfold decCount
  rw [dec_enc (inr_nat hn)]
  dsimp only
  rw [if_neg (by simp), if_neg (by omega), if_neg (by rw [List.length_append, Nat.add_sub_cancel_left]; simp; omega)]
  simp

theorem dec_enc_bytes {s : ByteArray} (hs : s.size ≤ 1000000000000000) (t : List UInt8) : decBytes (encBytes s ++ t) = (s, (encBytes s).length, 0) := by
  have hd : s.data.toList.length = s.size := rfl
  unfold decBytes encBytes
  rw [List.append_assoc, count_enc hs _ (by rw [List.length_append]; omega)]
  dsimp only
  rw [if_neg (by simp), List.drop_left, ← hd, List.take_left, List.length_append]

theorem decN_enc {α : Type} {dec : List UInt8 → α × Nat × Int} {f : α → List UInt8} (l : List α) (h : ∀ x ∈ l, ∀ t, dec (f x ++ t) = (x, (f x).length, 0)) (t : List UInt8) : decN dec l.length ((l.map f).flatten ++ t) = (l, (l.map f).flatten.length, 0) := by
  induction l with
  | nil => unfold decN; rfl
  | cons x l ih =>
    have hx := h x (by simp) ((l.map f).flatten ++ t)
    have ih' := ih (fun y hy => h y (by simp [hy]))
    simp only [List.map_cons, List.flatten_cons, List.append_assoc, List.length_cons]
    rw [decN, hx]
    dsimp only
    rw [List.drop_left, ih']
    simp

theorem decList_enc {α : Type} {size : Nat} {dec : List UInt8 → α × Nat × Int} {f : α → List UInt8} {l : List α} (h : ∀ x ∈ l, ∀ t, dec (f x ++ t) = (x, (f x).length, 0)) (hl : l.length ≤ 1000000000000000) (hs : l.length * size ≤ (l.map f).flatten.length) (t : List UInt8) :
    decList size dec (encL f l ++ t) = (l, (encL f l).length, 0) := by
  unfold decList encL
  rw [List.append_assoc, count_enc hl _ (by rw [List.length_append]; omega)]
  dsimp only
  rw [if_neg (by simp), List.drop_left, decN_enc l h t]
  simp [joinN]

theorem flat_ge {α : Type} {f : α → List UInt8} {size : Nat} (l : List α) (h : ∀ x ∈ l, size ≤ (f x).length) : l.length * size ≤ (l.map f).flatten.length := by
  induction l with
  | nil => simp
  | cons x l ih =>
    have h1 := h x (by simp)
    have h2 := ih (fun y hy => h y (by simp [hy]))
    simp only [List.map_cons, List.flatten_cons, List.length_append, List.length_cons, Nat.add_mul, Nat.one_mul]
    omega

theorem flat_le {α : Type} {f : α → List UInt8} {size : Nat} (l : List α) (h : ∀ x ∈ l, (f x).length ≤ size) : (l.map f).flatten.length ≤ l.length * size := by
  induction l with
  | nil => simp
  | cons x l ih =>
    have h1 := h x (by simp)
    have h2 := ih (fun y hy => h y (by simp [hy]))
    simp only [List.map_cons, List.flatten_cons, List.length_append, List.length_cons, Nat.add_mul, Nat.one_mul]
    omega

theorem decInts_enc {l : List Int} (hR : ∀ x ∈ l, InR x) (hl : l.length ≤ 1000000000000000) (t : List UInt8) : decList 1 decInt (encL encInt l ++ t) = (l, (encL encInt l).length, 0) :=
  decList_enc (fun x hx t => dec_enc (hR x hx) t) hl (flat_ge l fun x _ => (encInt_len x).1) t

theorem encBytes_one (s : ByteArray) : 1 ≤ (encBytes s).length := by
  have := (encInt_len (s.size : Int)).1
  unfold encBytes
  rw [List.length_append]
  omega

theorem decStrs_enc {l : List ByteArray} (hR : ∀ x ∈ l, x.size ≤ 1000000000000000) (hl : l.length ≤ 1000000000000000) (t : List UInt8) : decList 1 decBytes (encL encBytes l ++ t) = (l, (encL encBytes l).length, 0) :=
  decList_enc (fun x hx t => dec_enc_bytes (hR x hx) t) hl (flat_ge l fun x _ => encBytes_one x) t

theorem decDigs_enc {l : List (List UInt8)} (hR : Digs l) (hl : l.length ≤ 1000000000000000) (t : List UInt8) : decList 16 decDig (encL id l ++ t) = (l, (encL id l).length, 0) :=
  decList_enc (fun x hx t => by unfold decDig; show (List.take 16 (x ++ t), 16, (0 : Int)) = (x, x.length, 0); rw [← hR x hx, List.take_left]) hl (flat_ge l fun x hx => Nat.le_of_eq (hR x hx).symm) t

/-! Canonical forms. -/

theorem bytes_canon {l : List UInt8} {s : ByteArray} {k : Nat} (h : decBytes l = (s, k, 0)) : l.take k = encBytes s ∧ k ≤ l.length ∧ s.size ≤ l.length := by
  obtain ⟨N, j, f, hq⟩ : ∃ N j f, decCount 1 l = (N, j, f) := ⟨_, _, _, rfl⟩
  unfold decBytes at h
  rw [hq] at h
  dsimp only at h
  by_cases hf : f = 0
  · subst hf
    rw [if_neg (by simp)] at h
    simp only [Prod.mk.injEq, and_true] at h
    obtain ⟨rfl, rfl⟩ := h
    obtain ⟨h1, h2, h3⟩ := count_good hq
    obtain ⟨c1, c2, c3, c4⟩ := dec_canon h1
    have hl : ((l.drop j).take N).length = N := by rw [List.length_take, List.length_drop]; omega
    have hsz : (⟨((l.drop j).take N).toArray⟩ : ByteArray).size = N := by show ((l.drop j).take N).toArray.size = N; simpa using hl
    refine ⟨?_, by omega, by omega⟩
    rw [encBytes, hsz, ← c1, List.take_add]
  · rw [if_pos hf] at h
    simp only [Prod.mk.injEq] at h
    exact (hf h.2.2).elim

theorem decN_canon {α : Type} {dec : List UInt8 → α × Nat × Int} {f : α → List UInt8} {G : α → Prop} {sz : Nat} (hc : ∀ l x k, sz ≤ l.length → dec l = (x, k, 0) → l.take k = f x ∧ k ≤ l.length ∧ G x ∧ (sz = 0 ∨ k = sz)) :
    ∀ (n : Nat) (l : List UInt8) (xs : List α) (k : Nat), n * sz ≤ l.length → decN dec n l = (xs, k, 0) → l.take k = (xs.map f).flatten ∧ k ≤ l.length ∧ xs.length = n ∧ ∀ x ∈ xs, G x := by
  intro n
  induction n with
  | zero =>
    intro l xs k _ h
    unfold decN at h
    simp only [Prod.mk.injEq, and_true] at h
    obtain ⟨rfl, rfl⟩ := h
    simp
  | succ n ih =>
    intro l xs k hs h
    obtain ⟨x, j, e, hx⟩ : ∃ x j e, dec l = (x, j, e) := ⟨_, _, _, rfl⟩
    obtain ⟨ys, i, g, hy⟩ : ∃ ys i g, decN dec n (l.drop j) = (ys, i, g) := ⟨_, _, _, rfl⟩
    unfold decN at h
    rw [hx] at h
    dsimp only at h
    rw [hy] at h
    by_cases he : e = 0
    · subst he
      rw [if_neg (by simp)] at h
      dsimp only at h
      by_cases hg : g = 0
      · subst hg
        rw [if_neg (by simp)] at h
        simp only [Prod.mk.injEq, and_true] at h
        obtain ⟨rfl, rfl⟩ := h
        obtain ⟨a1, a2, a3, a4⟩ := hc l x j (by rw [Nat.add_mul] at hs; omega) hx
        obtain ⟨b1, b2, b3, b4⟩ := ih (l.drop j) ys i (by
          rw [List.length_drop]
          rcases a4 with rfl | rfl
          · simp
          · rw [Nat.add_mul] at hs; omega) hy
        rw [List.length_drop] at b2
        refine ⟨?_, by omega, by simp [b3], ?_⟩
        · rw [List.take_add, a1, b1]; simp
        · intro y hy'
          rcases List.mem_cons.1 hy' with rfl | h'
          · exact a3
          · exact b4 y h'
      · rw [if_pos hg] at h
        simp only [Prod.mk.injEq] at h
        exact (hg h.2.2).elim
    · rw [if_pos he] at h
      simp only [Prod.mk.injEq] at h
      exact (he h.2.2).elim

theorem list_canon {α : Type} {size : Nat} {dec : List UInt8 → α × Nat × Int} {f : α → List UInt8} {G : α → Prop} {sz : Nat} (hc : ∀ l x k, sz ≤ l.length → dec l = (x, k, 0) → l.take k = f x ∧ k ≤ l.length ∧ G x ∧ (sz = 0 ∨ k = sz)) (hsz : sz ≤ size)
    {l : List UInt8} {xs : List α} {k : Nat} (h : decList size dec l = (xs, k, 0)) : l.take k = encL f xs ∧ k ≤ l.length ∧ ∀ x ∈ xs, G x := by
  obtain ⟨N, j, g, hq⟩ : ∃ N j f, decCount size l = (N, j, f) := ⟨_, _, _, rfl⟩
  obtain ⟨ys, i, e, hy⟩ : ∃ ys i g, decN dec N (l.drop j) = (ys, i, g) := ⟨_, _, _, rfl⟩
  unfold decList at h
  rw [hq] at h
  dsimp only at h
  rw [hy] at h
  by_cases hg : g = 0
  · subst hg
    rw [if_neg (by simp)] at h
    unfold joinN at h
    dsimp only at h
    by_cases he : e = 0
    · subst he
      rw [if_neg (by simp)] at h
      simp only [Prod.mk.injEq, and_true, List.nil_append] at h
      obtain ⟨rfl, rfl⟩ := h
      obtain ⟨h1, h2, h3⟩ := count_good hq
      obtain ⟨c1, c2, c3, c4⟩ := dec_canon h1
      have h4 : N * sz ≤ N * size := Nat.mul_le_mul_left _ hsz
      obtain ⟨b1, b2, b3, b4⟩ := decN_canon hc N (l.drop j) ys i (by rw [List.length_drop]; omega) hy
      rw [List.length_drop] at b2
      refine ⟨?_, by omega, b4⟩
      rw [List.take_add, c1, b1, encL, b3]
    · rw [if_pos he] at h
      simp only [Prod.mk.injEq] at h
      exact (he h.2.2).elim
  · rw [if_pos hg] at h
    simp only [Prod.mk.injEq] at h
    exact (hg h.2.2).elim

theorem ints_canon {l : List UInt8} {xs : List Int} {k : Nat} (h : decList 1 decInt l = (xs, k, 0)) : l.take k = encL encInt xs ∧ k ≤ l.length ∧ ∀ x ∈ xs, InR x :=
  list_canon (sz := 0) (fun l x k _ h => by
    obtain ⟨c1, c2, c3, c4⟩ := dec_canon h
    exact ⟨c1, c2, c3, .inl rfl⟩) (by omega) h

theorem strs_canon {l : List UInt8} {xs : List ByteArray} {k : Nat} (h : decList 1 decBytes l = (xs, k, 0)) : l.take k = encL encBytes xs ∧ k ≤ l.length :=
  have := list_canon (sz := 0) (G := fun _ => True) (fun l x k _ h => by
    obtain ⟨c1, c2, _⟩ := bytes_canon h
    exact ⟨c1, c2, trivial, .inl rfl⟩) (by omega) h
  ⟨this.1, this.2.1⟩

theorem digs_canon {l : List UInt8} {xs : List (List UInt8)} {k : Nat} (h : decList 16 decDig l = (xs, k, 0)) : l.take k = encL id xs ∧ k ≤ l.length ∧ Digs xs :=
  list_canon (sz := 16) (f := id) (fun l x k hl h => by
    unfold decDig at h
    simp only [Prod.mk.injEq, and_true] at h
    obtain ⟨rfl, rfl⟩ := h
    exact ⟨rfl, hl, by rw [List.length_take]; omega, .inr rfl⟩) (by omega) h

theorem decList_nil {α : Type} {size : Nat} {dec : List UInt8 → α × Nat × Int} {l : List UInt8} {xs : List α} {k : Nat} {e : Int} (h : decList size dec l = (xs, k, e)) (he : e ≠ 0) : xs = [] ∧ k = 0 := by
  unfold decList at h
  dsimp only at h
  split at h
  · simp only [Prod.mk.injEq] at h; exact ⟨h.1.symm, h.2.1.symm⟩
  · unfold joinN at h
    split at h
    · simp only [Prod.mk.injEq] at h; exact ⟨h.1.symm, h.2.1.symm⟩
    · simp only [Prod.mk.injEq] at h; exact (he h.2.2.symm).elim

theorem digs_of {l : List UInt8} {xs : List (List UInt8)} {k : Nat} {e : Int} (h : decList 16 decDig l = (xs, k, e)) : Digs xs := by
  by_cases he : e = 0
  · subst he; exact (digs_canon h).2.2
  · rw [(decList_nil h he).1]; intro d hd; cases hd

theorem decBytes_nil {l : List UInt8} {s : ByteArray} {k : Nat} {e : Int} (h : decBytes l = (s, k, e)) (he : e ≠ 0) : s = ByteArray.empty := by
  unfold decBytes at h
  dsimp only at h
  split at h
  · simp only [Prod.mk.injEq] at h; exact h.1.symm
  · simp only [Prod.mk.injEq] at h; exact (he h.2.2.symm).elim

end Go.Proofs.Ytcpemgfpiapaaaa
