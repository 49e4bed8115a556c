/- The laws' arguments, as the claims' frames tell them, read as lists, with their bounds. -/
import Derived.Test.YtcpemgfpiapaaaaRow
import Derived.Test.YtcpemgfpiapaaaaSameD
import Derived.Test.YtcpemgfpiapaaaaFew
import Derived.SliceStrings
import Derived.SizedLaws
import Derived.OpenShut
namespace Go.Proofs.Ytcpemgfpiapaaaa
open Go.ChangeShapes Go.WideShapes Go.RowKit

variable {H : Type} {enc : TypeId × Value → H} {W : World} {a : Option Addr} {n c : Nat} {d : DataW H} {ps : List MemPlace}

/-- A slice, as it reads. -/
def Read (enc : TypeId × Value → H) (W : World) (t : TypeId) (a : Option Addr) (n c : Nat) (d : DataW H) (ps : List MemPlace) : Prop := DataW.Trod enc Try.prog W 0 (fun _ => true) true t (.slice a n c) d ps

theorem arg_row {t e : TypeId} {k : IntKind} (hu : Try.prog.underlying t = some (.slice e)) (he : Try.prog.underlying e = some (.int k)) (hc : Try.prog.cellsOf e = 1) (h : Read enc W t a n c d ps) : ∃ zs, RowOf k W a n c zs := by
  obtain ⟨fuel, hf⟩ := h
  rcases open_ints hu he hc hf with ⟨hcs, _⟩ | ⟨x, l, c, zs, hcs, _, hl, hm, hz, _, hcell, hwz⟩
  · simp [Value.cells] at hcs
    obtain ⟨rfl, rfl, rfl⟩ := hcs
    exact ⟨[], .inl ⟨rfl, rfl, rfl, rfl⟩⟩
  · simp [Value.cells] at hcs
    obtain ⟨rfl, rfl, rfl⟩ := hcs
    exact ⟨zs, .inr ⟨_, rfl, hl, hm, by simpa using hz, hcell, hwz⟩⟩

theorem Try.cells5 : Try.prog.cellsOf 5 = 1 := by kernel_rfl
theorem Try.cells3 : Try.prog.cellsOf 3 = 1 := by kernel_rfl
theorem Try.cells9 : Try.prog.cellsOf 9 = 1 := by kernel_rfl
theorem Try.cells90 : Try.prog.cellsOf 90 = 16 := by kernel_rfl

theorem arg_bytes (h : Read enc W 28 a n c d ps) : ∃ l, SlV W a n c 1 (bvs l) := by
  obtain ⟨zs, hz⟩ := arg_row Try.underlying28 Try.underlying5 Try.cells5 h
  exact sl_bytes hz

theorem arg_ints (h : Read enc W 22 a n c d ps) : ∃ l : List Int, SlV W a n c 1 (l.map iv) ∧ ∀ x ∈ l, InR x := by
  obtain ⟨zs, hz⟩ := arg_row Try.underlying22 Try.underlying3 Try.cells3 h
  exact sl_ints hz

theorem arg_strs (h : Read enc W 23 a n c d ps) : ∃ l : List ByteArray, SlV W a n c 1 (l.map Value.string) ∧ (l = [] ∨ ∃ sp, d = .slice (strs l) sp) := by
  obtain ⟨fuel, hf⟩ := h
  rcases open_strings Try.underlying23 Try.underlying9 Try.cells9 hf with ⟨hcs, _⟩ | ⟨x, l, c, ss, hcs, _, hl, hm, hz, hx, hcell, hwz⟩
  · simp [Value.cells] at hcs
    obtain ⟨rfl, rfl, rfl⟩ := hcs
    exact ⟨[], ⟨rfl, Nat.le_refl _, by simp, fun _ => rfl, fun a ha => by cases ha⟩, .inl rfl⟩
  · simp [Value.cells] at hcs
    obtain ⟨rfl, rfl, rfl⟩ := hcs
    have hz' : ss.length = c := by simpa using hz
    refine ⟨ss.take n, ⟨by simp; omega, hl, hm, fun h => by (cases h), fun b hb j u hj => ?_⟩, .inr ⟨_, (Prod.mk.inj hx).1⟩⟩
    cases hb
    have hj' : j < n := by
      have := (List.getElem?_eq_some_iff.1 hj).1
      rw [List.length_map, List.length_take] at this
      omega
    rw [hcell j (by omega), ← hj, List.getElem?_map, List.getElem?_take_of_lt hj', List.getD_eq_getElem?_getD, List.getElem?_eq_getElem (by omega)]
    rfl

/-- One digest, read. -/
theorem read_dig {fuel : Nat} {base : Nat} {sp : Nat → Bool} {held : Bool} {cs : List Value} {x : DataW H × List MemPlace} (h : DataW.trod enc Try.prog W base sp held fuel 90 cs = some x) : ∃ ds : List UInt8, ds.length = 16 ∧ cs = bvs ds := by
  obtain ⟨xs, m, rfl, rfl, hl, hx, he⟩ := DataW.trod_array Try.underlying90 h
  rw [Try.cells90] at hl
  rw [Try.cells5] at he
  have each : ∀ i, i < 16 → ∃ b : UInt8, cs[i]? = some (bv b) := by
    intro i hi
    have h1 := he i hi
    obtain ⟨y, hy⟩ : ∃ y, xs[i]? = some y := ⟨_, List.getElem?_eq_getElem (by omega)⟩
    rw [hy, Nat.mul_one] at h1
    obtain ⟨z, hz, _, hw⟩ := DataW.trod_int Try.underlying5 h1
    have hb := bounds_u8 hw
    refine ⟨UInt8.ofNat z.toNat, ?_⟩
    have h2 : ((cs.drop i).take 1)[0]? = some (.int .u8 z) := by rw [hz]; rfl
    rw [List.getElem?_take_of_lt (by omega), List.getElem?_drop, Nat.add_zero] at h2
    rw [h2]
    unfold bv
    refine congrArg (fun q => some (Value.int .u8 q)) ?_
    simp
    omega
  refine ⟨(List.range 16).map fun i => match cs[i]? with | some (Value.int _ z) => UInt8.ofNat z.toNat | _ => 0, by simp, ?_⟩
  apply List.ext_getElem?
  intro i
  by_cases hi : i < 16
  · obtain ⟨b, hb⟩ := each i hi
    rw [hb]
    simp [bvs, hi, hb, bv]
  · rw [List.getElem?_eq_none (by omega), List.getElem?_eq_none (by simp [bvs]; omega)]

theorem digs_cells {w : World} {b : Addr} : ∀ (n : Nat) (f : Nat → List Value), (∀ i, i < n → ∃ ds : List UInt8, ds.length = 16 ∧ f i = bvs ds) → (∀ i, i < n → ∀ j, j < 16 → w.cell? (b.add (i * 16 + j)) = (f i)[j]?) →
    ∃ l : List (List UInt8), l.length = n ∧ Digs l ∧ ∀ j u, (dvs l)[j]? = some u → w.cell? (b.add j) = some u := by
  intro n
  induction n with
  | zero => intro f _ _; exact ⟨[], rfl, (by intro d hd; cases hd), fun j u hj => by simp [dvs] at hj⟩
  | succ n ih =>
    intro f hf hw
    obtain ⟨l, h1, h2, h3⟩ := ih f (fun i hi => hf i (by omega)) (fun i hi j hj => hw i (by omega) j hj)
    obtain ⟨ds, hd, he⟩ := hf n (by omega)
    refine ⟨l ++ [ds], by simp [h1], ?_, ?_⟩
    · intro x hx
      rcases List.mem_append.1 hx with hx | hx
      · exact h2 x hx
      · rw [List.mem_singleton.1 hx]; exact hd
    · intro j u hj
      have e : dvs (l ++ [ds]) = dvs l ++ bvs ds := by simp [dvs]
      rw [e] at hj
      have hlen := dvs_length h2
      by_cases hlt : j < (dvs l).length
      · rw [List.getElem?_append_left hlt] at hj
        exact h3 j u hj
      · rw [List.getElem?_append_right (by omega)] at hj
        have hj2 := (List.getElem?_eq_some_iff.1 hj).1
        rw [bvs_length, hd] at hj2
        have := hw n (by omega) (j - (dvs l).length) (by omega)
        rw [he, hj] at this
        rw [show n * 16 + (j - (dvs l).length) = j by omega] at this
        exact this

theorem arg_digs (h : Read enc W 24 a n c d ps) : ∃ l : List (List UInt8), SlV W a n c 16 (dvs l) ∧ Digs l := by
  obtain ⟨fuel, hf⟩ := h
  rcases DataW.trod_slice Try.underlying24 hf with ⟨hcs, _⟩ | ⟨b, len, cap, elems, rest, m, _, hcs, _, hb, hl, hm, hlen, hel, _, _⟩
  · simp [Value.cells] at hcs
    obtain ⟨rfl, rfl, rfl⟩ := hcs
    exact ⟨[], ⟨rfl, Nat.le_refl _, by simp, fun _ => rfl, fun a ha => by cases ha⟩, (by intro d hd; cases hd)⟩
  · simp [Value.cells] at hcs
    obtain ⟨rfl, rfl, rfl⟩ := hcs
    rw [Try.cells90] at hel
    have each : ∀ i, i < n → ∃ cs, W.cells? 0 (b.add (i * 16)) 16 = some cs ∧ ∃ ds : List UInt8, ds.length = 16 ∧ cs = bvs ds := by
      intro i hi
      have h1 := hel i hi
      rw [List.getElem?_eq_getElem (by omega)] at h1
      obtain ⟨cs, hcs, hx⟩ := Option.bind_eq_some_iff.1 h1
      exact ⟨cs, hcs, read_dig hx⟩
    obtain ⟨l, h1, h2, h3⟩ := digs_cells (w := W) (b := b) n (fun i => (W.cells? 0 (b.add (i * 16)) 16).getD [])
      (fun i hi => by obtain ⟨cs, h1, h2⟩ := each i hi; rw [h1]; exact h2)
      (fun i hi j hj => by
        obtain ⟨cs, h1, _⟩ := each i hi
        obtain ⟨_, _, h4⟩ := World.cells?_some h1
        rw [h1, Option.getD_some, ← h4 j hj, add_add])
    exact ⟨l, ⟨by rw [dvs_length h2, h1], hl, hm, fun h => by (cases h), fun x hx j u hj => by cases hx; exact h3 j u hj⟩, h2⟩

/-- The form's own reach, for an argument's length. -/
theorem arg_reach {ts : List TypeId} {ds : List (DataW H)} {j : Nat} {t e : TypeId} (hsz : (DataW.weightsEach Try.prog ts ds).all (· ≤ reachBytes) = true) (ht : ts[j]? = some t) (hd : ds[j]? = some d) (hu : Try.prog.underlying t = some (.slice e)) {B : Nat} (hB : Try.prog.bytesOf e = B)
    (h : Read enc W t a n c d ps) : n * B ≤ 140737488351232 := by
  obtain ⟨fuel, hf⟩ := h
  rcases DataW.trod_slice hu hf with ⟨hcs, _⟩ | ⟨b, len, cap, elems, rest, m, _, hcs, hx, hb, hl, hm, hlen, _⟩
  · simp [Value.cells] at hcs
    obtain ⟨rfl, rfl, rfl⟩ := hcs
    simp
  · simp [Value.cells] at hcs
    obtain ⟨rfl, rfl, rfl⟩ := hcs
    obtain ⟨hx, _⟩ := Prod.mk.inj hx
    subst hx
    have z := sized_slice hsz ht hd hu
    rw [hB, List.length_map, hlen, Nat.add_mul] at z
    unfold reachBytes at z
    omega

/-- The reach of each string of an argument. -/
theorem arg_reach_strs {ts : List TypeId} {ds : List (DataW H)} {j : Nat} (hsz : (DataW.weightsEach Try.prog ts ds).all (· ≤ reachBytes) = true) (ht : ts[j]? = some 23) (hd : ds[j]? = some d) {l : List ByteArray} (h : l = [] ∨ ∃ sp, d = .slice (strs l) sp) :
    ∀ s ∈ l, s.size ≤ 140737488351232 := by
  rcases h with rfl | ⟨sp, rfl⟩
  · intro s hs; cases hs
  · intro s hs
    have hall : ∀ l : List ByteArray, s ∈ l → s.data.toList.length ∈ DataW.weightsAll (H := H) Try.prog 9 (strs l) := by
      intro l
      induction l with
      | nil => intro h; cases h
      | cons x l ih =>
        intro h
        simp only [strs, List.map_cons, DataW.weightsAll, List.mem_append]
        rcases List.mem_cons.1 h with rfl | h
        · left; simp [DataW.weights]
        · right; exact ih h
    have := List.all_eq_true.1 hsz _ (DataW.weights_mem_each ht hd s.data.toList.length (by simp only [DataW.weights, Try.underlying23, List.mem_cons, List.mem_append]; exact .inr (.inl (hall l hs))))
    have e : s.data.toList.length = s.size := rfl
    rw [e] at this
    have h2 := of_decide_eq_true this
    unfold reachBytes at h2
    omega

theorem bulk_le (l : List ByteArray) (B : Nat) (h : ∀ s ∈ l, s.size ≤ B) : bulk l ≤ l.length + l.length * B := by
  have : (l.map ByteArray.size).sum ≤ l.length * B := by
    induction l with
    | nil => simp
    | cons x l ih =>
      have h1 := h x (by simp)
      have h2 := ih (fun y hy => h y (by simp [hy]))
      simp only [List.map_cons, List.sum_cons, List.length_cons, Nat.add_mul, Nat.one_mul]
      omega
  unfold bulk
  omega

theorem Try.bytes5 : Try.prog.bytesOf 5 = 1 := by kernel_rfl
theorem Try.bytes3 : Try.prog.bytesOf 3 = 8 := by kernel_rfl
theorem Try.bytes9 : Try.prog.bytesOf 9 = 16 := by kernel_rfl
theorem Try.bytes90 : Try.prog.bytesOf 90 = 16 := by kernel_rfl

end Go.Proofs.Ytcpemgfpiapaaaa
