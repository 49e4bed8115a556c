/- The reference's end in memory; finding, sending. What stores do to the reference's end in memory; sending at it. The packets that the reference's end sends. The reference's In: what is held is little; the ways that take nothing. The reference's In, a packet that is taken. The reference's In, a packet that is taken: the walk. The reference's comparison of two lists of bytes that are equal. -/
import Derived.Test.YtcpemgfpiapaaaaLw
import Derived.Test.YtcpemgfpiapaaaaRRd
namespace Go.Proofs.Ytcpemgfpiapaaaa
open Go.RowKit

theorem Try.info114 : (Try.prog.info? 114).map (fun i => (i.zero, i.size, i.bytes)) = some (some (.agg #[.int .i64 0, .slice none 0 0]), 2, 32) := by kernel_rfl
theorem Try.underlying79 : Try.prog.underlying 79 = some (.slice 114) := by kernel_rfl
theorem Try.size114 : (Try.prog.info? 114).map (·.size) = some 2 := by kernel_rfl

/-- The cells of the reference's end. -/
def refCells (M : EndM) (so : Option Addr) (sn sc : Nat) (ho : Option Addr) (hn hc : Nat) : Array Value :=
  #[.int .i64 (M.window : Int), .int .u64 (M.key : Int), .slice so sn sc, .int .i64 (M.acked : Int), .int .i64 (M.delivered : Int), .slice ho hn hc, .bool M.owing, .int .i64 (M.forged : Int)]

/-- The cells of held messages. -/
def hcells : List (Int × Value) → List Value
  | [] => []
  | u :: r => .int .i64 u.1 :: u.2 :: hcells r

theorem hcells_len : ∀ us : List (Int × Value), (hcells us).length = us.length * 2
  | [] => rfl
  | u :: r => by simp [hcells, hcells_len r]; omega

theorem hcells_app : ∀ us vs : List (Int × Value), hcells (us ++ vs) = hcells us ++ hcells vs
  | [], vs => rfl
  | u :: r, vs => by simp [hcells, hcells_app r vs]

theorem hcells_take : ∀ (us : List (Int × Value)) (n : Nat), (hcells us).take (n * 2) = hcells (us.take n)
  | [], n => by simp [hcells]
  | u :: r, 0 => by simp [hcells]
  | u :: r, n + 1 => by
    rw [show (n + 1) * 2 = n * 2 + 1 + 1 by omega]
    simp [hcells, hcells_take r n]

theorem hcells_drop : ∀ (us : List (Int × Value)) (n : Nat), (hcells us).drop (n * 2) = hcells (us.drop n)
  | [], n => by simp [hcells]
  | u :: r, 0 => by simp
  | u :: r, n + 1 => by
    rw [show (n + 1) * 2 = n * 2 + 1 + 1 by omega]
    simp [hcells, hcells_drop r n]

theorem hcells_at : ∀ (us : List (Int × Value)) (i : Nat) (u : Int × Value), us[i]? = some u → (hcells us)[i * 2]? = some (.int .i64 u.1) ∧ (hcells us)[i * 2 + 1]? = some u.2
  | [], i, u, h => by simp at h
  | v :: r, 0, u, h => by simp at h; subst h; exact ⟨rfl, rfl⟩
  | v :: r, i + 1, u, h => by
    rw [show (i + 1) * 2 = i * 2 + 1 + 1 by omega, show i * 2 + 1 + 1 + 1 = (i * 2 + 1) + 1 + 1 by omega]
    simp only [hcells, List.getElem?_cons_succ] at h ⊢
    exact hcells_at r i u h

theorem hcells_one {us : List (Int × Value)} (h : ∀ u ∈ us, u.2.oneCell' = true) : ∀ u ∈ hcells us, u.oneCell' = true := by
  induction us with
  | nil => intro u hu; cases hu
  | cons v r ih =>
    intro u hu
    simp only [hcells, List.mem_cons] at hu
    rcases hu with rfl | rfl | hu
    · rfl
    · exact h v (by simp)
    · exact ih (fun x hx => h x (by simp [hx])) u hu

/-- The keys ks and the messages hl are the map 'held'. -/
structure HeldAs (ks : List Int) (hl : List (List UInt8)) (held : Int → Option (List UInt8)) : Prop where
  len : ks.length = hl.length
  one : ks.Nodup
  has : ∀ q l, held q = some l ↔ ∃ i : Nat, ks[i]? = some q ∧ hl[i]? = some l

theorem HeldAs.nil : HeldAs [] [] (fun _ => none) := ⟨rfl, List.nodup_nil, fun q l => ⟨fun h => (by cases h), fun ⟨i, h, _⟩ => (by simp at h)⟩⟩

theorem HeldAs.out {ks : List Int} {hl : List (List UInt8)} {held : Int → Option (List UInt8)} (h : HeldAs ks hl held) {q : Int} (hq : held q = none) : q ∉ ks := by
  intro hm
  obtain ⟨i, hi, he⟩ := List.mem_iff_getElem.1 hm
  have := (h.has q (hl[i]'(by rw [← h.len]; exact hi))).2 ⟨i, by rw [List.getElem?_eq_getElem hi, he], List.getElem?_eq_getElem _⟩
  rw [hq] at this
  cases this

theorem HeldAs.push {ks : List Int} {hl : List (List UInt8)} {held : Int → Option (List UInt8)} (h : HeldAs ks hl held) {q : Int} (hq : held q = Option.none) (l : List UInt8) : HeldAs (ks ++ [q]) (hl ++ [l]) (putH held q l) := by
  refine ⟨by simp [h.len], ?_, fun x m => ?_⟩
  · rw [List.nodup_append]
    exact ⟨h.one, by simp, fun a ha b hb => by simp at hb; subst hb; exact fun e => h.out hq (e ▸ ha)⟩
  · by_cases e : x = q
    · subst e
      rw [putH_same]
      constructor
      · intro hm
        cases hm
        exact ⟨ks.length, by simp, by rw [h.len]; simp⟩
      · rintro ⟨i, h1, h2⟩
        have hi : ks.length ≤ i := by
          rcases Nat.lt_or_ge i ks.length with hlt | hge
          · rw [List.getElem?_append_left hlt] at h1
            exact absurd (List.mem_of_getElem? h1) (h.out hq)
          · exact hge
        have hi2 : i < (ks ++ [x]).length := (List.getElem?_eq_some_iff.1 h1).1
        simp at hi2
        obtain rfl : i = ks.length := by omega
        rw [h.len] at h2
        simpa using h2
    · rw [putH_other _ e, h.has]
      constructor
      · rintro ⟨i, h1, h2⟩
        have hi := (List.getElem?_eq_some_iff.1 h1).1
        exact ⟨i, by rw [List.getElem?_append_left hi]; exact h1, by rw [List.getElem?_append_left (by rw [← h.len]; exact hi)]; exact h2⟩
      · rintro ⟨i, h1, h2⟩
        rcases Nat.lt_or_ge i ks.length with hlt | hge
        · rw [List.getElem?_append_left hlt] at h1
          rw [List.getElem?_append_left (by rw [← h.len]; exact hlt)] at h2
          exact ⟨i, h1, h2⟩
        · have hi2 : i < (ks ++ [q]).length := (List.getElem?_eq_some_iff.1 h1).1
          simp at hi2
          obtain rfl : i = ks.length := by omega
          simp at h1
          exact absurd h1.symm e

theorem nodup_inj {ks : List Int} (h : ks.Nodup) {i j : Nat} {q : Int} (hi : ks[i]? = some q) (hj : ks[j]? = some q) : i = j := by
  obtain ⟨hi', e1⟩ := List.getElem?_eq_some_iff.1 hi
  obtain ⟨hj', e2⟩ := List.getElem?_eq_some_iff.1 hj
  have hp := List.pairwise_iff_getElem.1 h
  rcases Nat.lt_trichotomy i j with hlt | rfl | hlt
  · exact absurd (e1.trans e2.symm) (hp i j hi' hj' hlt)
  · rfl
  · exact absurd (e2.trans e1.symm) (hp j i hj' hi' hlt)

theorem HeldAs.at {ks : List Int} {hl : List (List UInt8)} {held : Int → Option (List UInt8)} (h : HeldAs ks hl held) {q : Int} {l : List UInt8} (hq : held q = some l) {i : Nat} (hi : ks[i]? = some q) : hl[i]? = some l := by
  obtain ⟨j, h1, h2⟩ := (h.has q l).1 hq
  rw [nodup_inj h.one hi h1]; exact h2

theorem HeldAs.del {ks : List Int} {hl : List (List UInt8)} {held : Int → Option (List UInt8)} (h : HeldAs ks hl held) {q : Int} {i : Nat} (hi : ks[i]? = some q) : HeldAs (ks.take i ++ ks.drop (i + 1)) (hl.take i ++ hl.drop (i + 1)) (delH held q) := by
  rw [← List.eraseIdx_eq_take_drop_succ, ← List.eraseIdx_eq_take_drop_succ]
  have hik := (List.getElem?_eq_some_iff.1 hi).1
  have hil : i < hl.length := by rw [← h.len]; exact hik
  refine ⟨by rw [List.length_eraseIdx_of_lt hik, List.length_eraseIdx_of_lt hil, h.len], h.one.sublist (List.eraseIdx_sublist _ _), fun x m => ?_⟩
  have inj : ∀ j : Nat, ks[j]? = some q → j = i := fun j hj => nodup_inj h.one hj hi
  by_cases e : x = q
  · subst e
    rw [delH_same]
    constructor
    · intro h'; cases h'
    · rintro ⟨j, h1, h2⟩
      rw [List.getElem?_eraseIdx] at h1
      split at h1
      · have := inj j h1; omega
      · have := inj _ h1; omega
  · rw [delH_other _ e, h.has]
    constructor
    · rintro ⟨j, h1, h2⟩
      have hji : j ≠ i := fun e' => e (by subst e'; rw [hi] at h1; injection h1 with h1; exact h1.symm)
      rcases Nat.lt_or_ge j i with hlt | hge
      · exact ⟨j, by rw [List.getElem?_eraseIdx, if_pos hlt]; exact h1, by rw [List.getElem?_eraseIdx, if_pos hlt]; exact h2⟩
      · refine ⟨j - 1, ?_, ?_⟩
        · rw [List.getElem?_eraseIdx, if_neg (by omega), show j - 1 + 1 = j by omega]; exact h1
        · rw [List.getElem?_eraseIdx, if_neg (by omega), show j - 1 + 1 = j by omega]; exact h2
    · rintro ⟨j, h1, h2⟩
      rw [List.getElem?_eraseIdx] at h1 h2
      split at h1
      · rename_i hlt
        rw [if_pos hlt] at h2
        exact ⟨j, h1, h2⟩
      · rename_i hlt
        rw [if_neg hlt] at h2
        exact ⟨j + 1, h1, h2⟩

/-- The parts of the reference's end in memory. -/
structure RQ (c : Nat → Nat) (k : Nat) (w : World) (p : Nat) (M : EndM) (S : List (List UInt8)) (so : Option Addr) (sc : Nat) (ho : Option Addr) (hc : Nat) (vs : List Value) (us : List (Int × Value)) (hl : List (List UInt8)) : Prop where
  str : w.heap[p]? = some (.cells (refCells M so S.length sc ho us.length hc) 81 (0, 0))
  cp : c p = k
  own : w.ownsRow 0 28 1 (.slice so S.length sc) S.length vs
  rows : RowsC c w vs S
  row : ∀ a, so = some a → c a.block = k ∧ a.block ≠ p
  hown : w.ownsRow 0 114 2 (.slice ho us.length hc) us.length (hcells us)
  hrows : RowsC c w (us.map (·.2)) hl
  hrow : ∀ a, ho = some a → c a.block = k ∧ a.block ≠ p
  wait : M.waiting = S.drop M.acked
  ack : M.acked ≤ S.length
  held : HeldAs (us.map (·.1)) hl M.held

/-- The reference's end in memory. -/
def REndV (c : Nat → Nat) (k : Nat) (w : World) (p : Nat) (M : EndM) (S : List (List UInt8)) : Prop := ∃ so sc ho hc vs us hl, RQ c k w p M S so sc ho hc vs us hl

theorem own_of {w : World} {e : TypeId} {size n cap B : Nat} {ao : Option Addr} {xs : List Value} (h : w.ownsRow B e size (.slice ao n cap) n xs) : ∀ a, ao = some a → ∃ cur, w.heap[a.block]? = some (.cells cur e (0, 0)) ∧ a.block < w.heap.size := fun a ha => by
  rcases h.2 with ⟨h2, _⟩ | ⟨g, cap', cur, hv, hg, hh, r⟩
  · cases h2; cases ha
  · cases hv; cases ha
    exact ⟨cur, hh, (Array.getElem?_eq_some_iff.1 hh).1⟩

theorem RQ.lt {c : Nat → Nat} {k p : Nat} {w : World} {M : EndM} {S : List (List UInt8)} {so ho : Option Addr} {sc hc : Nat} {vs : List Value} {us : List (Int × Value)} {hl : List (List UInt8)} (h : RQ c k w p M S so sc ho hc vs us hl) : p < w.heap.size := (Array.getElem?_eq_some_iff.1 h.str).1

/-- The rows' blocks are two. -/
theorem RQ.two {c : Nat → Nat} {k p : Nat} {w : World} {M : EndM} {S : List (List UInt8)} {so ho : Option Addr} {sc hc : Nat} {vs : List Value} {us : List (Int × Value)} {hl : List (List UInt8)} (h : RQ c k w p M S so sc ho hc vs us hl) {a b : Addr} (ha : so = some a) (hb : ho = some b) : a.block ≠ b.block := by
  obtain ⟨c1, e1, _⟩ := own_of h.own a ha
  obtain ⟨c2, e2, _⟩ := own_of h.hown b hb
  intro e
  rw [e, e2] at e1
  cases e1

/-- A step that leaves the struct and both rows. -/
theorem RQ.keep {c c' : Nat → Nat} {k j p : Nat} {w w' : World} {M : EndM} {S : List (List UInt8)} {so ho : Option Addr} {sc hc : Nat} {vs : List Value} {us : List (Int × Value)} {hl : List (List UInt8)} (h : RQ c j w p M S so sc ho hc vs us hl) (hs : Stp c c' k w w') (hk : k ≠ 0)
    (hj : ∀ b, b < w.heap.size → c b = j → w'.heap[b]? = w.heap[b]?) : RQ c' j w' p M S so sc ho hc vs us hl := by
  have hp := h.lt
  have r1 : ∀ a, so = some a → a.block < w.heap.size := fun a ha => (own_of h.own a ha).choose_spec.2
  have r2 : ∀ a, ho = some a → a.block < w.heap.size := fun a ha => (own_of h.hown a ha).choose_spec.2
  refine ⟨(hj p hp h.cp).trans h.str, (hs.col p hp).trans h.cp, ?_, h.rows.stp hs hk, fun a ha => ⟨(hs.col _ (r1 a ha)).trans (h.row a ha).1, (h.row a ha).2⟩, ?_, h.hrows.stp hs hk, fun a ha => ⟨(hs.col _ (r2 a ha)).trans (h.hrow a ha).1, (h.hrow a ha).2⟩, h.wait, h.ack, h.held⟩
  · refine ownsRow_of h.own (fun g hg => ?_)
    cases so with
    | none => cases hg
    | some a => injection hg with hg; subst hg; exact hj _ (r1 a rfl) (h.row a rfl).1
  · refine ownsRow_of h.hown (fun g hg => ?_)
    cases ho with
    | none => cases hg
    | some a => injection hg with hg; subst hg; exact hj _ (r2 a rfl) (h.hrow a rfl).1

theorem RQ.stp {c c' : Nat → Nat} {k j p : Nat} {w w' : World} {M : EndM} {S : List (List UInt8)} {so ho : Option Addr} {sc hc : Nat} {vs : List Value} {us : List (Int × Value)} {hl : List (List UInt8)} (h : RQ c j w p M S so sc ho hc vs us hl) (hs : Stp c c' k w w') (hj : j ≠ k) (hk : k ≠ 0) : RQ c' j w' p M S so sc ho hc vs us hl :=
  h.keep hs hk (fun b hb hc => hs.keep b hb (by rw [hc]; exact hj))

theorem RQ.below {c : Nat → Nat} {j p : Nat} {w w' : World} {M : EndM} {S : List (List UInt8)} {so ho : Option Addr} {sc hc : Nat} {vs : List Value} {us : List (Int × Value)} {hl : List (List UInt8)} (h : RQ c j w p M S so sc ho hc vs us hl) (hf : Fr c w) (hb : Below w.heap.size w w') : RQ c j w' p M S so sc ho hc vs us hl :=
  h.stp (k := j + 1) (Stp.of_below hf hb) (by omega) (by omega)

theorem REndV.stp {c c' : Nat → Nat} {k j p : Nat} {w w' : World} {M : EndM} {S : List (List UInt8)} (h : REndV c j w p M S) (hs : Stp c c' k w w') (hj : j ≠ k) (hk : k ≠ 0) : REndV c' j w' p M S := by
  obtain ⟨so, sc, ho, hc, vs, us, hl, h⟩ := h
  exact ⟨so, sc, ho, hc, vs, us, hl, h.stp hs hj hk⟩

theorem REndV.below {c : Nat → Nat} {j p : Nat} {w w' : World} {M : EndM} {S : List (List UInt8)} (h : REndV c j w p M S) (hf : Fr c w) (hb : Below w.heap.size w w') : REndV c j w' p M S := by
  obtain ⟨so, sc, ho, hc, vs, us, hl, h⟩ := h
  exact ⟨so, sc, ho, hc, vs, us, hl, h.below hf hb⟩

/-- The eight cells of the reference's end. -/
theorem ref_cells {w : World} {p : Nat} {x0 x1 x2 x3 x4 x5 x6 x7 : Value} (h : w.heap[p]? = some (.cells #[x0, x1, x2, x3, x4, x5, x6, x7] 81 (0, 0))) :
    w.cell? ⟨p, 0, none⟩ = some x0 ∧ w.cell? ⟨p, 1, none⟩ = some x1 ∧ w.cell? ⟨p, 2, none⟩ = some x2 ∧ w.cell? ⟨p, 3, none⟩ = some x3 ∧ w.cell? ⟨p, 4, none⟩ = some x4 ∧ w.cell? ⟨p, 5, none⟩ = some x5 ∧ w.cell? ⟨p, 6, none⟩ = some x6 ∧ w.cell? ⟨p, 7, none⟩ = some x7 ∧
    w.frozen? ⟨p, 2, none⟩ = false ∧ w.frozen? ⟨p, 3, none⟩ = false ∧ w.frozen? ⟨p, 4, none⟩ = false ∧ w.frozen? ⟨p, 5, none⟩ = false ∧ w.frozen? ⟨p, 6, none⟩ = false ∧ w.frozen? ⟨p, 7, none⟩ = false :=
  ⟨(cells_of h 0).1, (cells_of h 1).1, (cells_of h 2).1, (cells_of h 3).1, (cells_of h 4).1, (cells_of h 5).1, (cells_of h 6).1, (cells_of h 7).1, (cells_of h 2).2, (cells_of h 3).2, (cells_of h 4).2, (cells_of h 5).2, (cells_of h 6).2, (cells_of h 7).2⟩

/-- The place of a key: -1 if there is none. -/
def FindR (ks : List Int) (q : Int) (r : Int) : Prop := (∃ t : Nat, r = t ∧ ks[t]? = some q ∧ ∀ j : Nat, j < t → ks[j]? ≠ some q) ∨ (r = -1 ∧ ∀ j : Nat, ks[j]? ≠ some q)

theorem HeldAs.find {ks : List Int} {hl : List (List UInt8)} {held : Int → Option (List UInt8)} (h : HeldAs ks hl held) {q : Int} {l : List UInt8} (hq : held q = some l) : ∃ t : Nat, ks[t]? = some q ∧ hl[t]? = some l ∧ FindR ks q t := by
  obtain ⟨t, h1, h2⟩ := (h.has q l).1 hq
  exact ⟨t, h1, h2, .inl ⟨t, rfl, h1, fun j hj e => by have := nodup_inj h.one e h1; omega⟩⟩

theorem HeldAs.findNo {ks : List Int} {hl : List (List UInt8)} {held : Int → Option (List UInt8)} (h : HeldAs ks hl held) {q : Int} (hq : held q = none) : FindR ks q (-1) :=
  .inr ⟨rfl, fun _ e => h.out hq (List.mem_of_getElem? e)⟩

set_option maxRecDepth 20000 in
/-- find. -/
theorem find_any (c : Nat → Nat) (k p : Nat) (M : EndM) (S : List (List UInt8)) (w : World) (so : Option Addr) (sc : Nat) (ho : Option Addr) (hc : Nat) (vs : List Value) (us : List (Int × Value)) (hl : List (List UInt8)) (h : RQ c k w p M S so sc ho hc vs us hl) (q r : Int) (hr : FindR (us.map (·.1)) q r) :
    Calls Try.prog 76 #[.pointer (some ⟨p, 0, none⟩), .int .i64 q] w (fun e w' => e = .returned (.int .i64 r) ∧ w' = w) := by
  obtain ⟨x0, x1, x2, x3, x4, x5, x6, x7, f2, f3, f4, f5, f6, f7⟩ := ref_cells h.str
  have hS := ownsRow_sl h.hown
  have hn : us.length ≤ maxLen := Nat.le_trans hS.le hS.top
  unfold maxLen at hn
  have HS := Lib.hid hS
  have HR := Lib.hid hr
  clear hS h hr
  go_enter Try.func76, Try.ntmps76
  go_wp2
  go_loopw [5] (fun i wr => ∃ t : Nat, t ≤ us.length ∧ i = .int .i64 t ∧ wr = w ∧ Hid (∀ j : Nat, j < t → (us.map (·.1))[j]? ≠ some q)) (fun i _ => us.length - (intOf i).toNat)
  case atStart => exact ⟨0, by omega, rfl, rfl, Lib.hid (fun j hj => by omega)⟩
  case round =>
    obtain ⟨t, ht, rfl, rfl, hno⟩ := hrel
    by_cases htl : t < us.length
    · obtain ⟨u, hu⟩ : ∃ u, us[t]? = some u := ⟨_, List.getElem?_eq_getElem htl⟩
      obtain ⟨a, rfl⟩ := HS.out.has (by omega)
      have hcell := HS.out.cell a rfl (t * 2) _ (hcells_at us t u hu).1
      have hkt : Hid ((us.map (·.1))[t]? = some u.1) := Lib.hid (by rw [List.getElem?_map, hu]; rfl)
      by_cases huq : u.1 = q
      · have e : (u.1 == q) = true := by simpa using huq
        go_wp2
        go_ret
        refine ⟨?_, rfl⟩
        rcases HR.out with ⟨t', rfl, h1, h2⟩ | ⟨_, h2⟩
        · have : t = t' := by
            rcases Nat.lt_trichotomy t t' with hlt | rfl | hlt
            · exact absurd (by rw [hkt.out, huq]) (h2 t hlt)
            · rfl
            · exact absurd h1 (hno.out t' hlt)
          rw [this]; rfl
        · exact absurd (by rw [hkt.out, huq]) (h2 t)
      · have e : (u.1 == q) = false := by simpa using huq
        go_wp2
        go_roundw
        case rel => exact ⟨t + 1, by omega, by go_num, trivial, Lib.hid (fun j hj => by
          by_cases hjt : j = t
          · subst hjt; rw [hkt.out]; intro e'; injection e' with e'; exact huq e'
          · exact hno.out j (by omega))⟩
        case measure => simp [intOf]; omega
    · obtain rfl : t = us.length := by omega
      go_wp2
      go_ret
      refine ⟨?_, rfl⟩
      rcases HR.out with ⟨t', rfl, h1, h2⟩ | ⟨rfl, h2⟩
      · have := (List.getElem?_eq_some_iff.1 h1).1
        rw [List.length_map] at this
        exact absurd h1 (hno.out t' this)
      · rfl

end Go.Proofs.Ytcpemgfpiapaaaa

namespace Go.Proofs.Ytcpemgfpiapaaaa
open Go.RowKit

/-- A step that grows one row, of colour k. -/
theorem grow_stp {c : Nat → Nat} {k g : Nat} {w W w1 : World} {row : Option Nat} (hf : Fr c w) (hrow : ∀ x, row = some x → x < w.heap.size ∧ c x = k) (hb : Below w.heap.size w W) (hgrow : W.grownBy w1 row) (hat : row = some g ∨ g = W.heap.size) (hlt : g < w1.heap.size) :
    ∃ c2, Stp c c2 k w w1 ∧ Stp c c2 k W w1 ∧ c2 g = k ∧ ∀ b, b ≠ g → c2 b = c b := by
  have hsz := hb.size
  have mk : ∀ w0 : World, w.heap.size ≤ w0.heap.size → w0.heap.size ≤ W.heap.size → w0.os = W.os → w0.tape = W.tape → w0.output = W.output → (∀ x, x < w0.heap.size → W.heap[x]? = w0.heap[x]?) → Stp c (fun x => if x = g then k else c x) k w0 w1 := by
    intro w0 hw0 hw1 e1 e2 e3 e4
    refine ⟨hgrow.os.trans e1.symm, hgrow.tape.trans e2.symm, hgrow.output.trans e3.symm, Nat.le_trans hw1 hgrow.size, fun x hx => ?_, fun x hx hc => ?_, fun x hx => ?_⟩
    · by_cases hxg : x = g
      · subst hxg
        rw [if_pos rfl]
        rcases hat with h | h
        · exact (hrow _ h).2.symm
        · omega
      · rw [if_neg hxg]
    · rw [hgrow.block x (by omega) (fun e => hc (hrow x e.symm).2)]
      exact e4 x hx
    · rw [if_neg (by omega)]
      exact hf x (by have := hgrow.size; omega)
  exact ⟨_, mk w (Nat.le_refl _) hsz hb.os.symm hb.tape.symm hb.output.symm (fun x hx => hb.block x hx), mk W hsz (Nat.le_refl _) rfl rfl rfl (fun x _ => rfl), by simp, fun b hb => by simp [hb]⟩

/-- A step that makes new blocks, one of which takes the colour k. -/
theorem below_stp {c : Nat → Nat} (k : Nat) {g : Nat} {w w1 : World} (hf : Fr c w) (hb : Below w.heap.size w w1) (hg : w.heap.size ≤ g) (hlt : g < w1.heap.size) :
    ∃ c2, Stp c c2 k w w1 ∧ c2 g = k ∧ ∀ b, b ≠ g → c2 b = c b :=
  ⟨fun x => if x = g then k else c x, ⟨hb.os, hb.tape, hb.output, hb.size, fun x hx => if_neg (by omega), fun x hx _ => hb.block x hx, fun x hx => by
    rw [if_neg (by omega)]; exact hf x (Nat.le_trans hb.size hx)⟩, by simp, fun b hb => by simp [hb]⟩

section
variable {c c' : Nat → Nat} {k p : Nat} {w w1 : World} {M : EndM} {S : List (List UInt8)} {so ho : Option Addr} {sc hc : Nat} {vs : List Value} {us : List (Int × Value)} {hl : List (List UInt8)} (h : RQ c k w p M S so sc ho hc vs us hl)
include h

/-- A number of the end, stored. -/
theorem RQ.store {M' : EndM} (hf : Fr c w) (hk : k ≠ 0) (i : Nat) (v : Value) (e : refCells M' so S.length sc ho us.length hc = (refCells M so S.length sc ho us.length hc).setIfInBounds i v) (e1 : M'.waiting = S.drop M'.acked) (e2 : M'.acked ≤ S.length) (e3 : M'.held = M.held) :
    RQ c k (w.setCell ⟨p, i, none⟩ v) p M' S so sc ho hc vs us hl ∧ Stp c c k w (w.setCell ⟨p, i, none⟩ v) := by
  have hs : Stp c c k w (w.setCell ⟨p, i, none⟩ v) := (Stp.refl hf).setCell h.cp h.lt v
  refine ⟨⟨by rw [heap_setCell_same w p i _ 81 v h.str, e], h.cp, ?_, h.rows.stp hs hk, h.row, ?_, h.hrows.stp hs hk, h.hrow, e1, e2, by rw [e3]; exact h.held⟩, hs⟩
  · refine ownsRow_of h.own (fun g hg => heap_setCell_other _ _ _ _ ?_)
    cases so with
    | none => cases hg
    | some a => injection hg with hg; subst hg; exact (h.row a rfl).2
  · refine ownsRow_of h.hown (fun g hg => heap_setCell_other _ _ _ _ ?_)
    cases ho with
    | none => cases hg
    | some a => injection hg with hg; subst hg; exact (h.hrow a rfl).2

/-- Another row of sent messages. -/
theorem RQ.resent (hs : Stp c c' k w w1) (hk : k ≠ 0) (hp : w1.heap[p]? = w.heap[p]?) (hh : ∀ a, ho = some a → w1.heap[a.block]? = w.heap[a.block]?)
    {S' : List (List UInt8)} {so' : Option Addr} {sc' n' : Nat} {vs' : List Value} (hn : n' = S'.length) (hown : w1.ownsRow 0 28 1 (.slice so' n' sc') n' vs') (hrows : RowsC c' w1 vs' S') (hrow : ∀ a, so' = some a → c' a.block = k ∧ a.block ≠ p) (hack : M.acked ≤ S'.length) :
    RQ c' k (w1.setCell ⟨p, 2, none⟩ (.slice so' n' sc')) p { M with waiting := S'.drop M.acked } S' so' sc' ho hc vs' us hl ∧ Stp c c' k w (w1.setCell ⟨p, 2, none⟩ (.slice so' n' sc')) := by
  subst hn
  have hp1 : c' p = k := (hs.col p h.lt).trans h.cp
  have hl1 : p < w1.heap.size := Nat.lt_of_lt_of_le h.lt hs.size
  have hs1 : Stp c' c' k w1 (w1.setCell ⟨p, 2, none⟩ (.slice so' S'.length sc')) := (Stp.refl hs.fr).setCell hp1 hl1 _
  have r2 : ∀ a, ho = some a → a.block < w.heap.size := fun a ha => (own_of h.hown a ha).choose_spec.2
  refine ⟨⟨by rw [heap_setCell_same w1 p 2 _ 81 _ (hp.trans h.str)]; rfl, hp1, ?_, hrows.stp hs1 hk, hrow, ?_, (h.hrows.stp hs hk).stp hs1 hk, fun a ha => ⟨(hs.col _ (r2 a ha)).trans (h.hrow a ha).1, (h.hrow a ha).2⟩, rfl, hack, h.held⟩, hs.trans hs1⟩
  · refine ownsRow_of hown (fun g hg => heap_setCell_other _ _ _ _ ?_)
    cases so' with
    | none => cases hg
    | some a => injection hg with hg; subst hg; exact (hrow a rfl).2
  · refine ownsRow_of h.hown (fun g hg => ?_)
    cases ho with
    | none => cases hg
    | some a =>
      injection hg with hg
      subst hg
      exact (heap_setCell_other _ _ _ _ (h.hrow a rfl).2).trans (hh a rfl)

/-- Another row of held messages. -/
theorem RQ.reheld (hs : Stp c c' k w w1) (hk : k ≠ 0) (hp : w1.heap[p]? = w.heap[p]?) (hh : ∀ a, so = some a → w1.heap[a.block]? = w.heap[a.block]?)
    {ho' : Option Addr} {hc' n' : Nat} {us' : List (Int × Value)} {hl' : List (List UInt8)} {held' : Int → Option (List UInt8)} (hn : n' = us'.length) (hown : w1.ownsRow 0 114 2 (.slice ho' n' hc') n' (hcells us')) (hrows : RowsC c' w1 (us'.map (·.2)) hl') (hrow : ∀ a, ho' = some a → c' a.block = k ∧ a.block ≠ p) (hheld : HeldAs (us'.map (·.1)) hl' held') :
    RQ c' k (w1.setCell ⟨p, 5, none⟩ (.slice ho' n' hc')) p { M with held := held' } S so sc ho' hc' vs us' hl' ∧ Stp c c' k w (w1.setCell ⟨p, 5, none⟩ (.slice ho' n' hc')) := by
  subst hn
  have hp1 : c' p = k := (hs.col p h.lt).trans h.cp
  have hl1 : p < w1.heap.size := Nat.lt_of_lt_of_le h.lt hs.size
  have hs1 : Stp c' c' k w1 (w1.setCell ⟨p, 5, none⟩ (.slice ho' us'.length hc')) := (Stp.refl hs.fr).setCell hp1 hl1 _
  have r2 : ∀ a, so = some a → a.block < w.heap.size := fun a ha => (own_of h.own a ha).choose_spec.2
  refine ⟨⟨by rw [heap_setCell_same w1 p 5 _ 81 _ (hp.trans h.str)]; rfl, hp1, ?_, (h.rows.stp hs hk).stp hs1 hk, fun a ha => ⟨(hs.col _ (r2 a ha)).trans (h.row a ha).1, (h.row a ha).2⟩, ?_, hrows.stp hs1 hk, hrow, h.wait, h.ack, hheld⟩, hs.trans hs1⟩
  · refine ownsRow_of h.own (fun g hg => ?_)
    cases so with
    | none => cases hg
    | some a =>
      injection hg with hg
      subst hg
      exact (heap_setCell_other _ _ _ _ (h.row a rfl).2).trans (hh a rfl)
  · refine ownsRow_of hown (fun g hg => heap_setCell_other _ _ _ _ ?_)
    cases ho' with
    | none => cases hg
    | some a => injection hg with hg; subst hg; exact (hrow a rfl).2

end

/-- What the reference's Send gives. -/
def RSendP (c : Nat → Nat) (k : Nat) (w : World) (p : Nat) (M : EndM) (S : List (List UInt8)) (b : List UInt8) (e : Ending) (w' : World) : Prop :=
  ∃ c', Stp c c' k w w' ∧ REndV c' k w' p (sendM M b).1 (if (sendM M b).2 = 0 then S ++ [b] else S) ∧ e = .returned (.int .i64 (sendM M b).2)

set_option maxRecDepth 20000 in
/-- The reference's Send. -/
theorem rsend_any (c : Nat → Nat) (k p : Nat) (M : EndM) (S : List (List UInt8)) (w : World) (hf : Fr c w) (hk : k ≠ 0) (h : REndV c k w p M S) (hS : S.length ≤ 100000) (ao : Option Addr) (n cp : Nat) (b : List UInt8) (hr : RowC c w (.slice ao n cp) b) (hn : n ≤ 100000000000) :
    Calls Try.prog 59 #[.pointer (some ⟨p, 0, none⟩), .slice ao n cp] w (RSendP c k w p M S b) := by
  obtain rfl : b.length = n := by obtain ⟨a', cp', e, hsl, _⟩ := hr; injection e with e1 e2 e3; exact e2.symm
  obtain ⟨so, sc, ho, hc, vs, us, hl, hQ⟩ := id h
  obtain ⟨x0, x1, x2, x3, x4, x5, x6, x7, f2, f3, f4, f5, f6, f7⟩ := ref_cells hQ.str
  have hwl : M.waiting.length = S.length - M.acked := by rw [hQ.wait, List.length_drop]
  have hac := hQ.ack
  have ew : IntKind.i64.wrap ((S.length : Int) - (M.acked : Int)) = ((S.length - M.acked : Nat) : Int) := by rw [IntWalk.i64_in _ (by omega)]; omega
  by_cases hb1 : 65536 < b.length
  · have e : sendM M b = (M, 4) := by unfold sendM; rw [if_pos (by omega)]
    unfold RSendP
    rw [e]
    have HH := Lib.hid h
    have hd : decide ((65536 : Int) < (b.length : Int)) = true := decide_eq_true (by omega)
    clear h hQ
    go_enter Try.func59, Try.ntmps59
    go_upto_region 1 with fail
    go_quiet (fail)
    go_wp2
    go_ret
    have hb4 := below_drewN (Below.refl w.heap.size w) nq
    exact ⟨c, Stp.of_below hf hb4, HH.out.below hf hb4, rfl⟩
  · have hd : decide ((65536 : Int) < (b.length : Int)) = false := decide_eq_false (by omega)
    by_cases hb2 : 1000 ≤ M.waiting.length
    · have e : sendM M b = (M, 4) := by unfold sendM; rw [if_pos (by omega)]
      unfold RSendP
      rw [e]
      have HH := Lib.hid h
      have hd2 : decide ((1000 : Int) ≤ ((S.length - M.acked : Nat) : Int)) = true := decide_eq_true (by omega)
      clear h hQ
      go_enter Try.func59, Try.ntmps59
      go_upto_region 1 with fail
      go_quiet (fail)
      go_wp2
      go_ret
      have hb4 := below_drewN (Below.refl w.heap.size w) nq
      exact ⟨c, Stp.of_below hf hb4, HH.out.below hf hb4, rfl⟩
    · have e : sendM M b = ({ M with waiting := M.waiting ++ [b] }, 0) := by unfold sendM; rw [if_neg (by omega)]
      unfold RSendP
      rw [e]
      have hd2 : decide ((1000 : Int) ≤ ((S.length - M.acked : Nat) : Int)) = false := decide_eq_false (by omega)
      have eM : { M with waiting := M.waiting ++ [b] } = { M with waiting := (S ++ [b]).drop M.acked } := by rw [hQ.wait, List.drop_append_of_le_length hac]
      have HE := Lib.hid eM
      obtain ⟨i, hi, hz0, hz1, hz2⟩ := info_parts Try.info28
      have hp := hQ.lt
      have hne : some p ≠ (Value.slice so S.length sc).ownBlock := by
        intro e
        cases so with
        | none => cases e
        | some a => injection e with e; exact (hQ.row a rfl).2 e.symm
      have HQ := Lib.hid hQ
      have HR := Lib.hid hr
      clear h hQ eM hr
      go_enter Try.func59, Try.ntmps59
      go_upto_region 1 with fail
      go_quiet (fail)
      have hb4 := below_drewN (Below.refl w.heap.size w) nq
      have hQ4 := HQ.out.below hf hb4
      have hr4 := HR.out.step hf hb4
      have hf4 := hf.below hb4
      have hs4 := Stp.of_below (k := k) hf hb4
      generalize w.drewN nq = W at hb4 hQ4 hr4 hf4 hs4 ⊢
      clear x0 x1 x2 x3 x4 x5 x6 x7 f2 f3 f4 f5 f6 f7
      obtain ⟨x0, x1, x2, x3, x4, x5, x6, x7, f2, f3, f4, f5, f6, f7⟩ := ref_cells hQ4.str
      have hpW := hQ4.lt
      have hS3 : S.length + 1 ≤ maxLen := by unfold maxLen; omega
      have HQ4 := Lib.hid hQ4
      have HR4 := Lib.hid hr4
      clear hQ4 hr4 HQ HR
      have s0 := True.intro
      go_wp2_with (first
        | (clear s0; at_builtin; refine wpList_append_lies _ rfl (.tmp 25) (.tmp 27) 63 rfl 0 28 i (.slice none 0 0) 1 24 Try.underlying63 hi hz0 hz1 hz2 rfl (by decide) _ S.length vs rfl (HQ4.out.own.alloc _) ⟨W.heap.size, 0, none⟩ 1 1 [.slice ao b.length cp] rfl rfl ((sl_new W _ _).cell _ rfl) (by intro u hu; simp at hu; subst hu; rfl) (by decide) hS3 (by omega) (Nat.zero_le _) _ rfl ?_; intro g cap2 w1 hown hgrow hat hlt; have hp1 := (hgrow.block p (by simp; omega) hne).trans (Below.heap_alloc W _ p hpW); obtain ⟨y0, y1, y2, y3, y4, y5, y6, y7, g2, g3, g4, g5, g6, g7⟩ := ref_cells (hp1.trans HQ4.out.str); have s1 := True.intro))
      go_ret
      have hbA := (Below.refl W.heap.size W).alloc (Nat.le_refl _) (.cells #[Value.slice ao b.length cp] 28)
      obtain ⟨c2, s1', s2', e3, e4⟩ := grow_stp (k := k) hf4 (fun x hx => by
        cases so with
        | none => cases hx
        | some a => injection hx with hx; subst hx; exact ⟨(own_of HQ4.out.own a rfl).choose_spec.2, (HQ4.out.row a rfl).1⟩) hbA hgrow hat hlt
      obtain ⟨q1, q2⟩ := HQ4.out.resent s1' hk hp1 (fun a ha => by
          have hl := (own_of HQ4.out.hown a ha).choose_spec.2
          refine (hgrow.block _ (by simp; omega) (fun e => ?_)).trans (Below.heap_alloc W _ _ hl)
          cases so with
          | none => cases e
          | some a' => injection e with e; exact HQ4.out.two rfl ha e.symm)
        (S' := S ++ [b]) (by simp) hown (((HQ4.out.rows.stp s1' hk).snoc ((HR4.out.step hf4 hbA).stp s2' hk))) (fun a ha => by
          cases ha
          refine ⟨e3, fun e => ?_⟩
          simp only at e
          rcases hat with hat | hat
          · exact hne (hat.trans (congrArg some e)).symm
          · simp at hat; omega) (by simp; omega)
      have q3 : REndV c2 k _ p _ (S ++ [b]) := ⟨_, _, _, _, _, _, _, q1⟩
      rw [← HE.out] at q3
      exact ⟨c2, hs4.trans q2, q3, rfl⟩

end Go.Proofs.Ytcpemgfpiapaaaa

namespace Go.Proofs.Ytcpemgfpiapaaaa
open Go.RowKit

/-- Behind the reference's Out: the end owes no more; the packets lie in new blocks. -/
theorem rout_close {c c1 : Nat → Nat} {k p q cap : Nat} {w wr : World} {M : EndM} {S : List (List UInt8)} {ao : Option Addr} {us : List Value} {ls : List (List UInt8)}
    (hf : Fr c w) (hk : k ≠ 0) (h : REndV c k w p M S) (hbe : Below w.heap.size w wr) (hs : Stp c c1 k w wr)
    (hown : wr.ownsRow w.heap.size 28 1 (.slice ao q cap) q us) (hrows : RowsC c1 wr us ls) :
    Stp c c k w (wr.setCell ⟨p, 6, none⟩ (.bool false)) ∧ REndV c k (wr.setCell ⟨p, 6, none⟩ (.bool false)) p (outM M) S ∧ ListC c (wr.setCell ⟨p, 6, none⟩ (.bool false)) (.slice ao q cap) ls := by
  obtain ⟨so, sc, ho, hc, vs, us', hl, hQ⟩ := h
  have hp := hQ.lt
  have hfr : Fr c wr := hf.below hbe
  obtain ⟨q1, q2⟩ := (hQ.below hf hbe).store (M' := outM M) hfr hk 6 (.bool false) rfl hQ.wait hQ.ack rfl
  have hrc : RowsC c wr us ls := ⟨hrows.1, fun i v l a b => recol hf hs (hrows.2 i v l a b)⟩
  have hq : ls.length = q := by have := hown.1; rw [← hrows.1]; omega
  refine ⟨(Stp.of_below hf hbe).trans q2, ⟨_, _, _, _, _, _, _, q1⟩, ao, cap, us, by rw [hq], ?_, hrc.stp q2 hk, fun x hx hl => ?_⟩
  · rw [hq]
    refine (ownsRow_sl hown).stp q2 hk (fun x hx hl => ?_)
    subst hx
    exact hf _ (own_lt hown rfl).2
  · subst hx
    exact hf _ (own_lt hown rfl).2

/-- What the reference's Out gives. -/
def ROutP (c : Nat → Nat) (k : Nat) (w : World) (p : Nat) (M : EndM) (S : List (List UInt8)) (ls : List (List UInt8)) (e : Ending) (w' : World) : Prop := ∃ c' v, Stp c c' k w w' ∧ REndV c' k w' p M S ∧ e = .returned v ∧ ListC c' w' v ls

set_option maxRecDepth 20000 in
set_option maxHeartbeats 1000000 in
/-- The reference's Out. -/
theorem rout_any (c : Nat → Nat) (k p : Nat) (M : EndM) (S : List (List UInt8)) (w : World) (hf : Fr c w) (hk : k ≠ 0) (hw : Wf M) (hSl : S.length ≤ 100000) (h : REndV c k w p M S) :
    Calls Try.prog 60 #[.pointer (some ⟨p, 0, none⟩)] w (ROutP c k w p (outM M) S (outP M)) := by
  obtain ⟨so, sc, ho, hc, vs, us', hl, hQ⟩ := id h
  obtain ⟨x0, x1, x2, x3, x4, x5, x6, x7, f2, f3, f4, f5, f6, f7⟩ := ref_cells hQ.str
  obtain ⟨m, hm⟩ : ∃ m, m = min M.waiting.length M.window := ⟨_, rfl⟩
  have hwl : M.waiting.length = S.length - M.acked := by rw [hQ.wait, List.length_drop]
  have hack := hQ.ack
  have HS := Lib.hid (ownsRow_sl hQ.own)
  have HQ := Lib.hid hQ
  have H := Lib.hid h
  have hp := hQ.lt
  clear hQ h
  have HM := Lib.hid hm
  have hm1 : m ≤ M.waiting.length := by omega
  have hm2 : m ≤ M.window := by omega
  have hm3 : m = M.waiting.length ∨ m = M.window := by omega
  clear hm
  have hac := hw.ack
  have hwi := hw.win
  have ew0 : IntKind.i64.wrap ((M.acked : Int) + (M.window : Int)) = (M.acked : Int) + M.window := IntWalk.i64_in _ (by omega)
  have HST : Hid (∀ w' : World, w'.heap[p]? = some (.cells (refCells M so S.length sc ho us'.length hc) 81 (0, 0)) → w'.cell? ⟨p, 1, none⟩ = some (.int .u64 (M.key : Int)) ∧ w'.cell? ⟨p, 4, none⟩ = some (.int .i64 (M.delivered : Int)) ∧ w'.cell? ⟨p, 2, none⟩ = some (.slice so S.length sc)) := Lib.hid fun w' hb => by
    obtain ⟨z0, z1, z2, z3, z4, _⟩ := ref_cells hb
    exact ⟨z1, z4, z2⟩
  go_enter Try.func60, Try.ntmps60
  go_wp2
  go_loopw [3, 4] (fun v i wr => ∃ (q : Nat) (c1 : Nat → Nat) (ao : Option Addr) (cap : Nat) (us : List Value), q ≤ m ∧ i = .int .i64 ((M.acked : Int) + q) ∧ v = .slice ao q cap ∧ Hid (wr.ownsRow w.heap.size 28 1 (.slice ao q cap) q us) ∧ Hid (RowsC c1 wr us (((M.waiting.take m).take q).mapIdx (outW M))) ∧ Hid (Stp c c1 k w wr) ∧ Below w.heap.size w wr ∧ Hid (∀ a, ao = some a → c1 a.block = k)) (fun _ i _ => m - (intOf i - M.acked).toNat)
  case atStart => exact ⟨0, c, none, 0, [], by omega, by simp, rfl, Lib.hid (World.ownsRow_nil _ _ _ _), Lib.hid (by simpa using RowsC.nil _ _), Lib.hid (Stp.refl hf), Below.refl _ _, Lib.hid (fun a h => by cases h)⟩
  case round =>
    obtain ⟨q, c1, ao, cap, us, hq, rfl, rfl, ho', hrows, hstp, hbe, hcol⟩ := hrel
    have hk1 := (hbe.block p hp).trans HQ.out.str
    have hpr : p < wr.heap.size := Nat.lt_of_lt_of_le hp hbe.size
    clear x0 x1 x2 x3 x4 x5 x6 x7 f2 f3 f4 f5 f6 f7
    obtain ⟨y0, y1, y2, y3, y4, y5, y6, y7, g2, g3, g4, g5, g6, g7⟩ := ref_cells hk1
    by_cases hqm : q < m
    · obtain ⟨l, hl'⟩ : ∃ l, M.waiting[q]? = some l := ⟨_, List.getElem?_eq_getElem (by omega)⟩
      have hd1 : decide ((M.acked : Int) + q < (S.length : Int)) = true := decide_eq_true (by omega)
      have hd2 : decide ((M.acked : Int) + q < (M.acked : Int) + M.window) = true := decide_eq_true (by omega)
      have hll : l.length ≤ 65536 := hw.rows l (List.mem_of_getElem? hl')
      obtain ⟨A, hA⟩ : ∃ A : Nat, M.acked + q = A := ⟨_, rfl⟩
      have eA : (M.acked : Int) + (q : Int) = (A : Int) := by omega
      have hSA : S[A]? = some l := by
        have e := hl'
        rw [HQ.out.wait, List.getElem?_drop, hA] at e
        exact e
      have hAS : A < S.length := by omega
      obtain ⟨v, hv⟩ : ∃ v, vs[A]? = some v := ⟨_, List.getElem?_eq_getElem (by rw [HQ.out.rows.1]; exact hAS)⟩
      obtain ⟨b, cb, rfl, hsl, hcb⟩ := HQ.out.rows.2 A v l hv hSA
      obtain ⟨a, rfl⟩ : ∃ a, so = some a := HS.out.has (by omega)
      have e1 := HS.out.cell a rfl A _ hv
      have hke := hw.key
      have hde := hw.del
      have HL := Lib.hid hl'
      have HHA := Lib.hid hA
      clear hl' hv hSA hcb hA
      rw [eA] at hd1 hd2 ⊢
      go_upto_region 3 with fail
      go_quiet (fail)
      have hbq := below_drewN (Below.refl wr.heap.size wr) nq
      have hbW : Below w.heap.size w (wr.drewN nq) := hbe.trans (hbq.mono hbe.size)
      have hoW := ownsRow_below ho'.out hbq (Nat.le_refl _)
      have hrW : RowsC c1 (wr.drewN nq) us (((M.waiting.take m).take q).mapIdx (outW M)) := hrows.out.stp (k := k) (Stp.of_below hstp.out.fr hbq) hk
      have hsW : Stp c c1 k w (wr.drewN nq) := ⟨hstp.out.os, hstp.out.tape, hstp.out.output, hstp.out.size, hstp.out.col, hstp.out.keep, hstp.out.fresh⟩
      generalize wr.drewN nq = W at hbW hoW hrW hsW ⊢
      clear hbq ho' hrows hstp hbe hpr hk1 y0 y1 y2 y3 y4 y5 y6 y7 g2 g3 g4 g5 g6 g7 hd1 hd2
      have HO := Lib.hid hoW
      have HRW := Lib.hid hrW
      have HSW := Lib.hid hsW
      clear hoW hrW hsW
      have hk1 := (hbW.block p hp).trans HQ.out.str
      have hpr : p < W.heap.size := Nat.lt_of_lt_of_le hp hbW.size
      have hcl := (hbW.cell (World.block_lt_of_cell? _ _ e1)).trans e1
      have hsl1 := hsl.below hbW (Nat.le_refl _)
      obtain ⟨i, hi, hz0, hz1, hz2⟩ := info_parts Try.info28
      have k0 : Below W.heap.size W W.drew := (Below.refl _ _).drew
      have hup : ∀ w' : World, Below W.heap.size W w' → Below w.heap.size w w' := fun w' h => hbW.trans (h.mono hbW.size)
      have hne : some p ≠ (Value.slice ao q cap).ownBlock := fun e => by have := (own_lt HO.out e.symm).2; omega
      have hSS : ∀ w' : World, Below w.heap.size w w' → w'.cell? ⟨p, 1, none⟩ = some (.int .u64 (M.key : Int)) ∧ w'.cell? ⟨p, 4, none⟩ = some (.int .i64 (M.delivered : Int)) ∧ w'.cell? ⟨p, 2, none⟩ = some (.slice (some a) S.length sc) ∧ w'.cell? (a.add A) = some (.slice b l.length cb) := fun w' h => by
        obtain ⟨r1, r2, r3⟩ := HST.out _ ((h.block p hp).trans HQ.out.str)
        exact ⟨r1, r2, r3, (h.cell (World.block_lt_of_cell? _ _ e1)).trans e1⟩
      have ew1 : IntKind.i64.wrap ((A : Int) + 1) = ((A : Int) + 1) := IntWalk.i64_in _ (by omega)
      have hSR : InR ((A : Int) + 1) := by unfold InR; omega
      have hDR : InR (M.delivered : Int) := by unfold InR; omega
      have hpl := pkt_len ((A : Int) + 1) (M.delivered : Int) l
      have hms : 1 ≤ maxLen := by unfold maxLen; omega
      go_wp2_with fail
      go_region_held_law (fun w' => w'.cell? ⟨p, 1, none⟩ = some (.int .u64 (M.key : Int)) ∧ w'.cell? ⟨p, 4, none⟩ = some (.int .i64 (M.delivered : Int)) ∧ w'.cell? ⟨p, 2, none⟩ = some (.slice (some a) S.length sc) ∧ w'.cell? (a.add A) = some (.slice b l.length cb)) (first | exact kk | exact hSS _ (hup _ (k3 _)) | exact hSS _ (hup _ k2) | exact hSS _ (hup _ k1) | exact hSS _ (hup _ k0)) (first
        | (go_at_call 49; refine (rpkt_any ((A : Int) + 1) (M.delivered : Int) hSR hDR b l.length cb l _ hsl1.drew (by omega)).mono ?_; rintro e w4 ⟨a4, c4, rfl, ho4, hb4⟩; have k1 := k0.trans hb4)
        | (go_at_call 48; refine (rseal_any M.key hke a4 _ c4 (pktB ((A : Int) + 1) (M.delivered : Int) l) _ ho4.sl (by omega)).mono ?_; rintro e w5 ⟨a5, c5, rfl, ho5, hb5⟩; have k2 := k1.trans (hb5.mono k1.size); have k3 := fun o => k2.alloc k2.size o)
        | (refine step_append_lies _ rfl (.tmp 31) (.tmp 52) 63 rfl w.heap.size 28 i (.slice none 0 0) 1 24 Try.underlying63 hi hz0 hz1 hz2 rfl (by decide) _ q us rfl ((ownsRow_below HO.out k2 (Nat.le_refl _)).alloc _) ⟨w5.heap.size, 0, none⟩ 1 1 [.slice a5 _ c5] rfl rfl ((sl_new w5 _ _).cell _ rfl) (by intro u hu; simp at hu; subst hu; rfl) (by decide) (by unfold maxLen; omega) (by omega) (by have := hbW.size; have := k2.size; simp; omega) _ rfl ?_; intro g cap2 w1 hown hgrow hat hlt; have hbe2 := (hup _ (k3 _)).grown hgrow (by have := hbW.size; have := k2.size; simp; omega) (fun x hx => (own_lt HO.out hx).2); have kk := hSS _ hbe2))
      go_wp2
      obtain ⟨c2, s1, s2, s3, s4⟩ := rows_push HSW.out.fr hk HO.out HRW.out hcol.out (k3 _) (RowC.own (w := w4) (fun b hb => HSW.out.fr b (Nat.le_trans k1.size hb)) (OwnB.alloc ho5 _)) rfl hgrow hat hlt
      go_roundw
      case rel =>
        have e0 := out_step HM.out hqm HL.out
        refine ⟨q + 1, c2, some ⟨g, 0, none⟩, cap2, _, by omega, by rw [← eA]; simp only [Value.int.injEq, true_and]; omega, rfl, Lib.hid hown, Lib.hid ?_, Lib.hid (HSW.out.trans s1), hbe2, Lib.hid (fun a ha => by cases ha; exact s3)⟩
        rw [e0]
        have e9 : outW M q l = sealB M.key (pktB ((A : Int) + 1) (M.delivered : Int) l) := by unfold outW; rw [eA]
        rw [e9]
        exact s2
      case measure => simp [intOf]; omega
    · obtain rfl : q = m := by omega
      have hrr : RowsC c1 wr us (outL M) := by
        have := hrows.out
        rw [List.take_take, Nat.min_self] at this
        unfold outL
        rw [HM.out] at this
        have e1 : M.waiting.take (min M.waiting.length M.window) = M.waiting.take M.window := by
          rcases Nat.le_total M.waiting.length M.window with h | h
          · rw [Nat.min_eq_left h, List.take_of_length_le h, List.take_of_length_le (Nat.le_refl _)]
          · rw [Nat.min_eq_right h]
        rwa [e1] at this
      have HR := Lib.hid hrr
      clear hrr hrows
      have hql : (outL M).length = q := by have := ho'.out.1; rw [← HR.out.1]; omega
      have HQL := Lib.hid hql
      clear hql
      obtain ⟨A, hA⟩ : ∃ A : Nat, M.acked + q = A := ⟨_, rfl⟩
      have eA : (M.acked : Int) + (q : Int) = (A : Int) := by omega
      have HSW := Lib.hid hstp.out
      have HOW := Lib.hid ho'.out
      have HCW := Lib.hid hcol.out
      rw [eA]
      clear hstp ho' hcol
      go_upto_region 3 with fail
      go_cut [28] (fun v wx => v = .bool false ∧ ∃ d, wx = wr.drewN d)
      case first =>
        by_cases hAS : A < S.length
        · have hd1 : decide ((A : Int) < (S.length : Int)) = true := decide_eq_true (by omega)
          have hd2 : decide ((A : Int) < (M.acked : Int) + M.window) = false := decide_eq_false (by omega)
          go_quiet (fail)
          go_wp2_with fail
          go_meet
          exact ⟨rfl, _, rfl⟩
        · have hd1 : decide ((A : Int) < (S.length : Int)) = false := decide_eq_false (by omega)
          go_quiet (fail)
          go_wp2_with fail
          go_meet
          exact ⟨rfl, _, rfl⟩
      case rest =>
        obtain ⟨rfl, d, rfl⟩ := hcut
        have hbq := below_drewN (Below.refl wr.heap.size wr) d
        have hbW : Below w.heap.size w (wr.drewN d) := hbe.trans (hbq.mono hbe.size)
        have hoW := ownsRow_below HOW.out hbq (Nat.le_refl _)
        have hrW : RowsC c1 (wr.drewN d) us (outL M) := HR.out.stp (k := k) (Stp.of_below HSW.out.fr hbq) hk
        have hsW : Stp c c1 k w (wr.drewN d) := ⟨HSW.out.os, HSW.out.tape, HSW.out.output, HSW.out.size, HSW.out.col, HSW.out.keep, HSW.out.fresh⟩
        generalize wr.drewN d = W at hbW hoW hrW hsW ⊢
        clear hbq HOW HR HSW hbe hpr hk1 y0 y1 y2 y3 y4 y5 y6 y7 g2 g3 g4 g5 g6 g7
        have HO := Lib.hid hoW
        have HR := Lib.hid hrW
        have HSW := Lib.hid hsW
        clear hoW hrW hsW
        have hk1 := (hbW.block p hp).trans HQ.out.str
        have hpr : p < W.heap.size := Nat.lt_of_lt_of_le hp hbW.size
        obtain ⟨y0, y1, y2, y3, y4, y5, y6, y7, g2, g3, g4, g5, g6, g7⟩ := ref_cells hk1
        by_cases h0 : q = 0
        · cases how : M.owing with
          | false =>
            subst h0
            go_wp2
            go_ret
            obtain ⟨t1, t2, t3⟩ := rout_close hf hk H.out hbW HSW.out HO.out HR.out
            have e : outP M = outL M := by unfold outP; rw [how]; simp
            rw [e]
            exact ⟨c, _, t1, t2, rfl, t3⟩
          | true =>
            subst h0
            have hSS : ∀ w' : World, Below W.heap.size W w' → w'.cell? ⟨p, 1, none⟩ = some (.int .u64 (M.key : Int)) ∧ w'.cell? ⟨p, 4, none⟩ = some (.int .i64 (M.delivered : Int)) := fun w' hb => by
              obtain ⟨r1, r2, r3⟩ := HST.out _ ((hb.block p hpr).trans hk1)
              exact ⟨r1, r2⟩
            obtain ⟨i, hi, hz0, hz1, hz2⟩ := info_parts Try.info28
            have hde := hw.del
            have hke := hw.key
            have k0 : Below W.heap.size W W.drew := (Below.refl _ _).drew
            have hne : some p ≠ (Value.slice ao 0 cap).ownBlock := fun e => by have := (own_lt HO.out e.symm).2; omega
            have hDR : InR (M.delivered : Int) := by unfold InR; omega
            have h0R : InR 0 := by unfold InR; omega
            have hpl := pkt_len 0 (M.delivered : Int) []
            have hpl2 : (pktB 0 (M.delivered : Int) []).length ≤ 36 := by simpa using hpl
            have hus : us = [] := List.eq_nil_of_length_eq_zero (by have := HO.out.1; omega)
            have hms : 0 + 1 ≤ maxLen := by unfold maxLen; omega
            go_upto_region 7 with fail
            go_region_held_law (fun w' => w'.cell? ⟨p, 1, none⟩ = some (.int .u64 (M.key : Int)) ∧ w'.cell? ⟨p, 4, none⟩ = some (.int .i64 (M.delivered : Int))) (first | exact kk | exact hSS _ (k3 _) | exact hSS _ k2 | exact hSS _ k1 | exact hSS _ k0) (first
              | (go_at_call 49; refine (rpkt_any 0 (M.delivered : Int) h0R hDR none 0 0 [] _ (sl_zero _ _ _) (by omega)).mono ?_; rintro e w4 ⟨a4, c4, rfl, ho4, hb4⟩; have k1 := k0.trans hb4)
              | (go_at_call 48; refine (rseal_any M.key hke a4 _ c4 (pktB 0 (M.delivered : Int) []) _ ho4.sl (by omega)).mono ?_; rintro e w5 ⟨a5, c5, rfl, ho5, hb5⟩; have k2 := k1.trans (hb5.mono k1.size); have k3 := fun o => k2.alloc k2.size o)
              | (refine step_append_lies _ rfl (.tmp 63) (.tmp 75) 63 rfl w.heap.size 28 i (.slice none 0 0) 1 24 Try.underlying63 hi hz0 hz1 hz2 rfl (by decide) _ 0 us rfl ((ownsRow_below HO.out k2 (Nat.le_refl _)).alloc _) ⟨w5.heap.size, 0, none⟩ 1 1 [.slice a5 _ c5] rfl rfl ((sl_new w5 _ _).cell _ rfl) (by intro u hu; simp at hu; subst hu; rfl) (by decide) hms (by omega) (by have := hbW.size; have := k2.size; simp; omega) _ rfl ?_; intro g cap2 w1 hown hgrow hat hlt; have hh1 := (hgrow.block p (by have := k2.size; simp; omega) hne).trans ((Below.heap_alloc w5 _ p (by have := k2.size; omega)).trans ((k2.block p hpr).trans hk1)); obtain ⟨r1, r2, r3⟩ := HST.out _ hh1; have kk : w1.cell? ⟨p, 1, none⟩ = some (.int .u64 (M.key : Int)) ∧ w1.cell? ⟨p, 4, none⟩ = some (.int .i64 (M.delivered : Int)) := ⟨r1, r2⟩; obtain ⟨z0, z1, z2, z3, z4, z5, z6, z7, t2, t3, t4, t5, t6, t7⟩ := ref_cells hh1))
            go_wp2
            go_ret
            have hr0 : RowsC c1 W us [] := by subst hus; exact RowsC.nil _ _
            obtain ⟨c2, s1, s2, s3, s4⟩ := rows_push HSW.out.fr hk HO.out hr0 HCW.out (k3 _) (RowC.own (w := w4) (fun b hb => HSW.out.fr b (Nat.le_trans k1.size hb)) (OwnB.alloc ho5 _)) rfl hgrow hat hlt
            have hbe2 : Below w.heap.size w w1 := (hbW.trans ((k3 _).mono hbW.size)).grown hgrow (by have := hbW.size; have := k2.size; simp; omega) (fun x hx => (own_lt HO.out hx).2)
            obtain ⟨t1, t2, t3⟩ := rout_close hf hk H.out hbe2 (HSW.out.trans s1) hown s2
            have e : outP M = [] ++ [sealB M.key (pktB 0 (M.delivered : Int) [])] := by
              unfold outP
              rw [if_pos ⟨List.eq_nil_of_length_eq_zero HQL.out, how⟩]
              rfl
            rw [e]
            exact ⟨c, _, t1, t2, rfl, t3⟩
        · have hqn : ((q : Int) == 0) = false := by simp; omega
          go_wp2
          go_ret
          obtain ⟨t1, t2, t3⟩ := rout_close hf hk H.out hbW HSW.out HO.out HR.out
          have e : outP M = outL M := by unfold outP; rw [if_neg (fun h => h0 (by rw [← HQL.out, h.1]; rfl))]
          rw [e]
          exact ⟨c, _, t1, t2, rfl, t3⟩

end Go.Proofs.Ytcpemgfpiapaaaa

namespace Go.Proofs.Ytcpemgfpiapaaaa
open Go.RowKit

theorem nodup_few (d : Int) : ∀ (N : Nat) (ks : List Int), ks.Nodup → (∀ x ∈ ks, d < x ∧ x ≤ d + N) → ks.length ≤ N
  | 0, ks, _, h => by
    cases ks with
    | nil => simp
    | cons x r => have := h x (by simp); omega
  | N + 1, ks, hn, h => by
    have h1 := nodup_few d N (ks.erase (d + (N + 1 : Nat))) (hn.erase _) (fun x hx => by
      have hm := (List.Nodup.mem_erase_iff hn).1 hx
      have := h x hm.2
      have := hm.1
      omega)
    rw [List.length_erase] at h1
    split at h1 <;> omega

theorem HeldAs.few {ks : List Int} {hl : List (List UInt8)} {M : EndM} (h : HeldAs ks hl M.held) (hw : Wf M) : ks.length ≤ 16 :=
  nodup_few (M.delivered : Int) 16 ks h.one (fun x hx => by
    obtain ⟨i, hi, e⟩ := List.mem_iff_getElem.1 hx
    have := hw.hold x (hl[i]'(by rw [← h.len]; exact hi)) ((h.has _ _).2 ⟨i, by rw [List.getElem?_eq_getElem hi, e], List.getElem?_eq_getElem _⟩)
    omega)

/-- What the reference's In gives. -/
def RInP (c : Nat → Nat) (k : Nat) (w : World) (p : Nat) (M : EndM) (S : List (List UInt8)) (ls : List (List UInt8)) (er : Int) (e : Ending) (w' : World) : Prop := ∃ c' v, Stp c c' k w w' ∧ REndV c' k w' p M S ∧ e = .returned (.tuple #[v, .int .i64 er]) ∧ ListC c' w' v ls

theorem RQ.shut {c : Nat → Nat} {k p : Nat} {w : World} {M : EndM} {S : List (List UInt8)} {so ho : Option Addr} {sc hc : Nat} {vs : List Value} {us : List (Int × Value)} {hl : List (List UInt8)} (h : RQ c k w p M S so sc ho hc vs us hl) : REndV c k w p M S := ⟨so, sc, ho, hc, vs, us, hl, h⟩

theorem REndV.open {c : Nat → Nat} {k p : Nat} {w : World} {M : EndM} {S : List (List UInt8)} (h : REndV c k w p M S) : ∃ so sc ho hc vs us hl, RQ c k w p M S so sc ho hc vs us hl := h

set_option maxRecDepth 100000 in
set_option maxHeartbeats 1000000 in
theorem rin_err (c : Nat → Nat) (k p : Nat) (M : EndM) (S : List (List UInt8)) (w : World) (hf : Fr c w) (hk : k ≠ 0) (hw : Wf M) (h : REndV c k w p M S) (ao : Option Addr) (n cp : Nat) (b : List UInt8) (hr : SlV w ao n cp 1 (bvs b)) (hn : n ≤ 100000000000) (he : (openB M.key b).2 ≠ 0) :
    Calls Try.prog 62 #[.pointer (some ⟨p, 0, none⟩), .slice ao n cp] w (RInP c k w p (if (openB M.key b).2 = 9 then { M with forged := M.forged + 1 } else M) S [] (openB M.key b).2) := by
  obtain ⟨m, er, ho⟩ : ∃ m er, openB M.key b = (m, er) := ⟨_, _, rfl⟩
  rw [ho] at he ⊢
  simp only at he ⊢
  have hke := hw.key
  have hfo := hw.forg
  obtain ⟨so, sc, ho', hc, vs, us, hl, hQ⟩ := h.open
  obtain ⟨x0, x1, x2, x3, x4, x5, x6, x7, f2, f3, f4, f5, f6, f7⟩ := ref_cells hQ.str
  have hne : (er != 0) = true := by simpa using he
  have HQ := Lib.hid hQ
  clear h hQ
  by_cases h9 : er = 9
  · subst h9
    rw [if_pos rfl]
    have s0 := True.intro
    go_enter Try.func62, Try.ntmps62
    go_wp2_with (first
      | (clear s0; go_at_call 63; refine (ropen_any M.key hke ao n cp b _ hr hn m 9 ho).mono ?_; rintro e w1 ⟨a1, c1, rfl, ho1, hb1⟩; obtain ⟨y0, y1, y2, y3, y4, y5, y6, y7, g2, g3, g4, g5, g6, g7⟩ := ref_cells (HQ.out.below hf hb1).str; have s1 := True.intro))
    go_ret2
    obtain ⟨q1, q2⟩ := (HQ.out.below hf hb1).store (M' := { M with forged := M.forged + 1 }) (hf.below hb1) hk 7 (.int .i64 ((M.forged : Int) + 1)) (by simp [refCells]) HQ.out.wait HQ.out.ack rfl
    exact ⟨c, _, (Stp.of_below hf hb1).trans q2, q1.shut, rfl, ListC.nil _ _⟩
  · rw [if_neg h9]
    have h9' : (er == 9) = false := by simpa using h9
    have s0 := True.intro
    go_enter Try.func62, Try.ntmps62
    go_wp2_with (first
      | (clear s0; go_at_call 63; refine (ropen_any M.key hke ao n cp b _ hr hn m er ho).mono ?_; rintro e w1 ⟨a1, c1, rfl, ho1, hb1⟩; have s1 := True.intro))
    go_ret2
    exact ⟨c, _, Stp.of_below hf hb1, (HQ.out.below hf hb1).shut, rfl, ListC.nil _ _⟩

set_option maxRecDepth 100000 in
set_option maxHeartbeats 1000000 in
theorem rin_none (c : Nat → Nat) (k p : Nat) (M : EndM) (S : List (List UInt8)) (w : World) (hf : Fr c w) (hw : Wf M) (h : REndV c k w p M S) (ao : Option Addr) (n cp : Nat) (b : List UInt8) (hr : SlV w ao n cp 1 (bvs b)) (hn : n ≤ 100000000000) (m : List UInt8) (ho : openB M.key b = (m, 0)) (hm : m.length ≤ 100000000000) (hrd : readB m = none) :
    Calls Try.prog 62 #[.pointer (some ⟨p, 0, none⟩), .slice ao n cp] w (RInP c k w p M S [] 2) := by
  have hke := hw.key
  obtain ⟨so, sc, ho', hc, vs, us, hl, hQ⟩ := h.open
  obtain ⟨x0, x1, x2, x3, x4, x5, x6, x7, f2, f3, f4, f5, f6, f7⟩ := ref_cells hQ.str
  have HQ := Lib.hid hQ
  clear h hQ
  have s0 := True.intro
  go_enter Try.func62, Try.ntmps62
  go_wp2_with (first
    | (clear s0; go_at_call 63; refine (ropen_any M.key hke ao n cp b _ hr hn m 0 ho).mono ?_; rintro e w1 ⟨a1, c1, rfl, ho1, hb1⟩; have s1 := True.intro)
    | (clear s1; go_at_call 75; refine (rread_any a1 _ c1 m _ ho1 hm none hrd).mono ?_; rintro e w2 ⟨r0, r1, r2, r3, r4, rfl, hb2⟩; have s2 := True.intro))
  go_ret2
  have hb12 := hb1.trans (hb2.mono hb1.size)
  have hb3 := hb12.alloc hb12.size (.cells #[.int .i64 r0, .int .i64 r1, .slice r2 r3 r4] 62)
  exact ⟨c, _, Stp.of_below hf hb3, (HQ.out.below hf hb3).shut, rfl, ListC.nil _ _⟩

/-- The cells of a packet's variable. -/
theorem rpkt_cells {w : World} {P : Nat} {x0 x1 x2 : Value} (h : w.heap[P]? = some (.cells #[x0, x1, x2] 62 (0, 0))) : w.cell? ⟨P, 0, none⟩ = some x0 ∧ w.cell? ⟨P, 1, none⟩ = some x1 ∧ w.cell? ⟨P, 2, none⟩ = some x2 :=
  ⟨(cells_of h 0).1, (cells_of h 1).1, (cells_of h 2).1⟩

set_option maxRecDepth 100000 in
set_option maxHeartbeats 1000000 in
theorem rin_far (c : Nat → Nat) (k p : Nat) (M : EndM) (S : List (List UInt8)) (w : World) (hf : Fr c w) (hw : Wf M) (h : REndV c k w p M S) (ao : Option Addr) (n cp : Nat) (b : List UInt8) (hr : SlV w ao n cp 1 (bvs b)) (hn : n ≤ 100000000000) (m : List UInt8) (ho : openB M.key b = (m, 0)) (hm : m.length ≤ 100000000000) (seq ack : Int) (l : List UInt8) (hrd : readB m = some (seq, ack, l))
    (hfar : (M.acked : Int) + M.waiting.length < ack ∨ (M.delivered : Int) + 16 < seq) :
    Calls Try.prog 62 #[.pointer (some ⟨p, 0, none⟩), .slice ao n cp] w (RInP c k w p M S [] 0) := by
  have hke := hw.key
  have hde := hw.del
  obtain ⟨so, sc, ho', hc, vs, us, hl, hQ⟩ := h.open
  obtain ⟨x0, x1, x2, x3, x4, x5, x6, x7, f2, f3, f4, f5, f6, f7⟩ := ref_cells hQ.str
  have hwl : (M.acked : Int) + M.waiting.length = (S.length : Int) := by have := hQ.ack; rw [hQ.wait, List.length_drop]; omega
  rw [hwl] at hfar
  have HQ := Lib.hid hQ
  have HF := Lib.hid hfar
  clear h hQ hfar
  have s0 := True.intro
  go_enter Try.func62, Try.ntmps62
  go_upto_region 9 with (first
    | (clear s0; go_at_call 63; refine (ropen_any M.key hke ao n cp b _ hr hn m 0 ho).mono ?_; rintro e w1 ⟨a1, c1, rfl, ho1, hb1⟩; have s1 := True.intro)
    | (clear s1; go_at_call 75; refine (rread_any a1 _ c1 m _ ho1 hm _ hrd).mono ?_; rintro e w2 ⟨ta, tc, rfl, hta, htb, hb2⟩; have s2 := True.intro))
  have hb12 := hb1.trans (hb2.mono hb1.size)
  have hb3 := hb12.alloc hb12.size (.cells #[.int .i64 seq, .int .i64 ack, .slice ta l.length tc] 62)
  have hP : (w2.alloc (.cells #[.int .i64 seq, .int .i64 ack, .slice ta l.length tc] 62)).heap[w2.heap.size]? = some (.cells #[.int .i64 seq, .int .i64 ack, .slice ta l.length tc] 62 (0, 0)) := heap_alloc_new w2 _
  generalize w2.alloc (.cells #[.int .i64 seq, .int .i64 ack, .slice ta l.length tc] 62) = W3 at hb3 hP ⊢
  generalize w2.heap.size = P at hP ⊢
  clear x0 x1 x2 x3 x4 x5 x6 x7 f2 f3 f4 f5 f6 f7 hta ho1
  obtain ⟨x0, x1, x2, x3, x4, x5, x6, x7, f2, f3, f4, f5, f6, f7⟩ := ref_cells (HQ.out.below hf hb3).str
  obtain ⟨y0, y1, y2⟩ := rpkt_cells hP
  have e2 : IntKind.i64.wrap ((M.delivered : Int) + 16) = (M.delivered : Int) + 16 := IntWalk.i64_in _ (by omega)
  by_cases hA : (S.length : Int) < ack
  · have hd : decide ((S.length : Int) < ack) = true := by simpa using hA
    go_quiet (fail)
    go_wp2
    go_ret2
    have hb4 := below_drewN hb3 nq
    exact ⟨c, _, Stp.of_below hf hb4, (HQ.out.below hf hb4).shut, rfl, ListC.nil _ _⟩
  · have hd : decide ((S.length : Int) < ack) = false := by simpa using hA
    have hB : (M.delivered : Int) + 16 < seq := by have := HF.out; omega
    have hd2 : decide ((M.delivered : Int) + 16 < seq) = true := by simpa using hB
    go_quiet (fail)
    go_wp2
    go_ret2
    have hb4 := below_drewN hb3 nq
    exact ⟨c, _, Stp.of_below hf hb4, (HQ.out.below hf hb4).shut, rfl, ListC.nil _ _⟩

end Go.Proofs.Ytcpemgfpiapaaaa

namespace Go.Proofs.Ytcpemgfpiapaaaa
open Go.RowKit

/-- While a packet is taken: the end, and the packet's variable. -/
structure RTak (c : Nat → Nat) (k p P : Nat) (w wx : World) (M : EndM) (S : List (List UInt8)) (seq ack : Int) (l : List UInt8) (ta : Option Addr) (tc : Nat) : Prop where
  stp : Stp c c k w wx
  fin : REndV c k wx p M S
  pkt : wx.heap[P]? = some (.cells #[.int .i64 seq, .int .i64 ack, .slice ta l.length tc] 62 (0, 0))
  col : c P = 0
  row : RowC c wx (.slice ta l.length tc) l

theorem RTak.step {c : Nat → Nat} {k p P : Nat} {w wx W : World} {M M' : EndM} {S : List (List UInt8)} {seq ack : Int} {l : List UInt8} {ta : Option Addr} {tc : Nat} (h : RTak c k p P w wx M S seq ack l ta tc) (hk : k ≠ 0) (hs : Stp c c k wx W) (hE : REndV c k W p M' S) : RTak c k p P w W M' S seq ack l ta tc :=
  ⟨h.stp.trans hs, hE, (hs.keep P (Array.getElem?_eq_some_iff.1 h.pkt).1 (by rw [h.col]; exact fun e => hk e.symm)).trans h.pkt, h.col, h.row.stp hs hk⟩

theorem RTak.drewN {c : Nat → Nat} {k p P : Nat} {w wx : World} {M : EndM} {S : List (List UInt8)} {seq ack : Int} {l : List UInt8} {ta : Option Addr} {tc : Nat} (h : RTak c k p P w wx M S seq ack l ta tc) (hk : k ≠ 0) (q : Nat) : RTak c k p P w (wx.drewN q) M S seq ack l ta tc :=
  h.step hk (Stp.of_below h.stp.fr (below_drewN (Below.refl _ _) q)) (h.fin.below h.stp.fr (below_drewN (Below.refl _ _) q))

theorem drop_ack {S : List (List UInt8)} {M : EndM} (hw : M.waiting = S.drop M.acked) (ha : M.acked ≤ S.length) {ack : Int} (h : ack ≤ S.length) : (ackM M ack).waiting = S.drop (ackM M ack).acked ∧ (ackM M ack).acked ≤ S.length ∧ ((ackM M ack).acked : Int) = max (M.acked : Int) ack := by
  unfold ackM
  split
  · rename_i hp
    refine ⟨?_, by show ack.toNat ≤ _; omega, by show (ack.toNat : Int) = _; omega⟩
    show M.waiting.drop (ack - M.acked).toNat = S.drop ack.toNat
    rw [hw, List.drop_drop]
    congr 1
    omega
  · rename_i hp
    exact ⟨hw, ha, by omega⟩

theorem deliv_gap {M : EndM} (h : M.held ((M.delivered : Int) + 1) = none) : delivM M = M ∧ delivL M = [] := by
  have e : delivF 17 M.delivered M.held [] = (M.delivered, M.held, []) := by
    show delivF (16 + 1) _ _ _ = _
    simp [delivF, h]
  unfold delivM delivL
  rw [e]
  exact ⟨rfl, rfl⟩

theorem RQ.pushHeld {c : Nat → Nat} {k p g cap : Nat} {w W w1 : World} {M : EndM} {S : List (List UInt8)} {so ho : Option Addr} {sc hc : Nat} {vs : List Value} {us : List (Int × Value)} {hl : List (List UInt8)} (h : RQ c k w p M S so sc ho hc vs us hl)
    (hf : Fr c w) (hk : k ≠ 0) (hb : Below w.heap.size w W) {v : Value} {l : List UInt8} {q : Int} (hv : RowC c W v l) (hq : M.held q = none) (hown : w1.ownsRow 0 114 2 (.slice (some ⟨g, 0, none⟩) (us.length + 1) cap) (us.length + 1) (hcells us ++ [.int .i64 q, v]))
    {row : Option Nat} (hgrow : W.grownBy w1 row) (hrow : row = (Value.slice ho us.length hc).ownBlock) (hat : row = some g ∨ g = W.heap.size) (hlt : g < w1.heap.size) :
    ∃ c2, Stp c c2 k w (w1.setCell ⟨p, 5, none⟩ (.slice (some ⟨g, 0, none⟩) (us.length + 1) cap)) ∧ REndV c2 k (w1.setCell ⟨p, 5, none⟩ (.slice (some ⟨g, 0, none⟩) (us.length + 1) cap)) p { M with held := putH M.held q l } S := by
  subst hrow
  have hp := h.lt
  have hsz := hb.size
  have hne : some p ≠ (Value.slice ho us.length hc).ownBlock := by
    intro e
    cases ho with
    | none => cases e
    | some a => injection e with e; exact (h.hrow a rfl).2 e.symm
  obtain ⟨c2, s1, s2, e3, e4⟩ := grow_stp (k := k) hf (fun x hx => by
    cases ho with
    | none => cases hx
    | some a => injection hx with hx; subst hx; exact ⟨(own_of h.hown a rfl).choose_spec.2, (h.hrow a rfl).1⟩) hb hgrow hat hlt
  have hp1 : w1.heap[p]? = w.heap[p]? := (hgrow.block p (by omega) hne).trans (hb.block p hp)
  have hc1 : hcells us ++ [.int .i64 q, v] = hcells (us ++ [(q, v)]) := by rw [hcells_app]; rfl
  rw [hc1] at hown
  have hm1 : (us ++ [(q, v)]).map (·.1) = us.map (·.1) ++ [q] := by simp
  have hm2 : (us ++ [(q, v)]).map (·.2) = us.map (·.2) ++ [v] := by simp
  obtain ⟨q1, q2⟩ := h.reheld s1 hk hp1 (fun a ha => by
      have hl := (own_of h.own a ha).choose_spec.2
      refine (hgrow.block _ (by omega) (fun e => ?_)).trans (hb.block _ hl)
      cases ho with
      | none => cases e
      | some a' => injection e with e; exact h.two ha rfl e)
    (us' := us ++ [(q, v)]) (hl' := hl ++ [l]) (held' := putH M.held q l) (n' := us.length + 1) (by simp) hown (by rw [hm2]; exact (h.hrows.stp s1 hk).snoc (hv.stp s2 hk)) (fun a ha => by
      cases ha
      refine ⟨e3, fun e => ?_⟩
      simp only at e
      rcases hat with hat | hat
      · exact hne (hat.trans (congrArg some e)).symm
      · omega) (by rw [hm1]; exact h.held.push hq l)
  exact ⟨c2, q2, q1.shut⟩

/-- A colour that no block has. -/
theorem fresh_col {c : Nat → Nat} {w : World} (hf : Fr c w) (k : Nat) : ∃ k2, k2 ≠ 0 ∧ k2 ≠ k ∧ ∀ b, c b ≠ k2 := by
  have hN : ∀ n : Nat, ∃ N, ∀ b, b < n → c b ≤ N := by
    intro n
    induction n with
    | zero => exact ⟨0, fun b hb => by omega⟩
    | succ n ih =>
      obtain ⟨N, hN⟩ := ih
      refine ⟨max N (c n), fun b hb => ?_⟩
      by_cases e : b = n
      · subst e; omega
      · have := hN b (by omega); omega
  obtain ⟨N, hN⟩ := hN w.heap.size
  refine ⟨N + k + 1, by omega, by omega, fun b => ?_⟩
  rcases Nat.lt_or_ge b w.heap.size with h | h
  · have := hN b h; omega
  · rw [hf b h]; omega

/-- A step of a colour that was not there goes with the others. -/
theorem Stp.trans_new {c c1 c2 : Nat → Nat} {k k2 : Nat} {w wr w1 : World} (h : Stp c c1 k w wr) (g : Stp c1 c2 k2 wr w1) (hn : ∀ b, c b ≠ k2) : Stp c c2 k w w1 :=
  ⟨g.os.trans h.os, g.tape.trans h.tape, g.output.trans h.output, Nat.le_trans h.size g.size,
   fun x hx => (g.col x (Nat.lt_of_lt_of_le hx h.size)).trans (h.col x hx),
   fun x hx hc => (g.keep x (Nat.lt_of_lt_of_le hx h.size) (by rw [h.col x hx]; exact hn x)).trans (h.keep x hx hc), g.fresh⟩

/-- The reference's end, while it delivers. -/
structure RDlv (c c1 : Nat → Nat) (k k2 p : Nat) (w wr : World) (M : EndM) (S : List (List UInt8)) (d : Nat) (h : Int → Option (List UInt8)) (ao : Option Addr) (cap n : Nat) (vs : List Value) (out : List (List UInt8)) : Prop where
  stp : Stp c c1 k w wr
  fin : REndV c1 k wr p { M with delivered := d, held := h } S
  own : wr.ownsRow w.heap.size 28 1 (.slice ao n cap) n vs
  rows : RowsC c1 wr vs out
  col : ∀ a, ao = some a → c1 a.block = k2

section
variable {c c1 : Nat → Nat} {k k2 p : Nat} {w wr : World} {M : EndM} {S : List (List UInt8)} {d : Nat} {h : Int → Option (List UInt8)} {ao : Option Addr} {cap n : Nat} {vs : List Value} {out : List (List UInt8)} (D : RDlv c c1 k k2 p w wr M S d h ao cap n vs out)
include D

/-- The end goes on; what is delivered stands. -/
theorem RDlv.turn {c3 : Nat → Nat} {w3 : World} {d3 : Nat} {h3 : Int → Option (List UInt8)} (hk : k ≠ 0) (h2 : k2 ≠ k) (hs : Stp c1 c3 k wr w3) (hE : REndV c3 k w3 p { M with delivered := d3, held := h3 } S) : RDlv c c3 k k2 p w w3 M S d3 h3 ao cap n vs out := by
  have hlt : ∀ a, ao = some a → a.block < wr.heap.size := fun a ha => (own_of D.own a ha).choose_spec.2
  refine ⟨D.stp.trans hs, hE, ownsRow_of D.own (fun g hg => ?_), D.rows.stp hs hk, fun a ha => (hs.col _ (hlt a ha)).trans (D.col a ha)⟩
  cases ao with
  | none => cases hg
  | some a =>
    injection hg with hg
    subst hg
    exact hs.keep _ (hlt a rfl) (by rw [D.col a rfl]; exact h2)

/-- One more is delivered. -/
theorem RDlv.push {g cap2 : Nat} {W w1 : World} {v : Value} {l : List UInt8} (h0 : k2 ≠ 0) (h2 : k2 ≠ k) (hn : ∀ b, c b ≠ k2) (hb : Below wr.heap.size wr W) (hv : RowC c1 W v l)
    {row : Option Nat} (hrow : row = (Value.slice ao n cap).ownBlock) (hown : w1.ownsRow w.heap.size 28 1 (.slice (some ⟨g, 0, none⟩) (n + 1) cap2) (n + 1) (vs ++ [v])) (hgrow : W.grownBy w1 row) (hat : row = some g ∨ g = W.heap.size) (hlt : g < w1.heap.size) :
    ∃ c2, Stp c1 c2 k2 wr w1 ∧ RDlv c c2 k k2 p w w1 M S d h (some ⟨g, 0, none⟩) cap2 (n + 1) (vs ++ [v]) (out ++ [l]) := by
  obtain ⟨c2, s1, s2, s3, s4⟩ := rows_push D.stp.fr h0 D.own D.rows D.col hb hv hrow hgrow hat hlt
  exact ⟨c2, s1, D.stp.trans_new s1 hn, D.fin.stp s1 (Ne.symm h2) h0, hown, s2, fun a ha => by cases ha; exact s3⟩

/-- At the end the list takes no colour. -/
theorem RDlv.close (h2 : k2 ≠ k) (hn : ∀ b, c b ≠ k2) : ∃ c', Stp c c' k w wr ∧ REndV c' k wr p { M with delivered := d, held := h } S ∧ ListC c' wr (.slice ao n cap) out := by
  have hq : out.length = n := by have := D.own.1; rw [← D.rows.1]; omega
  obtain ⟨c', hc'⟩ : ∃ c' : Nat → Nat, ∀ b, c' b = if c1 b = k2 then 0 else c1 b := ⟨_, fun _ => rfl⟩
  have hz : ∀ b, c1 b = 0 → c' b = 0 := fun b e => by rw [hc', e]; split <;> rfl
  have hkk : ∀ b, c1 b = k → c' b = k := fun b e => by rw [hc', if_neg (by rw [e]; exact Ne.symm h2)]; exact e
  have hrow : ∀ {v : Value} {l : List UInt8}, RowC c1 wr v l → RowC c' wr v l := by
    rintro v l ⟨a, cp, e, hsl, hc⟩
    exact ⟨a, cp, e, hsl, fun x hx hl => hz _ (hc x hx hl)⟩
  have hrows : ∀ {vs : List Value} {ls : List (List UInt8)}, RowsC c1 wr vs ls → RowsC c' wr vs ls := fun hr => ⟨hr.1, fun i v l a b => hrow (hr.2 i v l a b)⟩
  obtain ⟨so, sc, ho, hc, vs', us, hl, hQ⟩ := D.fin
  refine ⟨c', ⟨D.stp.os, D.stp.tape, D.stp.output, D.stp.size, fun b hb => ?_, D.stp.keep, fun b hb => hz b (D.stp.fresh b hb)⟩, ⟨so, sc, ho, hc, vs', us, hl, hQ.str, hkk _ hQ.cp, hQ.own, hrows hQ.rows, fun a ha => ⟨hkk _ (hQ.row a ha).1, (hQ.row a ha).2⟩, hQ.hown, hrows hQ.hrows, fun a ha => ⟨hkk _ (hQ.hrow a ha).1, (hQ.hrow a ha).2⟩, hQ.wait, hQ.ack, hQ.held⟩, ao, cap, vs, by rw [hq], by rw [hq]; exact ownsRow_sl D.own, hrows D.rows, fun x hx hl => ?_⟩
  · rw [hc', D.stp.col b hb, if_neg (hn b)]
  · rw [hc', if_pos (D.col x hx)]

end

/-- The held message number t, taken out: the row is laid anew. -/
theorem RQ.takeOut {c : Nat → Nat} {k p t : Nat} {w w1 : World} {M : EndM} {S : List (List UInt8)} {so ho : Option Addr} {sc hc : Nat} {vs : List Value} {us : List (Int × Value)} {hl : List (List UInt8)} (h : RQ c k w p M S so sc ho hc vs us hl)
    (hf : Fr c w) (hk : k ≠ 0) (hb : Below w.heap.size w w1) {q : Int} (ht : (us.map (·.1))[t]? = some q) {ho' : Option Addr} {hc' : Nat} (hown : w1.ownsRow w.heap.size 114 2 (.slice ho' (t + (us.length - (t + 1))) hc') (t + (us.length - (t + 1))) (hcells (us.take t) ++ hcells (us.drop (t + 1)))) :
    ∃ c2, Stp c c2 k w (w1.setCell ⟨p, 5, none⟩ (.slice ho' (t + (us.length - (t + 1))) hc')) ∧ REndV c2 k (w1.setCell ⟨p, 5, none⟩ (.slice ho' (t + (us.length - (t + 1))) hc')) p { M with held := delH M.held q } S := by
  have hp := h.lt
  have htl : t < us.length := by have := (List.getElem?_eq_some_iff.1 ht).1; rwa [List.length_map] at this
  obtain ⟨c2, s1, e3⟩ : ∃ c2, Stp c c2 k w w1 ∧ ∀ a, ho' = some a → c2 a.block = k := by
    cases ho' with
    | none => exact ⟨c, Stp.of_below hf hb, fun a ha => by cases ha⟩
    | some a =>
      obtain ⟨c2, s1, e3, _⟩ := below_stp k hf hb (hown.lt a.block rfl).1 (hown.lt a.block rfl).2
      exact ⟨c2, s1, fun a' ha' => by cases ha'; exact e3⟩
  rw [← hcells_app] at hown
  have hlen : (us.take t ++ us.drop (t + 1)).length = t + (us.length - (t + 1)) := by rw [List.length_append, List.length_take, List.length_drop]; omega
  have hrows : RowsC c2 w1 ((us.take t ++ us.drop (t + 1)).map (·.2)) (hl.take t ++ hl.drop (t + 1)) := by
    have hr := h.hrows.stp s1 hk
    have h1 : (us.take t ++ us.drop (t + 1)).map (·.2) = (us.map (·.2)).eraseIdx t := by rw [List.eraseIdx_eq_take_drop_succ]; simp
    rw [h1, ← List.eraseIdx_eq_take_drop_succ]
    have hl1 : t < (us.map (·.2)).length := by rw [List.length_map]; exact htl
    have hl2 : t < hl.length := by rw [← hr.1]; exact hl1
    refine ⟨by rw [List.length_eraseIdx_of_lt hl1, List.length_eraseIdx_of_lt hl2, hr.1], fun i v l a b => ?_⟩
    rw [List.getElem?_eraseIdx] at a b
    split at a
    · rename_i hlt; rw [if_pos hlt] at b; exact hr.2 _ v l a b
    · rename_i hlt; rw [if_neg hlt] at b; exact hr.2 _ v l a b
  obtain ⟨q1, q2⟩ := h.reheld s1 hk (hb.block p hp) (fun a ha => hb.block _ (own_of h.own a ha).choose_spec.2) (us' := us.take t ++ us.drop (t + 1)) (hl' := hl.take t ++ hl.drop (t + 1)) (held' := delH M.held q) hlen.symm (ownsRow_base hown (Nat.zero_le _)) hrows
    (fun a ha => ⟨e3 a ha, fun e => by subst ha; have := (hown.lt a.block rfl).1; omega⟩)
    (by have e : (us.take t ++ us.drop (t + 1)).map (·.1) = (us.map (·.1)).take t ++ (us.map (·.1)).drop (t + 1) := by simp
        rw [e]; exact h.held.del ht)
  exact ⟨c2, q2, q1.shut⟩

end Go.Proofs.Ytcpemgfpiapaaaa

namespace Go.Proofs.Ytcpemgfpiapaaaa
open Go.RowKit

set_option maxRecDepth 100000 in
set_option maxHeartbeats 2000000 in
theorem rin_main (c : Nat → Nat) (k p : Nat) (M : EndM) (S : List (List UInt8)) (w : World) (hf : Fr c w) (hk : k ≠ 0) (hw : Wf M) (hsm : M.acked ≤ 999000000 ∧ M.delivered ≤ 999000000) (hgap : M.held ((M.delivered : Int) + 1) = none) (h : REndV c k w p M S) (ao : Option Addr) (n cp : Nat) (b : List UInt8) (hr : SlV w ao n cp 1 (bvs b)) (hn : n ≤ 100000000000) (m : List UInt8) (ho : openB M.key b = (m, 0)) (hm : m.length ≤ 100000000000) (seq ack : Int) (l : List UInt8) (hrd : readB m = some (seq, ack, l))
    (hA : ¬ (M.acked : Int) + M.waiting.length < ack) (hB : ¬ (M.delivered : Int) + 16 < seq) :
    Calls Try.prog 62 #[.pointer (some ⟨p, 0, none⟩), .slice ao n cp] w (RInP c k w p (if seq = 0 then ackM M ack else delivM (holdM (ackM M ack) seq l)) S (if seq = 0 then [] else delivL (holdM (ackM M ack) seq l)) 0) := by
  have hke := hw.key
  have hde := hw.del
  have hva := read_valid hrd
  have hseq0 : 0 ≤ seq := hva.1
  have hack0 : 0 ≤ ack := hva.2.1
  have hll : l.length ≤ 65536 := hva.2.2.1
  have hwA := ackM_wf hw (ack := ack) (by omega) hsm.1
  obtain ⟨nd, nh, nk⟩ := ackM_fields M ack
  obtain ⟨so, sc, ho', hc, vs, us, hl, hQ⟩ := h.open
  have hwl : (M.acked : Int) + M.waiting.length = (S.length : Int) := by have := hQ.ack; rw [hQ.wait, List.length_drop]; omega
  rw [hwl] at hA
  obtain ⟨wa1, wa2, wa3⟩ := drop_ack hQ.wait hQ.ack (ack := ack) (by omega)
  have hown : (ackM M ack).window = M.window ∧ (ackM M ack).owing = M.owing ∧ (ackM M ack).forged = M.forged := by unfold ackM; split <;> exact ⟨rfl, rfl, rfl⟩
  obtain ⟨N', hN'⟩ : ∃ N', ackM M ack = N' := ⟨_, rfl⟩
  rw [hN'] at hwA nd nh nk wa1 wa2 wa3 hown ⊢
  obtain ⟨R1, hR1⟩ : ∃ R1, (if seq = 0 then N' else delivM (holdM N' seq l)) = R1 := ⟨_, rfl⟩
  obtain ⟨R2, hR2⟩ : ∃ R2, (if seq = 0 then ([] : List (List UInt8)) else delivL (holdM N' seq l)) = R2 := ⟨_, rfl⟩
  rw [hR1, hR2]
  have HR1 := Lib.hid hR1
  have HR2 := Lib.hid hR2
  have HOWN := Lib.hid hown
  clear hN' hR1 hR2 hwl hown
  obtain ⟨x0, x1, x2, x3, x4, x5, x6, x7, f2, f3, f4, f5, f6, f7⟩ := ref_cells hQ.str
  have HQ := Lib.hid hQ
  have HW := Lib.hid hw
  have HWA := Lib.hid hwA
  have HWA1 := Lib.hid wa1
  have HGAP := Lib.hid hgap
  clear h hQ hw hva hwA wa1 hgap
  have s0 := True.intro
  go_enter Try.func62, Try.ntmps62
  go_upto_region 9 with (first
    | (clear s0; go_at_call 63; refine (ropen_any M.key hke ao n cp b _ hr hn m 0 ho).mono ?_; rintro e w1 ⟨a1, c1, rfl, ho1, hb1⟩; have s1 := True.intro)
    | (clear s1; go_at_call 75; refine (rread_any a1 _ c1 m _ ho1 hm _ hrd).mono ?_; rintro e w2 ⟨ta, tc, rfl, hta, htb, hb2⟩; have s2 := True.intro))
  have hb12 := hb1.trans (hb2.mono hb1.size)
  have hb3 := hb12.alloc hb12.size (.cells #[.int .i64 seq, .int .i64 ack, .slice ta l.length tc] 62)
  have hT : RTak c k p w2.heap.size w (w2.alloc (.cells #[.int .i64 seq, .int .i64 ack, .slice ta l.length tc] 62)) M S seq ack l ta tc :=
    ⟨Stp.of_below hf hb3, (HQ.out.below hf hb3).shut, heap_alloc_new w2 _, hf _ hb12.size, ta, tc, rfl, hta.below ((Below.refl _ _).alloc (Nat.le_refl _) _) (Nat.le_refl _), fun x hx _ => hf _ (Nat.le_trans hb1.size (htb x hx))⟩
  generalize w2.alloc (.cells #[.int .i64 seq, .int .i64 ack, .slice ta l.length tc] 62) = W3 at hb3 hT ⊢
  generalize w2.heap.size = P at hT ⊢
  clear x0 x1 x2 x3 x4 x5 x6 x7 f2 f3 f4 f5 f6 f7 hta ho1 htb
  have HQ3 := Lib.hid (HQ.out.below hf hb3)
  obtain ⟨x0, x1, x2, x3, x4, x5, x6, x7, f2, f3, f4, f5, f6, f7⟩ := ref_cells HQ3.out.str
  obtain ⟨y0, y1, y2⟩ := rpkt_cells hT.pkt
  have HT := Lib.hid hT
  clear hT
  have e2 : IntKind.i64.wrap ((M.delivered : Int) + 16) = (M.delivered : Int) + 16 := IntWalk.i64_in _ (by omega)
  have hdA : decide ((S.length : Int) < ack) = false := by simpa using hA
  have hdB : decide ((M.delivered : Int) + 16 < seq) = false := by simpa using hB
  go_quiet (fail)
  have hT4 := HT.out.drewN hk nq
  have hQ4 := HQ3.out.below HT.out.stp.fr (below_drewN (Below.refl _ _) nq)
  generalize W3.drewN nq = W4 at hT4 hQ4 ⊢
  clear x0 x1 x2 x3 x4 x5 x6 x7 f2 f3 f4 f5 f6 f7 y0 y1 y2 HT HQ3 hb3
  have hQ4 : RQ c k W4 p M S so sc ho' hc vs us hl := hQ4
  have HF4 := Lib.hid hT4.stp.fr
  obtain ⟨x0, x1, x2, x3, x4, x5, x6, x7, f2, f3, f4, f5, f6, f7⟩ := ref_cells hQ4.str
  obtain ⟨y0, y1, y2⟩ := rpkt_cells hT4.pkt
  have HT4 := Lib.hid hT4
  have HQ4 := Lib.hid hQ4
  clear hT4 hQ4
  go_upto_region 11 with fail
  go_cut [67] (fun _ wx => RTak c k p P w wx N' S seq ack l ta tc ∧ RQ c k wx p N' S so sc ho' hc vs us hl)
  case first =>
    have fin : ∀ d, RTak c k p P w ((W4.drewN d).setCell ⟨p, 3, none⟩ (.int .i64 (max (M.acked : Int) ack))) N' S seq ack l ta tc ∧ RQ c k ((W4.drewN d).setCell ⟨p, 3, none⟩ (.int .i64 (max (M.acked : Int) ack))) p N' S so sc ho' hc vs us hl := fun d => by
      have hb := below_drewN (Below.refl W4.heap.size W4) d
      obtain ⟨q5, s5⟩ := (HQ4.out.below HF4.out hb).store (M' := N') (HF4.out.below hb) hk 3 (.int .i64 (max (M.acked : Int) ack)) (by obtain ⟨o1, o2, o3⟩ := HOWN.out; simp [refCells, o1, o2, o3, nd, nk, wa3]) HWA1.out wa2 nh
      exact ⟨(HT4.out.drewN hk d).step hk s5 q5.shut, q5⟩
    by_cases hmx : (M.acked : Int) < ack
    · have emx : max (M.acked : Int) ack = ack := by omega
      rw [emx] at fin
      have FIN := Lib.hid fin
      clear fin
      go_region
      all_goals go_wp2_with fail
      all_goals go_meet
      all_goals exact FIN.out 1
    · have emx : max (M.acked : Int) ack = M.acked := by omega
      rw [emx] at fin
      have FIN := Lib.hid fin
      clear fin
      go_region
      all_goals go_wp2_with fail
      all_goals go_meet
      all_goals exact FIN.out 1
  case rest =>
    obtain ⟨hT6, hQ6⟩ := hcut
    have HF6 := Lib.hid hT6.stp.fr
    clear x0 x1 x2 x3 x4 x5 x6 x7 f2 f3 f4 f5 f6 f7 y0 y1 y2 HT4 HQ4 HF4 HQ e2 hdA hdB
    obtain ⟨x0, x1, x2, x3, x4, x5, x6, x7, f2, f3, f4, f5, f6, f7⟩ := ref_cells hQ6.str
    obtain ⟨y0, y1, y2⟩ := rpkt_cells hT6.pkt
    have HT6 := Lib.hid hT6
    have HQ6 := Lib.hid hQ6
    clear hT6 hQ6
    by_cases h0 : seq = 0
    · have h1 := HR1.out
      have h2 := HR2.out
      rw [if_pos h0] at h1 h2
      subst h1 h2
      have h0' : (seq == 0) = true := by simpa using h0
      go_wp2
      go_ret2
      exact ⟨c, _, HT6.out.stp, HT6.out.fin, rfl, ListC.nil _ _⟩
    · have h1 := HR1.out
      have h2 := HR2.out
      rw [if_neg h0] at h1 h2
      subst h1 h2
      clear HR1 HR2
      have h0' : (seq == 0) = false := by simpa using h0
      obtain ⟨hQ7, s7⟩ := HQ6.out.store (M' := { N' with owing := true }) HF6.out hk 6 (.bool true) (by simp [refCells]) HWA1.out wa2 rfl
      have hT7 := HT6.out.step hk s7 hQ7.shut
      have hwh := holdM_wf HWA.out (seq := seq) (l := l) (by rw [nd]; omega) hll
      have hsd : seq ≤ (N'.delivered : Int) + 16 := by rw [nd]; omega
      have hdn : N'.delivered ≤ 1000000000 := HWA.out.del
      have hgN : N'.held ((N'.delivered : Int) + 1) = none := by rw [nh, nd]; exact HGAP.out
      have HGN := Lib.hid hgN
      clear nd nh nk wa3 hgN HGAP HOWN
      go_upto_region 15 with fail
      generalize wc.setCell ⟨p, 6, none⟩ (.bool true) = W7 at hQ7 s7 hT7 ⊢
      clear x0 x1 x2 x3 x4 x5 x6 x7 f2 f3 f4 f5 f6 f7 y0 y1 y2 HT6 HQ6 s7 HF6
      obtain ⟨x0, x1, x2, x3, x4, x5, x6, x7, f2, f3, f4, f5, f6, f7⟩ := ref_cells hQ7.str
      obtain ⟨y0, y1, y2⟩ := rpkt_cells hT7.pkt
      have HF7 := Lib.hid hT7.stp.fr
      have HT7 := Lib.hid hT7
      have HQ7 := Lib.hid hQ7
      clear hT7 hQ7
      by_cases hle : seq ≤ (N'.delivered : Int)
      · have hd : decide (seq ≤ (N'.delivered : Int)) = true := decide_eq_true hle
        have eH : holdM N' seq l = { N' with owing := true } := by unfold holdM; rw [if_neg (by omega)]
        obtain ⟨g1, g2'⟩ := deliv_gap (M := { N' with owing := true }) HGN.out
        rw [eH, g1, g2']
        go_quiet (fail)
        go_wp2
        go_ret2
        have hT8 := HT7.out.drewN hk nq
        exact ⟨c, _, hT8.stp, hT8.fin, rfl, ListC.nil _ _⟩
      · have hd : decide (seq ≤ (N'.delivered : Int)) = false := decide_eq_false hle
        cases hq : N'.held seq with
        | some l0 =>
          obtain ⟨t, ht1, ht2, ht3⟩ := HQ7.out.held.find hq
          have hge : decide ((0 : Int) ≤ (t : Int)) = true := decide_eq_true (by omega)
          have eH : holdM N' seq l = { N' with owing := true } := by unfold holdM; rw [if_neg (by rw [hq]; simp)]
          obtain ⟨g1, g2'⟩ := deliv_gap (M := { N' with owing := true }) HGN.out
          rw [eH, g1, g2']
          have hfq : ∀ d, Calls Try.prog 76 #[.pointer (some ⟨p, 0, none⟩), .int .i64 seq] (W7.drewN d) (fun e w' => e = .returned (.int .i64 (t : Int)) ∧ ∃ n, w' = (W7.drewN d).drewN n) := fun d =>
            (find_any _ _ _ _ _ _ _ _ _ _ _ _ _ (HQ7.out.below HF7.out (below_drewN (Below.refl _ _) d)) seq _ ht3).mono (fun e w' h => ⟨h.1, 0, h.2⟩)
          go_quiet (first
            | (go_at_call 76; refine Calls.quiet_of (hfq _)))
          go_wp2
          go_ret2
          have hT8 := HT7.out.drewN hk nq
          exact ⟨c, _, hT8.stp, hT8.fin, rfl, ListC.nil _ _⟩
        | none =>
          have ht3 := HQ7.out.held.findNo hq
          have hge : decide ((0 : Int) ≤ -1) = false := by decide
          have hfq : ∀ d, Calls Try.prog 76 #[.pointer (some ⟨p, 0, none⟩), .int .i64 seq] (W7.drewN d) (fun e w' => e = .returned (.int .i64 (-1)) ∧ ∃ n, w' = (W7.drewN d).drewN n) := fun d =>
            (find_any _ _ _ _ _ _ _ _ _ _ _ _ _ (HQ7.out.below HF7.out (below_drewN (Below.refl _ _) d)) seq _ ht3).mono (fun e w' h => ⟨h.1, 0, h.2⟩)
          have hHM : holdM N' seq l = { N' with owing := true, held := putH N'.held seq l } := by unfold holdM; rw [if_pos ⟨by omega, hq⟩]
          obtain ⟨N2, hN2⟩ : ∃ N2 : EndM, { N' with owing := true, held := putH N'.held seq l } = N2 := ⟨_, rfl⟩
          rw [hHM, hN2] at hwh ⊢
          have HN2 := Lib.hid hN2
          have HHM := Lib.hid (hHM.trans hN2)
          have hdel : N2.delivered = N'.delivered := by rw [← hN2]
          rw [← hdel] at hdn
          have HHQ := Lib.hid hq
          clear hq hN2 hdel hsd hHM HGN
          go_quiet (first
            | (go_at_call 76; refine Calls.quiet_of (hfq _)))
          have hT8 := HT7.out.drewN hk nq
          have hQ8 := HQ7.out.below HT7.out.stp.fr (below_drewN (Below.refl _ _) nq)
          generalize W7.drewN nq = W8 at hT8 hQ8 ⊢
          clear x0 x1 x2 x3 x4 x5 x6 x7 f2 f3 f4 f5 f6 f7 y0 y1 y2 HT7 HQ7 HF7 ht3 hfq hd hge
          obtain ⟨x0, x1, x2, x3, x4, x5, x6, x7, f2, f3, f4, f5, f6, f7⟩ := ref_cells hQ8.str
          obtain ⟨y0, y1, y2⟩ := rpkt_cells hT8.pkt
          have HT8 := Lib.hid hT8
          have HQ8 := Lib.hid hQ8
          clear hT8 hQ8
          obtain ⟨i, hi, hz0, hz1, hz2⟩ := info_parts Try.info114
          have hfew := HQ8.out.held.few (M := { N' with owing := true }) ⟨HWA.out.win, HWA.out.key, HWA.out.wait, HWA.out.rows, HWA.out.ack, HWA.out.del, HWA.out.forg, HWA.out.hold⟩
          rw [List.length_map] at hfew
          have hms : us.length + 1 ≤ maxLen := by unfold maxLen; omega
          have hown8 : W8.drew.ownsRow 0 114 2 (.slice ho' us.length hc) us.length (hcells us) := HQ8.out.hown
          have hb8 : Below W8.heap.size W8 (W8.drew.alloc (.cells #[.int .i64 seq, .slice ta l.length tc] 114)) := ((Below.refl _ _).drew).alloc (Nat.le_refl _) _
          have hp8 := HQ8.out.lt
          have hne : some p ≠ (Value.slice ho' us.length hc).ownBlock := by
            intro e
            cases ho' with
            | none => cases e
            | some a => injection e with e; exact (HQ8.out.hrow a rfl).2 e.symm
          have hone : ∀ u ∈ [Value.int .i64 seq, .slice ta l.length tc], u.oneCell' = true := by
            intro u hu
            simp at hu
            rcases hu with rfl | rfl <;> rfl
          go_upto_region 17 with fail
          go_cut [101] (fun _ wx => ∃ c', Hid (Stp c c' k w wx ∧ REndV c' k wx p N2 S))
          case first =>
            go_region_law (first
              | (refine step_append_lies _ rfl (.tmp 94) (.tmp 100) 79 rfl 0 114 i (.agg #[.int .i64 0, .slice none 0 0]) 2 32 Try.underlying79 hi hz0 hz1 hz2 rfl (by decide) _ us.length (hcells us) rfl (hown8.alloc _) ⟨W8.heap.size, 0, none⟩ 1 1 [.int .i64 seq, .slice ta l.length tc] rfl rfl (World.news_of_block (heap_alloc_new W8.drew _)) hone (by decide) hms (by omega) (Nat.zero_le _) _ rfl ?_; intro g cap2 w1 hown hgrow hat hlt; have hp1 := (hgrow.block p (by simp; omega) hne).trans (hb8.block p hp8); obtain ⟨z0, z1, z2, z3, z4, z5, z6, z7, t2, t3, t4, t5, t6, t7⟩ := ref_cells (hp1.trans HQ8.out.str)))
            all_goals go_wp2_with fail
            all_goals go_meet
            all_goals
              obtain ⟨c2, t1, t2⟩ := HQ8.out.pushHeld HT8.out.stp.fr hk hb8 (HT8.out.row.step HT8.out.stp.fr hb8) HHQ.out hown hgrow rfl hat hlt
              exact ⟨c2, Lib.hid ⟨HT8.out.stp.trans t1, HN2.out ▸ t2⟩⟩
          case rest =>
            obtain ⟨cl, hH⟩ := hcut
            obtain ⟨hst, hE⟩ := hH.out
            clear hH x0 x1 x2 x3 x4 x5 x6 x7 f2 f3 f4 f5 f6 f7 y0 y1 y2 HQ8 HT8 hown8 hb8 hp8 hne hone hms hi hz0 hz1 hz2 hfew
            obtain ⟨k2, hk2, hkk, hcn⟩ := fresh_col hst.fr k
            clear HN2
            obtain ⟨R, hR⟩ : ∃ R, delivF 17 N2.delivered N2.held [] = R := ⟨_, rfl⟩
            have HD : Hid (RDlv cl cl k k2 p wc wc N2 S N2.delivered N2.held none 0 0 [] []) := Lib.hid ⟨Stp.refl hst.fr, hE, World.ownsRow_nil _ _ _ _, RowsC.nil _ _, fun a ha => by cases ha⟩
            have HR := Lib.hid hR
            have HST := Lib.hid hst
            have HCN := Lib.hid hcn
            have HH : Hid (∀ q l, N2.held q = some l → (N2.delivered : Int) < q ∧ q ≤ N2.delivered + 16 ∧ l.length ≤ 65536) := Lib.hid fun q l hq => hwh.hold q l hq
            have HWH := Lib.hid hwh
            clear hR hst hcn hE hwh HW HWA HWA1 hQ4 hb1 hb2 hb12 hrd ho hr
            obtain ⟨i1, hi1, hz10, hz11, hz12⟩ := info_parts Try.info28
            go_wp2
            go_loopw [10, 11, 12] (fun v _ _ wr => ∃ (f d n : Nat) (c1 : Nat → Nat) (hh : Int → Option (List UInt8)) (ao : Option Addr) (cap : Nat) (us : List Value) (out : List (List UInt8)), v = .slice ao n cap ∧ d + f = N2.delivered + 17 ∧ n ≤ d ∧ N2.delivered ≤ d ∧ Hid (RDlv cl c1 k k2 p wc wr N2 S d hh ao cap n us out) ∧ Hid (delivF f d hh out = R) ∧ Hid (∀ q l, hh q = some l → (d : Int) < q ∧ q ≤ N2.delivered + 16 ∧ l.length ≤ 65536)) (fun _ _ _ wr => match wr.cell? ⟨p, 4, none⟩ with | some v => N2.delivered + 17 - (intOf v).toNat | none => 0)
            case atStart => exact ⟨17, N2.delivered, 0, cl, N2.held, none, 0, [], [], rfl, rfl, by omega, by omega, HD, HR, HH⟩
            case round =>
              obtain ⟨f, d, n, c1, hh, ao, cap, us, out, rfl, hdf, hnd, hMd, hD, hRf, hH⟩ := hrel
              obtain ⟨so, sc, ho, hc, vs, us', hl, hQ⟩ := hD.out.fin.open
              obtain ⟨x0, x1, x2, x3, x4, x5, x6, x7, f2, f3, f4, f5, f6, f7⟩ := ref_cells hQ.str
              have HQ := Lib.hid hQ
              clear hQ
              have ew : IntKind.i64.wrap ((d : Int) + 1) = (d : Int) + 1 := IntWalk.i64_in _ (by omega)
              cases hq : hh ((d : Int) + 1) with
              | none =>
                have hge : decide ((0 : Int) ≤ -1) = false := by decide
                have hfq := HQ.out.held.findNo hq
                have s0 := True.intro
                go_wp2_with (first
                  | (clear s0; go_at_call 76; refine (find_any _ _ _ _ _ _ _ _ _ _ _ _ _ HQ.out _ _ hfq).mono ?_; rintro e w' ⟨rfl, rfl⟩; have s1 := True.intro))
                go_ret2
                obtain ⟨c', t1, t2, t3⟩ := hD.out.close hkk HCN.out
                have e : R = (d, hh, out) := by
                  rw [← hRf.out]
                  cases f with
                  | zero => rfl
                  | succ f => simp [delivF, hq]
                have e1 : delivM N2 = { N2 with delivered := d, held := hh } := by unfold delivM; rw [HR.out, e]
                have e2 : delivL N2 = out := by unfold delivL; rw [HR.out, e]
                rw [HHM.out, e1, e2]
                exact ⟨c', _, HST.out.trans t1, t2, rfl, t3⟩
              | some l0 =>
                obtain ⟨t, ht1, ht2, ht3⟩ := HQ.out.held.find hq
                have hge : decide ((0 : Int) ≤ (t : Int)) = true := decide_eq_true (by omega)
                obtain ⟨u, hu⟩ : ∃ u, us'[t]? = some u := ⟨_, List.getElem?_eq_getElem (by have := (List.getElem?_eq_some_iff.1 ht1).1; rwa [List.length_map] at this)⟩
                have htl : t < us'.length := (List.getElem?_eq_some_iff.1 hu).1
                have hrow := HQ.out.hrows.2 t u.2 l0 (by rw [List.getElem?_map, hu]; rfl) ht2
                have hones : ∀ x ∈ us', x.2.oneCell' = true := fun x hx => HQ.out.hrows.one x.2 (List.mem_map.2 ⟨x, hx, rfl⟩)
                have hon1 := hcells_one (us := us'.take t) (fun x hx => hones x (List.mem_of_mem_take hx))
                have hon2 := hcells_one (us := us'.drop (t + 1)) (fun x hx => hones x (List.mem_of_mem_drop hx))
                have hfew := nodup_few (d : Int) 33 _ HQ.out.held.one (fun x hx => by
                  obtain ⟨j, hj, e⟩ := List.mem_iff_getElem.1 hx
                  have := hH.out x (hl[j]'(by rw [← HQ.out.held.len]; exact hj)) ((HQ.out.held.has _ _).2 ⟨j, by rw [List.getElem?_eq_getElem hj, e], List.getElem?_eq_getElem _⟩)
                  omega)
                rw [List.length_map] at hfew
                have hS := ownsRow_sl HQ.out.hown
                obtain ⟨a, rfl⟩ := hS.has (by omega)
                have hcell : wr.cell? ⟨(a.add (t * 2)).block, (a.add (t * 2)).off + 1, none⟩ = some u.2 := by
                  have h1 := hS.cell a rfl (t * 2 + 1) _ (hcells_at us' t u hu).2
                  obtain ⟨g, cp, e, _⟩ := HQ.out.hown.form (by omega)
                  injection e with e1
                  injection e1 with e1
                  subst e1
                  rw [Addr.add_lit] at h1 ⊢
                  exact h1
                have hcap := hS.le
                obtain ⟨bb, cb, hub, _⟩ := id hrow
                rw [hub] at hcell hrow
                have HROW := Lib.hid hrow
                have HS := Lib.hid hS
                have HU := Lib.hid hu
                have HT1 := Lib.hid ht1
                have HON1 := Lib.hid hon1
                have HON2 := Lib.hid hon2
                have HHQ2 := Lib.hid hq
                have hd16 : (d : Int) + 1 ≤ N2.delivered + 16 := (hH.out _ _ hq).2.1
                have ewt : IntKind.i64.wrap ((t : Int) + 1) = (t : Int) + 1 := IntWalk.i64_in _ (by omega)
                have hmx1 : n + 1 ≤ maxLen := by unfold maxLen; omega
                have hmx2 : 0 + t ≤ maxLen := by unfold maxLen; omega
                have hmx3 : t + (us'.length - (t + 1)) ≤ maxLen := by unfold maxLen; omega
                clear hS hrow hu ht1 ht2 hon1 hon2 hones hub hq
                have s0 := True.intro
                go_wp2_with (first
                  | (clear s0; go_at_call 76; refine (find_any _ _ _ _ _ _ _ _ _ _ _ _ _ HQ.out _ _ ht3).mono ?_; rintro e wA ⟨rfl, rfl⟩; have s1 := True.intro)
                  | (clear s1; go_at_call 76; refine (find_any _ _ _ _ _ _ _ _ _ _ _ _ _ HQ.out _ _ ht3).mono ?_; rintro e wB ⟨rfl, rfl⟩; have s2 := True.intro)
                  | (clear s2; at_builtin; refine wpList_append_lies _ rfl (.tmp 119) (.tmp 128) 63 rfl wc.heap.size 28 i1 (.slice none 0 0) 1 24 Try.underlying63 hi1 hz10 hz11 hz12 rfl (by decide) _ n us rfl (hD.out.own.alloc _) ⟨wB.heap.size, 0, none⟩ 1 1 [.slice bb l0.length cb] rfl rfl ((sl_new wB _ _).cell _ rfl) (by intro u hu; simp at hu; subst hu; rfl) (by decide) hmx1 (by omega) (by have := hD.out.stp.size; simp; omega) _ rfl ?_; intro g cap2 w1 hown hgrow hat hlt; have hbA := (Below.refl wB.heap.size wB).alloc (Nat.le_refl _) (.cells #[Value.slice bb l0.length cb] 28); obtain ⟨c2, t1, D2⟩ := hD.out.push hk2 hkk HCN.out hbA (HROW.out.step hD.out.stp.fr hbA) rfl hown hgrow hat hlt; have hQ2 := HQ.out.stp t1 (Ne.symm hkk) hk2; have X4 := Lib.hid x4; clear x0 x1 x2 x3 x4 x5 x6 x7 f2 f3 f4 f5 f6 f7 hown hgrow hat hlt hbA hcell t1; obtain ⟨x0, x1, x2, x3, x4, x5, x6, x7, f2, f3, f4, f5, f6, f7⟩ := ref_cells hQ2.str; have hf2 := Lib.hid D2.stp.fr; have hS2 := Lib.hid (ownsRow_sl hQ2.hown); have HQ2 := Lib.hid hQ2; have HD2 := Lib.hid D2; clear hQ2 D2; have s4 := True.intro)
                  | (clear s4; refine cut_to rfl 79 (.tmp 134) (.tmp 135) rfl 114 2 Try.underlying79 Try.size114 _ _ _ _ rfl hS2.out t _ rfl rfl (by omega) ?_; intro ao5 hs5; rw [hcells_take] at hs5; have s5 := True.intro)
                  | (clear s5; at_builtin; refine ap_any rfl (.tmp 130) (.tmp 136) 79 rfl w1.heap.size 114 (.agg #[.int .i64 0, .slice none 0 0]) 2 32 Try.underlying79 Try.info114 rfl (by decide) _ 0 [] rfl (World.ownsRow_nil _ _ _ _) ao5 t _ (hcells (us'.take t)) rfl hs5 HON1.out (by omega) hmx2 (Nat.le_refl _) ?_; intro ao7 cap7 w2 ho7 hb7; rw [Nat.zero_add, List.nil_append] at ho7; rw [Nat.zero_add]; obtain ⟨y0, y1, y2, y3, y4, y5, y6, y7, g2, g3, g4, g5, g6, g7⟩ := ref_cells (HQ2.out.below hf2.out hb7).str; have s6 := True.intro)
                  | (clear s6; refine cut_from rfl 79 (.tmp 143) (.tmp 145) rfl 114 2 Try.underlying79 Try.size114 _ _ _ _ rfl (hS2.out.below hb7 (Nat.le_refl _)) (t + 1) _ rfl (by omega) (by omega) ?_; intro ao6 hs6; rw [hcells_drop] at hs6; have s7 := True.intro)
                  | (clear s7; at_builtin; refine ap_any rfl (.tmp 139) (.tmp 146) 79 rfl w1.heap.size 114 (.agg #[.int .i64 0, .slice none 0 0]) 2 32 Try.underlying79 Try.info114 rfl (by decide) _ t (hcells (us'.take t)) rfl ho7 ao6 (us'.length - (t + 1)) _ (hcells (us'.drop (t + 1))) rfl hs6 HON2.out (by omega) hmx3 hb7.size ?_; intro ao8 cap8 w3 ho8 hb8; obtain ⟨z0, z1, z2, z3, z4, z5, z6, z7, r2, r3, r4, r5, r6, r7⟩ := ref_cells (HQ2.out.below hf2.out (hb7.trans hb8)).str; have s8 := True.intro))
                obtain ⟨c3, u1, u2⟩ := HQ2.out.takeOut hf2.out hk (hb7.trans hb8) HT1.out ho8
                have D3 := HD2.out.turn hk hkk u1 u2
                obtain ⟨so3, sc3, ho3, hc3, vs3, us3, hl3, hQ3⟩ := u2.open
                obtain ⟨q5, s5⟩ := hQ3.store (M' := { N2 with delivered := d + 1, held := delH hh ((d : Int) + 1) }) D3.stp.fr hk 4 (.int .i64 ((d : Int) + 1)) (by simp [refCells]) hQ3.wait hQ3.ack rfl
                have D4 := D3.turn hk hkk s5 q5.shut
                have q4 := (ref_cells q5.str).2.2.2.2.1
                obtain ⟨f, rfl⟩ : ∃ f', f = f' + 1 := ⟨f - 1, by omega⟩
                have hRf2 : Hid (delivF f (d + 1) (delH hh ((d : Int) + 1)) (out ++ [l0]) = R) := Lib.hid (by rw [← hRf.out]; simp [delivF, HHQ2.out])
                have hH2 : Hid (∀ q l, delH hh ((d : Int) + 1) q = some l → ((d + 1 : Nat) : Int) < q ∧ q ≤ N2.delivered + 16 ∧ l.length ≤ 65536) := Lib.hid fun q l' hq' => by
                  by_cases e : q = (d : Int) + 1
                  · subst e; rw [delH_same] at hq'; cases hq'
                  · rw [delH_other _ e] at hq'
                    have := hH.out q l' hq'
                    omega
                go_roundw
                case rel => exact ⟨f, d + 1, n + 1, c3, _, _, cap2, _, _, rfl, by omega, by omega, by omega, Lib.hid D4, hRf2, hH2⟩
                case measure =>
                  rw [X4.out, q4]
                  simp only [intOf]
                  omega

/-- The reference's In. -/
theorem rin_any (c : Nat → Nat) (k p : Nat) (M : EndM) (S : List (List UInt8)) (w : World) (hf : Fr c w) (hk : k ≠ 0) (hw : Wf M) (hsm : M.acked ≤ 999000000 ∧ M.delivered ≤ 999000000) (hgap : M.held ((M.delivered : Int) + 1) = none) (h : REndV c k w p M S) (ao : Option Addr) (n cp : Nat) (b : List UInt8) (hr : SlV w ao n cp 1 (bvs b)) (hn : n ≤ 100000000000) :
    Calls Try.prog 62 #[.pointer (some ⟨p, 0, none⟩), .slice ao n cp] w (RInP c k w p (inM M b).1 S (inM M b).2.1 (inM M b).2.2) := by
  have hbn : b.length = n := by have := hr.len; simpa using this
  by_cases he : (openB M.key b).2 ≠ 0
  · unfold inM
    rw [if_pos he]
    exact rin_err c k p M S w hf hk hw h ao n cp b hr hn he
  · have he0 : (openB M.key b).2 = 0 := by omega
    obtain ⟨m, hm⟩ : ∃ m, (openB M.key b).1 = m := ⟨_, rfl⟩
    have ho : openB M.key b = (m, 0) := by rw [← hm, ← he0]
    have hml : m.length ≤ 100000000000 := by
      rw [← hm]
      unfold openB
      split
      · simp
      · split
        · simp only [List.length_take]; omega
        · simp
    unfold inM
    rw [if_neg he, hm]
    cases hrd : readB m with
    | none => exact rin_none c k p M S w hf hw h ao n cp b hr hn m ho hml hrd
    | some t =>
      obtain ⟨seq, ack, l⟩ := t
      simp only
      by_cases hfar : (M.acked : Int) + M.waiting.length < ack ∨ (M.delivered : Int) + 16 < seq
      · rw [if_pos hfar]
        exact rin_far c k p M S w hf hw h ao n cp b hr hn m ho hml seq ack l hrd hfar
      · rw [if_neg hfar]
        have := rin_main c k p M S w hf hk hw hsm hgap h ao n cp b hr hn m ho hml seq ack l hrd (fun h => hfar (.inl h)) (fun h => hfar (.inr h))
        by_cases h0 : seq = 0
        · rw [if_pos h0]
          rw [if_pos h0, if_pos h0] at this
          exact this
        · rw [if_neg h0]
          rw [if_neg h0, if_neg h0] at this
          exact this

end Go.Proofs.Ytcpemgfpiapaaaa

namespace Go.Proofs.Ytcpemgfpiapaaaa
open Go.RowKit

set_option maxRecDepth 20000 in
set_option maxHeartbeats 1000000 in
theorem sameLists_any (c : Nat → Nat) (v1 v2 : Value) (ls : List (List UInt8)) (w : World) (h1 : ListC c w v1 ls) (h2 : ListC c w v2 ls) :
    Calls Try.prog 61 #[v1, v2] w (fun e w' => e = .returned (.bool true) ∧ Below w.heap.size w w') := by
  obtain ⟨N, hN⟩ : ∃ N, ls.length = N := ⟨_, rfl⟩
  obtain ⟨ao, cap, rfl⟩ := h1.len hN
  obtain ⟨bo, bcap, rfl⟩ := h2.len hN
  have hmx : N ≤ maxLen := by
    obtain ⟨a, cp, vs, e, hs, _⟩ := h1
    rw [hN] at hs
    exact Nat.le_trans hs.le hs.top
  unfold maxLen at hmx
  have H1 := Lib.hid h1
  have H2 := Lib.hid h2
  have HN := Lib.hid hN
  clear h1 h2 hN
  go_enter Try.func61, Try.ntmps61
  go_wp2
  go_loopw [5] (fun i wr => ∃ t : Nat, t ≤ N ∧ i = .int .i64 t ∧ Below w.heap.size w wr) (fun i _ => N - (intOf i).toNat)
  case atStart => exact ⟨0, by omega, rfl, Below.refl _ _⟩
  case round =>
    obtain ⟨t, ht, rfl, hb⟩ := hrel
    by_cases htN : t < N
    · obtain ⟨l, hl⟩ : ∃ l, ls[t]? = some l := ⟨_, List.getElem?_eq_getElem (by rw [HN.out]; exact htN)⟩
      obtain ⟨a, rfl⟩ := H1.out.some (by rw [HN.out]; omega)
      obtain ⟨b, rfl⟩ := H2.out.some (by rw [HN.out]; omega)
      obtain ⟨x, cx, zx, slx, _⟩ := H1.out.get hl
      obtain ⟨y, cy, zy, sly, _⟩ := H2.out.get hl
      have k0 : Below wr.heap.size wr wr.drew := (Below.refl _ _).drew
      have hSS : ∀ w' : World, Below wr.heap.size wr w' → w'.cell? (a.add t) = some (.slice x l.length cx) ∧ w'.cell? (b.add t) = some (.slice y l.length cy) := fun w' h => ⟨cell_later (hb.trans (h.mono hb.size)) zx, cell_later (hb.trans (h.mono hb.size)) zy⟩
      have hbd : Below w.heap.size w wr.drew := hb.trans (k0.mono hb.size)
      have slx1 := slx.below hbd (Nat.le_refl _)
      have sly1 := sly.below hbd (Nat.le_refl _)
      clear zx zy slx sly hl
      go_wp2_with fail
      go_region_held (fun w' => w'.cell? (a.add t) = some (.slice x l.length cx) ∧ w'.cell? (b.add t) = some (.slice y l.length cy)) (first | exact hSS _ k1 | exact hSS _ k0) (first
        | (go_at_call 19; refine (ux_same (Below.refl _ _) slx1 sly1 rfl).mono ?_; rintro e w1 ⟨rfl, hb1, hc1⟩; have k1 := k0.trans hb1))
      go_wp2
      go_roundw
      case rel => exact ⟨t + 1, by omega, by go_num, hb.trans (k1.mono hb.size)⟩
      case measure => simp [intOf]; omega
    · obtain rfl : t = N := by omega
      go_wp2
      go_ret
      exact ⟨rfl, hb⟩

end Go.Proofs.Ytcpemgfpiapaaaa
