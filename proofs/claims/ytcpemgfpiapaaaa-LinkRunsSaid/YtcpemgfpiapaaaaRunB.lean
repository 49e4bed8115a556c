/- The state of LinkRuns in memory: two ends, their references, the packets sent and where to. -/
import Derived.Test.YtcpemgfpiapaaaaRunA
import Derived.Test.YtcpemgfpiapaaaaLkJ
import Derived.Test.YtcpemgfpiapaaaaEnds
namespace Go.Proofs.Ytcpemgfpiapaaaa
open Go.RowKit

def upd {α : Type} (f : Nat → α) (k : Nat) (v : α) : Nat → α := fun j => if j = k then v else f j
theorem upd_same {α : Type} (f : Nat → α) (k : Nat) (v : α) : upd f k v k = v := by simp [upd]
theorem upd_other {α : Type} (f : Nat → α) {k j : Nat} (h : j ≠ k) (v : α) : upd f k v j = f j := by simp [upd, h]

/-- A block of two pointers. -/
def twoP (t : TypeId) (p : Nat → Nat) : Obj := .cells #[.pointer (some ⟨p 0, 0, none⟩), .pointer (some ⟨p 1, 0, none⟩)] t (0, 0)

theorem two_at {w : World} {b : Nat} {t : TypeId} {p : Nat → Nat} (h : w.heap[b]? = some (twoP t p)) {j : Nat} (hj : j < 2) : w.cell? ⟨b, j, none⟩ = some (.pointer (some ⟨p j, 0, none⟩)) := by
  have := (cells_of h j).1
  rw [this]
  match j, hj with
  | 0, _ => rfl
  | 1, _ => rfl

/-- A number's cells. -/
def nvs (ts : List Nat) : List Value := ts.map fun (t : Nat) => Value.int .i64 (t : Int)

/-- The two ends, their references, and the laws' two lists. -/
structure RunS (W w : World) (c : Nat → Nat) (eb mb : Nat) (p r : Nat → Nat) (M R : Nat → EndM) (S : Nat → List (List UInt8)) (so : Option Addr) (n sc : Nat) (vs : List Value) (ls : List (List UInt8)) (tao : Option Addr) (tc : Nat) (ts : List Nat) : Prop where
  law : LS W w c
  ends : ∀ j, j < 2 → EndV c (j + 1) w (p j) (M j)
  refs : ∀ j, j < 2 → REndV c (j + 3) w (r j) (R j) (S j)
  ebc : c eb = 0
  ebh : w.heap[eb]? = some (twoP 57 p)
  mbc : c mb = 0
  mbh : w.heap[mb]? = some (twoP 78 r)
  own : w.ownsRow W.heap.size 28 1 (.slice so n sc) n vs
  rows : RowsC c w vs ls
  col : ∀ a, so = some a → c a.block = 5
  town : w.ownsRow W.heap.size 3 1 (.slice tao n tc) n (nvs ts)
  tcol : ∀ a, tao = some a → c a.block = 6

section
variable {W w : World} {c : Nat → Nat} {eb mb : Nat} {p r : Nat → Nat} {M R : Nat → EndM} {S : Nat → List (List UInt8)} {so : Option Addr} {n sc : Nat} {vs : List Value} {ls : List (List UInt8)} {tao : Option Addr} {tc : Nat} {ts : List Nat} (h : RunS W w c eb mb p r M R S so n sc vs ls tao tc ts)
include h

theorem RunS.keep_own {w' : World} {c' : Nat → Nat} {k : Nat} (hs : Stp c c' k w w') (hk5 : k ≠ 5) (hk6 : k ≠ 6) (hk : k ≠ 0) : w'.heap[eb]? = w.heap[eb]? ∧ w'.heap[mb]? = w.heap[mb]? ∧ w'.ownsRow W.heap.size 28 1 (.slice so n sc) n vs ∧ RowsC c' w' vs ls ∧ (∀ a, so = some a → c' a.block = 5) ∧ w'.ownsRow W.heap.size 3 1 (.slice tao n tc) n (nvs ts) ∧ (∀ a, tao = some a → c' a.block = 6) ∧ c' eb = 0 ∧ c' mb = 0 := by
  have e1 := (Array.getElem?_eq_some_iff.1 h.ebh).1
  have e2 := (Array.getElem?_eq_some_iff.1 h.mbh).1
  refine ⟨hs.keep _ e1 (by rw [h.ebc]; exact fun e => hk e.symm), hs.keep _ e2 (by rw [h.mbc]; exact fun e => hk e.symm), ?_, h.rows.stp hs hk, fun a ha => ?_, ?_, fun a ha => ?_, (hs.col _ e1).trans h.ebc, (hs.col _ e2).trans h.mbc⟩
  · refine ownsRow_of h.own (fun g hg => ?_)
    cases so with
    | none => cases hg
    | some a => injection hg with hg; subst hg; exact hs.keep _ (own_of h.own a rfl).choose_spec.2 (by rw [h.col a rfl]; exact fun e => hk5 e.symm)
  · rw [hs.col _ (own_of h.own a ha).choose_spec.2]; exact h.col a ha
  · refine ownsRow_of h.town (fun g hg => ?_)
    cases tao with
    | none => cases hg
    | some a => injection hg with hg; subst hg; exact hs.keep _ (own_of h.town a rfl).choose_spec.2 (by rw [h.tcol a rfl]; exact fun e => hk6 e.symm)
  · rw [hs.col _ (own_of h.town a ha).choose_spec.2]; exact h.tcol a ha

/-- A call at an end. -/
theorem RunS.endStep {w' : World} {c' : Nat → Nat} {k : Nat} (hk : k < 2) (hs : Stp c c' (k + 1) w w') {M' : EndM} (hE : EndV c' (k + 1) w' (p k) M') : RunS W w' c' eb mb p r (upd M k M') R S so n sc vs ls tao tc ts := by
  obtain ⟨k1, k2, k3, k4, k5, k6, k7, k8, k9⟩ := h.keep_own hs (by omega) (by omega) (by omega)
  refine ⟨h.law.stp hs (by omega), fun j hj => ?_, fun j hj => (h.refs j hj).stp hs (by omega) (by omega), k8, k1.trans h.ebh, k9, k2.trans h.mbh, k3, k4, k5, k6, k7⟩
  by_cases e : j = k
  · subst e; rw [upd_same]; exact hE
  · rw [upd_other _ e]; exact (h.ends j hj).stp hs (by omega) (by omega)

/-- A call at a reference. -/
theorem RunS.refStep {w' : World} {c' : Nat → Nat} {k : Nat} (hk : k < 2) (hs : Stp c c' (k + 3) w w') {R' : EndM} {S' : List (List UInt8)} (hE : REndV c' (k + 3) w' (r k) R' S') : RunS W w' c' eb mb p r M (upd R k R') (upd S k S') so n sc vs ls tao tc ts := by
  obtain ⟨k1, k2, k3, k4, k5, k6, k7, k8, k9⟩ := h.keep_own hs (by omega) (by omega) (by omega)
  refine ⟨h.law.stp hs (by omega), fun j hj => (h.ends j hj).stp hs (by omega) (by omega), fun j hj => ?_, k8, k1.trans h.ebh, k9, k2.trans h.mbh, k3, k4, k5, k6, k7⟩
  by_cases e : j = k
  · subst e; rw [upd_same, upd_same]; exact hE
  · rw [upd_other _ e, upd_other _ e]; exact (h.refs j hj).stp hs (by omega) (by omega)

/-- New blocks. -/
theorem RunS.step {w' : World} (hb : Below w.heap.size w w') : RunS W w' c eb mb p r M R S so n sc vs ls tao tc ts := by
  have hs := Stp.of_below (k := 7) h.law.fr hb
  obtain ⟨k1, k2, k3, k4, k5, k6, k7, k8, k9⟩ := h.keep_own hs (by omega) (by omega) (by omega)
  exact ⟨h.law.step hb, fun j hj => (h.ends j hj).stp hs (by omega) (by omega), fun j hj => (h.refs j hj).stp hs (by omega) (by omega), h.ebc, k1.trans h.ebh, h.mbc, k2.trans h.mbh, k3, k4, k5, k6, k7⟩

theorem RunS.drewN (d : Nat) : RunS W (w.drewN d) c eb mb p r M R S so n sc vs ls tao tc ts := h.step (below_drewN (Below.refl _ _) d)

theorem RunS.atE {j : Nat} (hj : j < 2) : w.cell? ⟨eb, j, none⟩ = some (.pointer (some ⟨p j, 0, none⟩)) := two_at h.ebh hj
theorem RunS.atM {j : Nat} (hj : j < 2) : w.cell? ⟨mb, j, none⟩ = some (.pointer (some ⟨r j, 0, none⟩)) := two_at h.mbh hj

end

/-- A packet more. -/
theorem RunS.packet {W w W' w1 : World} {c : Nat → Nat} {eb mb : Nat} {p r : Nat → Nat} {M R : Nat → EndM} {S : Nat → List (List UInt8)} {so : Option Addr} {n sc : Nat} {vs : List Value} {ls : List (List UInt8)} {tao : Option Addr} {tc : Nat} {ts : List Nat} {W2 w2 : World} {v : Value} {l : List UInt8} {t g cap g2 cap2 : Nat} {row row2 : Option Nat}
    (h : RunS W w c eb mb p r M R S so n sc vs ls tao tc ts) (hb : Below w.heap.size w W') (hv : RowC c W' v l)
    (hrow : row = (Value.slice so n sc).ownBlock) (hown : w1.ownsRow W.heap.size 28 1 (.slice (some ⟨g, 0, none⟩) (n + 1) cap) (n + 1) (vs ++ [v])) (hgrow : W'.grownBy w1 row) (hat : row = some g ∨ g = W'.heap.size) (hlt : g < w1.heap.size)
    (hb2 : Below w1.heap.size w1 W2) (hrow2 : row2 = (Value.slice tao n tc).ownBlock) (hown2 : w2.ownsRow W.heap.size 3 1 (.slice (some ⟨g2, 0, none⟩) (n + 1) cap2) (n + 1) (nvs ts ++ [.int .i64 (t : Int)])) (hgrow2 : W2.grownBy w2 row2) (hat2 : row2 = some g2 ∨ g2 = W2.heap.size) (hlt2 : g2 < w2.heap.size) :
    ∃ c', RunS W w2 c' eb mb p r M R S (some ⟨g, 0, none⟩) (n + 1) cap (vs ++ [v]) (ls ++ [l]) (some ⟨g2, 0, none⟩) cap2 (ts ++ [t]) ∧ ∀ v ls, ListC c w v ls → ListC c' w2 v ls := by
  have hlts : ∀ a, so = some a → a.block < w.heap.size := fun a ha => (own_of h.own a ha).choose_spec.2
  have hltt : ∀ a, tao = some a → a.block < w.heap.size := fun a ha => (own_of h.town a ha).choose_spec.2
  subst hrow hrow2
  obtain ⟨c1, s1, s2, e3, e4⟩ := grow_stp (k := 5) h.law.fr (fun x hx => by
    cases so with
    | none => cases hx
    | some a => injection hx with hx; subst hx; exact ⟨hlts a rfl, h.col a rfl⟩) hb hgrow hat hlt
  have hcolt : ∀ a, tao = some a → c1 a.block = 6 := fun a ha => by rw [s1.col _ (hltt a ha)]; exact h.tcol a ha
  have hsz := s1.size
  have hsz2 := hb2.size
  obtain ⟨c2, t1, t2, f3, f4⟩ := grow_stp (k := 6) s1.fr (fun x hx => by
    cases tao with
    | none => cases hx
    | some a => injection hx with hx; subst hx; exact ⟨by have := hltt a rfl; omega, hcolt a rfl⟩) hb2 hgrow2 hat2 hlt2
  have l1 := h.law.stp s1 (by decide)
  have l2 := l1.stp t1 (by decide)
  have hebl := (Array.getElem?_eq_some_iff.1 h.ebh).1
  have hmbl := (Array.getElem?_eq_some_iff.1 h.mbh).1
  have keep : ∀ b, b < w.heap.size → c b = 0 → w2.heap[b]? = w.heap[b]? := fun b hb hc => (t1.keep b (by omega) (by rw [s1.col b hb, hc]; decide)).trans (s1.keep b hb (by rw [hc]; decide))
  have colr : ∀ b, b < w.heap.size → c2 b = c b := fun b hb => (t1.col b (by omega)).trans (s1.col b hb)
  have e6 : w1.ownsRow W.heap.size 28 1 (.slice (some ⟨g, 0, none⟩) (n + 1) cap) (n + 1) (vs ++ [v]) := hown
  refine ⟨c2, ⟨l2, fun j hj => ((h.ends j hj).stp s1 (by omega) (by omega)).stp t1 (by omega) (by omega), fun j hj => ((h.refs j hj).stp s1 (by omega) (by omega)).stp t1 (by omega) (by omega), (colr eb hebl).trans h.ebc, (keep eb hebl h.ebc).trans h.ebh, (colr mb hmbl).trans h.mbc, (keep mb hmbl h.mbc).trans h.mbh, ?_, ((h.rows.stp s1 (by decide)).snoc (hv.stp s2 (by decide))).stp t1 (by decide), fun a ha => ?_, ?_, fun a ha => ?_⟩, fun v ls hl => (hl.stp s1 (by decide)).stp t1 (by decide)⟩
  · exact ownsRow_of e6 (fun x hx => by injection hx with hx; subst hx; exact t1.keep _ hlt (by rw [e3]; decide))
  · cases ha
    exact (t1.col _ hlt).trans e3
  · have : nvs (ts ++ [t]) = nvs ts ++ [.int .i64 (t : Int)] := by simp [nvs]
    rw [this]; exact hown2
  · cases ha; exact f3

end Go.Proofs.Ytcpemgfpiapaaaa

namespace Go.Proofs.Ytcpemgfpiapaaaa
open Go.RowKit

/-- A new reference's end. -/
theorem ref_new {c : Nat → Nat} (k : Nat) {w : World} (hf : Fr c w) (win key : Nat) :
    ∃ c', Stp c c' k w (w.alloc (.cells (refCells (newM win key) none 0 0 none 0 0) 81)) ∧ REndV c' k (w.alloc (.cells (refCells (newM win key) none 0 0 none 0 0) 81)) w.heap.size (newM win key) [] := by
  have hb : Below w.heap.size w (w.alloc (.cells (refCells (newM win key) none 0 0 none 0 0) 81)) := (Below.refl _ _).alloc (Nat.le_refl _) _
  obtain ⟨c', s, e, _⟩ := below_stp k (g := w.heap.size) hf hb (Nat.le_refl _) (by simp)
  exact ⟨c', s, none, 0, none, 0, [], [], [], heap_alloc_new w _, e, World.ownsRow_nil _ _ _ _, RowsC.nil _ _, fun a ha => by (cases ha), World.ownsRow_nil _ _ _ _, RowsC.nil _ _, fun a ha => by (cases ha), rfl, Nat.le_refl _, HeldAs.nil⟩

/-- The reference's end as it is laid. -/
def refObj (a key : Nat) : Obj := .cells #[.int .i64 (1 + (a : Int)), .int .u64 (key : Int), .slice none 0 0, .int .i64 0, .int .i64 0, .slice none 0 0, .bool false, .int .i64 0] 81

theorem refObj_eq (a key : Nat) : refObj a key = .cells (refCells (newM (1 + a) key) none 0 0 none 0 0) 81 := by
  unfold refObj refCells newM
  simp

/-- The state ahead of the first call. -/
theorem run_start {W w : World} {c : Nat → Nat} {eb p0 p1 a0 a1 key : Nat} (hL : LS W w c) (hA : EndV c 1 w p0 (newM (1 + a0) key)) (hB : EndV c 2 w p1 (newM (1 + a1) key)) (hce : c eb = 0)
    (hEB : w.heap[eb]? = some (.cells #[.pointer (some ⟨p0, 0, none⟩), .pointer (some ⟨p1, 0, none⟩)] 57 (0, 0))) :
    ∃ c', RunS W (((w.alloc (refObj a0 key)).alloc (refObj a1 key)).alloc (.cells #[.pointer (some ⟨w.heap.size, 0, none⟩), .pointer (some ⟨w.heap.size + 1, 0, none⟩)] 78)) c' eb (w.heap.size + 1 + 1)
      (fun j => if j = 0 then p0 else p1) (fun j => if j = 0 then w.heap.size else w.heap.size + 1) (fun j => newM (1 + if j = 0 then a0 else a1) key) (fun j => newM (1 + if j = 0 then a0 else a1) key) (fun _ => []) none 0 0 [] [] none 0 [] := by
  obtain ⟨c1, s1, r1⟩ := ref_new (c := c) 3 hL.fr (1 + a0) key
  obtain ⟨c2, s2, r2⟩ := ref_new (c := c1) 4 s1.fr (1 + a1) key
  rw [← refObj_eq] at s1 r1
  rw [← refObj_eq, ← refObj_eq] at s2 r2
  have hs1 : (w.alloc (refObj a0 key)).heap.size = w.heap.size + 1 := by simp
  rw [hs1] at r2
  have hb := (Below.refl ((w.alloc (refObj a0 key)).alloc (refObj a1 key)).heap.size ((w.alloc (refObj a0 key)).alloc (refObj a1 key))).alloc (Nat.le_refl _) (.cells #[.pointer (some ⟨w.heap.size, 0, none⟩), .pointer (some ⟨w.heap.size + 1, 0, none⟩)] 78)
  have l3 := ((hL.stp s1 (by decide)).stp s2 (by decide)).step hb
  have s3 := Stp.of_below (k := 7) s2.fr hb
  have A3 := ((hA.stp s1 (by decide) (by decide)).stp s2 (by decide) (by decide)).stp s3 (by decide) (by decide)
  have B3 := ((hB.stp s1 (by decide) (by decide)).stp s2 (by decide) (by decide)).stp s3 (by decide) (by decide)
  have R3 := (r1.stp s2 (by decide) (by decide)).stp s3 (by decide) (by decide)
  have Q3 := r2.stp s3 (by decide) (by decide)
  have hel := (Array.getElem?_eq_some_iff.1 hEB).1
  have hsz : ((w.alloc (refObj a0 key)).alloc (refObj a1 key)).heap.size = w.heap.size + 1 + 1 := by simp
  refine ⟨c2, l3, fun j hj => ?_, fun j hj => ?_, (s2.col _ (by simp; omega)).trans ((s1.col _ hel).trans hce), ?_, s2.fr _ (by simp), ?_, World.ownsRow_nil _ _ _ _, RowsC.nil _ _, fun a ha => by (cases ha), World.ownsRow_nil _ _ _ _, fun a ha => by (cases ha)⟩
  · match j, hj with
    | 0, _ => exact A3
    | 1, _ => exact B3
  · match j, hj with
    | 0, _ => exact R3
    | 1, _ => exact Q3
  · refine (hb.block eb (by simp; omega)).trans ((s2.keep eb (by simp; omega) ?_).trans ((s1.keep eb hel ?_).trans hEB))
    · rw [s1.col _ hel, hce]; decide
    · rw [hce]; decide
  · rw [← hsz]
    exact heap_alloc_new _ _

/-- The state of the law after q calls. -/
def Rnd (W w : World) (eb mb : Nat) (p r : Nat → Nat) (key q : Nat) (s t : Value) : Prop :=
  ∃ (c : Nat → Nat) (M : Nat → EndM) (S : Nat → List (List UInt8)) (so : Option Addr) (n sc : Nat) (vs : List Value) (ls : List (List UInt8)) (tao : Option Addr) (tc : Nat) (ts : List Nat),
    n ≤ 16 * q ∧ s = .slice so n sc ∧ t = .slice tao n tc ∧ RunS W w c eb mb p r M M S so n sc vs ls tao tc ts ∧ (∀ j, j < 2 → RunP (M j) key q) ∧ (∀ l ∈ ls, 12 ≤ l.length ∧ l.length ≤ 100000) ∧ (∀ t ∈ ts, t < 2)

theorem upd_all {P : EndM → Prop} {M : Nat → EndM} {k : Nat} {M' : EndM} (h : ∀ j, j < 2 → P (M j)) (h' : P M') : ∀ j, j < 2 → P (upd M k M' j) := fun j hj => by
  by_cases e : j = k
  · subst e; rw [upd_same]; exact h'
  · rw [upd_other _ e]; exact h j hj

theorem inr_quoN {x : Int} (h : InR x) (n : Nat) (hn : 1 ≤ n) : InR (x.tdiv n) := by
  unfold InR at h ⊢
  have h1 := Int.natAbs_tdiv_le_natAbs x n
  have h2 : x.natAbs ≤ 9223372036854775808 := by omega
  by_cases e : x.tdiv n = 9223372036854775808
  · exfalso
    have h3 : x = -9223372036854775808 := by omega
    subst h3
    have : (-9223372036854775808 : Int).tdiv n = -((9223372036854775808 : Int).tdiv n) := Int.neg_tdiv _ _
    have h5 : 0 ≤ (9223372036854775808 : Int).tdiv n := Int.tdiv_nonneg (by omega) (by omega)
    omega
  · omega

theorem REndV.slen {c : Nat → Nat} {k p : Nat} {w : World} {M : EndM} {S : List (List UInt8)} (h : REndV c k w p M S) : S.length = M.acked + M.waiting.length := by
  obtain ⟨so, sc, ho, hc, vs, us, hl, hQ⟩ := h
  have := hQ.ack
  rw [hQ.wait, List.length_drop]
  omega

theorem RunS.town_after {W w W' w1 : World} {c : Nat → Nat} {eb mb : Nat} {p r : Nat → Nat} {M R : Nat → EndM} {S : Nat → List (List UInt8)} {so : Option Addr} {n sc : Nat} {vs : List Value} {ls : List (List UInt8)} {tao : Option Addr} {tc : Nat} {ts : List Nat} {row : Option Nat}
    (h : RunS W w c eb mb p r M R S so n sc vs ls tao tc ts) (hb : Below w.heap.size w W') (hgrow : W'.grownBy w1 row) (hrow : row = (Value.slice so n sc).ownBlock) : w1.ownsRow W.heap.size 3 1 (.slice tao n tc) n (nvs ts) ∧ W.heap.size ≤ w1.heap.size := by
  subst hrow
  have hsz := hb.size
  refine ⟨ownsRow_of h.town (fun g hg => ?_), by have := h.law.below.size; have := hgrow.size; omega⟩
  cases tao with
  | none => cases hg
  | some a =>
    injection hg with hg
    subst hg
    have hl := (own_of h.town a rfl).choose_spec.2
    refine (hgrow.block _ (by omega) (fun e => ?_)).trans (hb.block _ hl)
    cases so with
    | none => cases e
    | some b =>
      injection e with e
      have h1 := h.tcol a rfl
      have h2 := h.col b rfl
      rw [e, h2] at h1
      cases h1

theorem RunS.atT {W w : World} {c : Nat → Nat} {eb mb : Nat} {p r : Nat → Nat} {M R : Nat → EndM} {S : Nat → List (List UInt8)} {so : Option Addr} {n sc : Nat} {vs : List Value} {ls : List (List UInt8)} {tao : Option Addr} {tc : Nat} {ts : List Nat} {a : Addr} {J t : Nat}
    (h : RunS W w c eb mb p r M R S so n sc vs ls tao tc ts) (ht : ts[J]? = some t) (ha : tao = some a) : w.cell? (a.add J) = some (.int .i64 (t : Int)) := by
  refine (ownsRow_sl h.town).cell a ha J _ ?_
  unfold nvs
  rw [List.getElem?_map, ht]
  rfl

theorem RowC.slv {c : Nat → Nat} {w : World} {a : Option Addr} {cp : Nat} {l : List UInt8} (h : RowC c w (.slice a l.length cp) l) : SlV w a l.length cp 1 (bvs l) := by
  obtain ⟨a', cp', e, hs, _⟩ := h
  injection e with e1 _ e2
  subst e1 e2
  exact hs

end Go.Proofs.Ytcpemgfpiapaaaa
