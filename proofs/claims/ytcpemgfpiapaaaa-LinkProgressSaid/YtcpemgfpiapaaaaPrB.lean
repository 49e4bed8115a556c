/- The state of LinkProgress in memory: two ends, how many each sends, how much each has got. -/
import Derived.Test.YtcpemgfpiapaaaaPrA
import Derived.Test.YtcpemgfpiapaaaaEnds
import Derived.Test.YtcpemgfpiapaaaaL6
namespace Go.Proofs.Ytcpemgfpiapaaaa
open Go.RowKit

theorem Try.underlying76 : Try.prog.underlying 76 = some (.slice 57) := by kernel_rfl

/-- A block of two pointers. -/
def twoP (t : TypeId) (p : Nat → Nat) : Obj := .cells #[.pointer (some ⟨p 0, 0, none⟩), .pointer (some ⟨p 1, 0, none⟩)] t (0, 0)
/-- Two numbers. -/
def twoN (G : Nat → Nat) : Obj := .cells #[.int .i64 (G 0 : Int), .int .i64 (G 1 : Int)] 3 (0, 0)

/-- The ends of LinkProgress, and how many messages each sends. -/
structure PrS (W w : World) (c : Nat → Nat) (eb mb : Nat) (p : Nat → Nat) (M : Nat → EndM) (Q : Nat → Nat) : Prop where
  law : LS W w c
  ends : ∀ j, j < 2 → EndV c (j + 1) w (p j) (M j)
  ebc : c eb = 0
  ebh : w.heap[eb]? = some (twoP 57 p)
  mbc : c mb = 0
  mbh : w.heap[mb]? = some (twoN Q)

section
variable {W w : World} {c : Nat → Nat} {eb mb : Nat} {p : Nat → Nat} {M : Nat → EndM} {Q : Nat → Nat} (h : PrS W w c eb mb p M Q)
include h

theorem PrS.lts : eb < w.heap.size ∧ mb < w.heap.size := ⟨(Array.getElem?_eq_some_iff.1 h.ebh).1, (Array.getElem?_eq_some_iff.1 h.mbh).1⟩

theorem PrS.endStep {w' : World} {c' : Nat → Nat} {k : Nat} (hk : k < 2) (hs : Stp c c' (k + 1) w w') {M' : EndM} (hE : EndV c' (k + 1) w' (p k) M') : PrS W w' c' eb mb p (upd M k M') Q := by
  obtain ⟨e1, e2⟩ := h.lts
  refine ⟨h.law.stp hs (by omega), fun j hj => ?_, (hs.col _ e1).trans h.ebc, (hs.keep _ e1 (by rw [h.ebc]; omega)).trans h.ebh, (hs.col _ e2).trans h.mbc, (hs.keep _ e2 (by rw [h.mbc]; omega)).trans h.mbh⟩
  by_cases e : j = k
  · subst e; rw [upd_same]; exact hE
  · rw [upd_other _ e]; exact (h.ends j hj).stp hs (by omega) (by omega)

/-- A step of another colour. -/
theorem PrS.other {w' : World} {c' : Nat → Nat} {k : Nat} (hk : 3 ≤ k) (hs : Stp c c' k w w') : PrS W w' c' eb mb p M Q := by
  obtain ⟨e1, e2⟩ := h.lts
  exact ⟨h.law.stp hs (by omega), fun j hj => (h.ends j hj).stp hs (by omega) (by omega), (hs.col _ e1).trans h.ebc, (hs.keep _ e1 (by rw [h.ebc]; omega)).trans h.ebh, (hs.col _ e2).trans h.mbc, (hs.keep _ e2 (by rw [h.mbc]; omega)).trans h.mbh⟩

theorem PrS.step {w' : World} (hb : Below w.heap.size w w') : PrS W w' c eb mb p M Q := h.other (k := 17) (by omega) (Stp.of_below h.law.fr hb)
theorem PrS.drewN (d : Nat) : PrS W (w.drewN d) c eb mb p M Q := h.step (below_drewN (Below.refl _ _) d)

theorem PrS.atE {j : Nat} (hj : j < 2) : w.cell? ⟨eb, j, none⟩ = some (.pointer (some ⟨p j, 0, none⟩)) := by
  rw [(cells_of h.ebh j).1]
  match j, hj with
  | 0, _ => rfl
  | 1, _ => rfl
theorem PrS.atQ {j : Nat} (hj : j < 2) : w.cell? ⟨mb, j, none⟩ = some (.int .i64 (Q j : Int)) := by
  rw [(cells_of h.mbh j).1]
  match j, hj with
  | 0, _ => rfl
  | 1, _ => rfl

end

/-- How much is got: a block of its own colour. -/
structure GotS (c : Nat → Nat) (w : World) (gb : Nat) (G : Nat → Nat) : Prop where
  col : c gb = 8
  hp : w.heap[gb]? = some (twoN G)

theorem GotS.stp {c c' : Nat → Nat} {k gb : Nat} {w w' : World} {G : Nat → Nat} (h : GotS c w gb G) (hs : Stp c c' k w w') (hk : k ≠ 8) : GotS c' w' gb G := by
  have e := (Array.getElem?_eq_some_iff.1 h.hp).1
  exact ⟨(hs.col _ e).trans h.col, (hs.keep _ e (by rw [h.col]; omega)).trans h.hp⟩
theorem GotS.step {c : Nat → Nat} {gb : Nat} {w w' : World} {G : Nat → Nat} (h : GotS c w gb G) (hf : Fr c w) (hb : Below w.heap.size w w') : GotS c w' gb G := h.stp (k := 17) (Stp.of_below hf hb) (by omega)
theorem GotS.at {c : Nat → Nat} {gb : Nat} {w : World} {G : Nat → Nat} (h : GotS c w gb G) {j : Nat} (hj : j < 2) : w.cell? ⟨gb, j, none⟩ = some (.int .i64 (G j : Int)) ∧ w.frozen? ⟨gb, j, none⟩ = false := by
  refine ⟨?_, (cells_of h.hp j).2⟩
  rw [(cells_of h.hp j).1]
  match j, hj with
  | 0, _ => rfl
  | 1, _ => rfl
theorem GotS.set {c : Nat → Nat} {gb : Nat} {w : World} {G : Nat → Nat} (h : GotS c w gb G) (hf : Fr c w) {t : Nat} (ht : t < 2) {g : Nat} : GotS c (w.setCell ⟨gb, t, none⟩ (.int .i64 (g : Int))) gb (upd G t g) ∧ Stp c c 8 w (w.setCell ⟨gb, t, none⟩ (.int .i64 (g : Int))) := by
  have e := (Array.getElem?_eq_some_iff.1 h.hp).1
  refine ⟨⟨h.col, ?_⟩, (Stp.refl hf).setCell h.col e _⟩
  rw [heap_setCell_same w gb t _ 3 _ h.hp]
  unfold twoN
  match t, ht with
  | 0, _ => simp [upd]
  | 1, _ => simp [upd]

theorem alloc_col {c : Nat → Nat} (k : Nat) {w : World} (hf : Fr c w) (cs : Array Value) (t : TypeId) : ∃ c', Stp c c' k w (w.alloc (.cells cs t)) ∧ c' w.heap.size = k ∧ (w.alloc (.cells cs t)).heap[w.heap.size]? = some (.cells cs t (0, 0)) := by
  have hb : Below w.heap.size w (w.alloc (.cells cs t)) := (Below.refl _ _).alloc (Nat.le_refl _) _
  refine ⟨fun x => if x = w.heap.size then k else c x, ⟨hb.os, hb.tape, hb.output, hb.size, fun x hx => if_neg (by omega), fun x hx _ => hb.block x hx, fun x hx => ?_⟩, by simp, heap_alloc_new w _⟩
  have : w.heap.size + 1 ≤ x := by simpa using hx
  rw [if_neg (by omega)]
  exact hf x (by omega)

theorem RowC.slv {c : Nat → Nat} {w : World} {a : Option Addr} {cp : Nat} {l : List UInt8} (h : RowC c w (.slice a l.length cp) l) : SlV w a l.length cp 1 (bvs l) := by
  obtain ⟨a', cp', e, hs, _⟩ := h
  injection e with e1 _ e2
  subst e1 e2
  exact hs

/-- The state ahead of the first message. -/
theorem pr_start {W w : World} {c : Nat → Nat} {eb p0 p1 a0 a1 key n0 n1 : Nat} (hL : LS W w c) (hA : EndV c 1 w p0 (newM (1 + a0) key)) (hB : EndV c 2 w p1 (newM (1 + a1) key)) (hce : c eb = 0)
    (hEB : w.heap[eb]? = some (.cells #[.pointer (some ⟨p0, 0, none⟩), .pointer (some ⟨p1, 0, none⟩)] 57 (0, 0))) :
    PrS W (w.alloc (.cells #[.int .i64 (n0 : Int), .int .i64 (n1 : Int)] 3)) c eb w.heap.size (fun j => if j = 0 then p0 else p1) (fun j => wM (1 + if j = 0 then a0 else a1) key 0) (fun j => if j = 0 then n0 else n1) := by
  have hb : Below w.heap.size w (w.alloc (.cells #[.int .i64 (n0 : Int), .int .i64 (n1 : Int)] 3)) := (Below.refl _ _).alloc (Nat.le_refl _) _
  have hel := (Array.getElem?_eq_some_iff.1 hEB).1
  refine ⟨hL.step hb, fun j hj => ?_, hce, (hb.block eb hel).trans hEB, hL.fr _ (Nat.le_refl _), heap_alloc_new w _⟩
  match j, hj with
  | 0, _ => rw [wM_zero]; exact hA.below hL.fr hb
  | 1, _ => rw [wM_zero]; exact hB.below hL.fr hb

end Go.Proofs.Ytcpemgfpiapaaaa
