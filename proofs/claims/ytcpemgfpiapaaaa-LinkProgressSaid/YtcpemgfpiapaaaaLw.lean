/- What the law on windows (LinkWindow) needs beside the calls: the messages 0, 1, .., the packets that carry them, blocks of the law's own colour. -/
import Derived.Test.YtcpemgfpiapaaaaEndO
import Derived.Test.YtcpemgfpiapaaaaEndL
import Derived.Test.YtcpemgfpiapaaaaLkI
namespace Go.Proofs.Ytcpemgfpiapaaaa
open Go.RowKit

/-- The end with the messages 0, 1, .. q - 1. -/
def wM (win key q : Nat) : EndM := { newM win key with waiting := (List.range q).map (fun i => [UInt8.ofNat i]) }

theorem wM_len (win key q : Nat) : (wM win key q).waiting.length = q := by simp [wM]

theorem wM_wf {win key q : Nat} (h1 : 1 ≤ win) (h2 : win ≤ 16) (hk : key < 18446744073709551616) (hq : q ≤ 1000) : Wf (wM win key q) :=
  ⟨⟨h1, h2⟩, hk, by rw [wM_len]; exact hq, fun l hl => by
    simp only [wM, List.mem_map] at hl
    obtain ⟨i, _, rfl⟩ := hl
    simp, by simp [wM, newM], by simp [wM, newM], by simp [wM, newM], fun q l h => by simp [wM, newM] at h⟩

theorem wM_zero (win key : Nat) : wM win key 0 = newM win key := by simp [wM, newM]

theorem wM_send {win key q : Nat} (hq : q < 1000) : sendM (wM win key q) [UInt8.ofNat q] = (wM win key (q + 1), 0) := by
  rw [send_ok _ _ (by simp) (by rw [wM_len]; exact hq)]
  simp [wM, List.range_succ]

theorem wM_out (win key q : Nat) : outM (wM win key q) = wM win key q := rfl

theorem wM_owing (win key q : Nat) : (wM win key q).owing = false := rfl

/-- The packet with the message i. -/
def wP (key i : Nat) : List UInt8 := sealB key (pktB ((i : Int) + 1) 0 [UInt8.ofNat i])

theorem wP_len (key i : Nat) : 8 ≤ (wP key i).length ∧ (wP key i).length ≤ 100 := by
  have := pkt_len ((i : Int) + 1) 0 [UInt8.ofNat i]
  simp only [List.length_cons, List.length_nil] at this
  unfold wP
  rw [sealB_length]
  omega

theorem outL_len (M : EndM) : (outL M).length = min M.window M.waiting.length := by
  unfold outL; rw [List.length_mapIdx, List.length_take]

theorem wM_outP (win key q : Nat) : outP (wM win key q) = outL (wM win key q) := by
  unfold outP; rw [wM_owing]; simp

theorem wM_outlen (win key q : Nat) : (outP (wM win key q)).length = min win q := by
  rw [wM_outP, outL_len, wM_len]; rfl

theorem wM_outAt {win key q i : Nat} (h : i < min win q) : (outP (wM win key q))[i]? = some (wP key i) := by
  rw [wM_outP]
  unfold outL
  rw [List.getElem?_mapIdx, List.getElem?_take_of_lt (by show i < win; omega)]
  have e : (wM win key q).waiting[i]? = some [UInt8.ofNat i] := by
    show ((List.range q).map (fun i => [UInt8.ofNat i]))[i]? = _
    rw [List.getElem?_map, List.getElem?_range (by omega)]
    rfl
  rw [e]
  simp only [Option.map_some, Option.some.injEq]
  show sealB key (pktB ((0 : Int) + (i : Int) + 1) 0 [UInt8.ofNat i]) = wP key i
  rw [Int.zero_add]
  rfl

/-- A block of the law's own, of colour 7. -/
def upd7 (c : Nat → Nat) (n : Nat) : Nat → Nat := fun b => if b = n then 7 else c b

theorem LS.alloc7 {W w : World} {c : Nat → Nat} (h : LS W w c) (o : Obj) : LS W (w.alloc o) (upd7 c w.heap.size) ∧ Stp c (upd7 c w.heap.size) 7 w (w.alloc o) ∧ upd7 c w.heap.size w.heap.size = 7 := by
  have hb : Below w.heap.size w (w.alloc o) := (Below.refl _ _).alloc (Nat.le_refl _) o
  have hs : Stp c (upd7 c w.heap.size) 7 w (w.alloc o) := by
    refine ⟨hb.os, hb.tape, hb.output, hb.size, fun b hl => ?_, fun b hl _ => hb.block b hl, fun b hl => ?_⟩
    · unfold upd7; rw [if_neg (by omega)]
    · have : w.heap.size + 1 ≤ b := by simpa using hl
      unfold upd7; rw [if_neg (by omega)]; exact h.fr b (by omega)
  exact ⟨h.stp hs (by decide), hs, by simp [upd7]⟩

/-- A store into a block of colour 7. -/
theorem LS.set7 {W w : World} {c : Nat → Nat} (h : LS W w c) {g : Nat} (hc : c g = 7) (hg : g < w.heap.size) (i : Nat) (v : Value) : LS W (w.setCell ⟨g, i, none⟩ v) c ∧ Stp c c 7 w (w.setCell ⟨g, i, none⟩ v) := by
  have hs : Stp c c 7 w (w.setCell ⟨g, i, none⟩ v) := (Stp.refl h.fr).setCell (p := ⟨g, i, none⟩) hc hg v
  exact ⟨h.stp hs (by decide), hs⟩

/-- The new blocks take the colour 7. -/
def col7 (c : Nat → Nat) (a b : Nat) : Nat → Nat := fun x => if a ≤ x ∧ x < b then 7 else c x

theorem LS.col7 {W w w' : World} {c : Nat → Nat} {k : Nat} (h : LS W w c) (hs : Stp c c k w w') (hk : k ≠ 0) : LS W w' (col7 c w.heap.size w'.heap.size) ∧ Stp c (col7 c w.heap.size w'.heap.size) k w w' ∧ (∀ b, b < w.heap.size → Go.Proofs.Ytcpemgfpiapaaaa.col7 c w.heap.size w'.heap.size b = c b) := by
  have ha : ∀ b, b < w.heap.size → Go.Proofs.Ytcpemgfpiapaaaa.col7 c w.heap.size w'.heap.size b = c b := fun b hb => if_neg (by omega)
  have hs' : Stp c (Go.Proofs.Ytcpemgfpiapaaaa.col7 c w.heap.size w'.heap.size) k w w' := ⟨hs.os, hs.tape, hs.output, hs.size, ha, hs.keep, fun b hb => by
    have := hs.size
    unfold Go.Proofs.Ytcpemgfpiapaaaa.col7
    rw [if_neg (by omega)]
    exact h.fr b (by omega)⟩
  exact ⟨h.stp hs' hk, hs', ha⟩

end Go.Proofs.Ytcpemgfpiapaaaa
