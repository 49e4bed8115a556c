/- The plain end at packets with the right seal; the example of the section, in plain Lean. The functions of package link as its laws call them. -/
import Derived.Test.YtcpemgfpiapaaaaEndK
import Derived.Lib.SlBytesConst
namespace Go.Proofs.Ytcpemgfpiapaaaa

theorem in_pkt (M : EndM) {seq ack : Int} (h1 : InR seq) (h2 : InR ack) {l : List UInt8} (hv : validP seq ack l) :
    inM M (sealB M.key (pktB seq ack l)) = if (M.acked : Int) + M.waiting.length < ack ∨ (M.delivered : Int) + 16 < seq then (M, [], 0)
      else if seq = 0 then (ackM M ack, [], 0)
      else (delivM (holdM (ackM M ack) seq l), delivL (holdM (ackM M ack) seq l), 0) := by
  unfold inM
  rw [open_seal]
  rw [if_neg (by simp)]
  simp only [read_pkt h1 h2 hv]

theorem send_ok (M : EndM) (b : List UInt8) (h1 : b.length ≤ 65536) (h2 : M.waiting.length < 1000) : sendM M b = ({ M with waiting := M.waiting ++ [b] }, 0) := by
  unfold sendM; rw [if_neg (by omega)]

/-- The packet of the example. -/
def lvP (seq ack : Int) (l : List UInt8) : List UInt8 := sealB 9 (pktB seq ack l)

def lvA : EndM := { newM 2 9 with waiting := [[97], [98], [99]] }
def lvB1 : EndM := { newM 2 9 with owing := true, held := putH (fun _ => none) 2 [98] }
def lvB2 : EndM := { newM 2 9 with owing := true, delivered := 2, held := delH (delH (putH (putH (fun _ => none) 2 [98]) 1 [97]) 1) 2 }
def lvA4 : EndM := { newM 2 9 with waiting := [[99]], acked := 2 }

theorem lv_s1 : (sendM (newM 2 9) [97]).1 = { newM 2 9 with waiting := [[97]] } := by rw [send_ok _ _ (by decide) (by decide)]; rfl
theorem lv_s2 : (sendM { newM 2 9 with waiting := [[97]] } [98]).1 = { newM 2 9 with waiting := [[97], [98]] } := by rw [send_ok _ _ (by decide) (by simp)]; rfl
theorem lv_s3 : (sendM { newM 2 9 with waiting := [[97], [98]] } [99]).1 = lvA := by rw [send_ok _ _ (by decide) (by simp)]; rfl

theorem lv_out1 : outP lvA = [lvP 1 0 [97], lvP 2 0 [98]] := rfl
theorem lv_out1m : outM lvA = lvA := rfl

theorem lv_in1 : inM (newM 2 9) (lvP 2 0 [98]) = (lvB1, [], 0) := by
  have := in_pkt (newM 2 9) (seq := 2) (ack := 0) (l := [98]) (by unfold InR; omega) (by unfold InR; omega) (by decide)
  refine this.trans ?_
  rw [if_neg (by decide), if_neg (by decide)]
  rfl

theorem lv_in2 : inM lvB1 (lvP 1 0 [97]) = (lvB2, [[97], [98]], 0) := by
  have := in_pkt lvB1 (seq := 1) (ack := 0) (l := [97]) (by unfold InR; omega) (by unfold InR; omega) (by decide)
  refine this.trans ?_
  rw [if_neg (by decide), if_neg (by decide)]
  rfl

theorem lv_out2 : outP lvB2 = [lvP 0 2 []] := rfl

theorem lv_in3 : inM lvA (lvP 0 2 []) = (lvA4, [], 0) := by
  have := in_pkt lvA (seq := 0) (ack := 2) (l := []) (by unfold InR; omega) (by unfold InR; omega) (by decide)
  refine this.trans ?_
  rw [if_neg (by decide), if_pos rfl]
  rfl

theorem lv_out3 : outP lvA4 = [lvP 3 0 [99]] := rfl
theorem lv_out3m : outM lvA4 = lvA4 := rfl

end Go.Proofs.Ytcpemgfpiapaaaa

namespace Go.Proofs.Ytcpemgfpiapaaaa
open Go.RowKit

/-- A law's state: what was there when it began stands, and has no colour. -/
structure LS (W w : World) (c : Nat → Nat) : Prop where
  below : Below W.heap.size W w
  fr : Fr c w
  zero : ∀ b, b < W.heap.size → c b = 0

theorem LS.start (W : World) : LS W W (fun _ => 0) := ⟨Below.refl _ _, fun _ _ => rfl, fun _ _ => rfl⟩

theorem LS.stp {W w w' : World} {c c' : Nat → Nat} {k : Nat} (h : LS W w c) (hs : Stp c c' k w w') (hk : k ≠ 0) : LS W w' c' :=
  ⟨h.below.trans (hs.below h.below.size h.zero hk), hs.fr, fun b hb => (hs.col b (Nat.lt_of_lt_of_le hb h.below.size)).trans (h.zero b hb)⟩

theorem LS.step {W w w' : World} {c : Nat → Nat} (h : LS W w c) (hb : Below w.heap.size w w') : LS W w' c :=
  ⟨h.below.trans (hb.mono h.below.size), h.fr.below hb, h.zero⟩

theorem LS.alloc {W w : World} {c : Nat → Nat} (h : LS W w c) (o : Obj) : LS W (w.alloc o) c := h.step ((Below.refl _ _).alloc (Nat.le_refl _) o)

theorem RowC.step {c : Nat → Nat} {w w' : World} {v : Value} {l : List UInt8} (h : RowC c w v l) (hf : Fr c w) (hb : Below w.heap.size w w') : RowC c w' v l := h.stp (k := 1) (Stp.of_below hf hb) (by decide)
theorem ListC.step {c : Nat → Nat} {w w' : World} {v : Value} {ls : List (List UInt8)} (h : ListC c w v ls) (hf : Fr c w) (hb : Below w.heap.size w w') : ListC c w' v ls := h.stp (k := 1) (Stp.of_below hf hb) (by decide)

/-- One new cell of whatever make, read as a slice. -/
theorem sl_newf (w : World) (u : Value) (t : TypeId) (fr : Nat × Nat) : SlV (w.alloc (.cells #[u] t fr)) (some ⟨w.heap.size, 0, none⟩) 1 1 1 [u] :=
  ⟨rfl, Nat.le_refl _, by unfold maxLen; omega, fun h => by (cases h), fun a ha j x hj => by
    cases ha
    match j, hj with
    | 0, hj =>
      simp at hj
      subst hj
      rw [Addr.add_lit]
      exact cell_of_row (w.alloc (.cells #[u] t fr)) w.heap.size 0 #[u] t fr (heap_alloc_new w _)⟩

section
variable {W w : World} {c : Nat → Nat} {k p : Nat} {M : EndM} (hL : LS W w c)
include hL

theorem lx_new (k win key : Nat) (hk : k ≠ 0) (h1 : 1 ≤ win) (h2 : win ≤ 16) : Calls Try.prog 47 #[.int .i64 (win : Int), .int .u64 (key : Int)] w (fun e w' => ∃ c' p, e = .returned (.tuple #[.pointer (some ⟨p, 0, none⟩), .int .i64 0]) ∧ LS W w' c' ∧ Stp c c' k w w' ∧ EndV c' k w' p (newM win key)) :=
  (new_any c k win key w hL.fr h1 h2).mono fun _ _ ⟨c', p, h1, h2, h3, _⟩ => ⟨c', p, h1, hL.stp h2 hk, h2, h3⟩

variable (hk : k ≠ 0) (hE : EndV c k w p M)
include hk hE

theorem lx_send {ao : Option Addr} {n cp : Nat} {b : List UInt8} (hr : SlV w ao n cp 1 (bvs b)) (hn : n ≤ 100000000000) :
    Calls Try.prog 54 #[.pointer (some ⟨p, 0, none⟩), .slice ao n cp] w (fun e w' => ∃ c', LS W w' c' ∧ Stp c c' k w w' ∧ EndV c' k w' p (sendM M b).1 ∧ e = .returned (.int .i64 (sendM M b).2)) :=
  (send_any c k p M w hL.fr hk hE ao n cp b hr hn).mono fun _ _ ⟨c', h1, h2, h3⟩ => ⟨c', hL.stp h1 hk, h1, h2, h3⟩

/-- One new byte, marked as a constant's, is sent. -/
theorem lx_sendc (x : UInt8) : Calls Try.prog 54 #[.pointer (some ⟨p, 0, none⟩), .slice (some ⟨w.heap.size, 0, none⟩) 1 1] (w.alloc (.cells #[bv x] 5 (1, 2))) (fun e w' => ∃ c', LS W w' c' ∧ Stp c c' k w w' ∧ EndV c' k w' p (sendM M [x]).1 ∧ e = .returned (.int .i64 (sendM M [x]).2)) := by
  have hb : Below w.heap.size w (w.alloc (.cells #[bv x] 5 (1, 2))) := (Below.refl _ _).alloc (Nat.le_refl _) _
  refine (lx_send (hL.alloc _) hk (hE.below hL.fr hb) (b := [x]) (sl_newf w (bv x) 5 (1, 2)) (by decide)).mono ?_
  rintro e w' ⟨c', h1, h2, h3, h4⟩
  exact ⟨c', h1, (Stp.of_below hL.fr hb).trans h2, h3, h4⟩

/-- One new byte is sent. -/
theorem lx_send1 (x : UInt8) : Calls Try.prog 54 #[.pointer (some ⟨p, 0, none⟩), .slice (some ⟨w.heap.size, 0, none⟩) 1 1] (w.alloc (.cells #[bv x] 5)) (fun e w' => ∃ c', LS W w' c' ∧ Stp c c' k w w' ∧ EndV c' k w' p (sendM M [x]).1 ∧ e = .returned (.int .i64 (sendM M [x]).2)) := by
  have hb : Below w.heap.size w (w.alloc (.cells #[bv x] 5)) := (Below.refl _ _).alloc (Nat.le_refl _) _
  refine (lx_send (hL.alloc _) hk (hE.below hL.fr hb) (b := [x]) (sl_new w (bv x) 5) (by decide)).mono ?_
  rintro e w' ⟨c', h1, h2, h3, h4⟩
  exact ⟨c', h1, (Stp.of_below hL.fr hb).trans h2, h3, h4⟩

theorem lx_out (hw : Wf M) : Calls Try.prog 51 #[.pointer (some ⟨p, 0, none⟩)] w (fun e w' => ∃ c' v, LS W w' c' ∧ Stp c c' k w w' ∧ EndV c' k w' p (outM M) ∧ ListC c' w' v (outP M) ∧ e = .returned v) :=
  (out_any c k p M w hL.fr hk hw hE).mono fun _ _ ⟨c', v, h1, h2, h3, h4⟩ => ⟨c', v, hL.stp h1 hk, h1, h2, h4, h3⟩

theorem lx_in (hw : Wf M) (hsm : M.acked ≤ 999000000 ∧ M.delivered ≤ 999000000) {ao : Option Addr} {n cp : Nat} {b : List UInt8} (hr : SlV w ao n cp 1 (bvs b)) (hn : n ≤ 100000000000) {M' : EndM} {ls : List (List UInt8)} {er : Int} (hi : inM M b = (M', ls, er)) :
    Calls Try.prog 50 #[.pointer (some ⟨p, 0, none⟩), .slice ao n cp] w (fun e w' => ∃ c' v, LS W w' c' ∧ Stp c c' k w w' ∧ EndV c' k w' p M' ∧ ListC c' w' v ls ∧ e = .returned (.tuple #[v, .int .i64 er])) :=
  (in_any c k p M w hL.fr hk hw hsm hE ao n cp b hr hn).mono fun _ _ ⟨c', v, h1, h2, h3, h4⟩ => by
    rw [hi] at h2 h3 h4
    exact ⟨c', v, hL.stp h1 hk, h1, h2, h4, h3⟩

end

/-- The empty list. -/
theorem ListC.len {c : Nat → Nat} {w : World} {v : Value} {ls : List (List UInt8)} (h : ListC c w v ls) {n : Nat} (hn : ls.length = n) : ∃ ao cap, v = .slice ao n cap := by
  obtain ⟨ao, cap, vs, rfl, _⟩ := h
  subst hn
  exact ⟨ao, cap, rfl⟩

/-- One row. -/
theorem ListC.get {c : Nat → Nat} {w : World} {a : Addr} {n cap : Nat} {ls : List (List UInt8)} (h : ListC c w (.slice (some a) n cap) ls) {j : Nat} {l : List UInt8} (hj : ls[j]? = some l) :
    ∃ b cb, w.cell? (a.add j) = some (.slice b l.length cb) ∧ SlV w b l.length cb 1 (bvs l) ∧ RowC c w (.slice b l.length cb) l := by
  obtain ⟨ao, cap', vs, e, hs, hr, _⟩ := h
  injection e with e1 e2 e3
  subst e1 e2 e3
  have hjl := (List.getElem?_eq_some_iff.1 hj).1
  obtain ⟨v, hv⟩ : ∃ v, vs[j]? = some v := ⟨_, List.getElem?_eq_getElem (by rw [hr.1]; exact hjl)⟩
  have hrow := hr.2 j v l hv hj
  obtain ⟨b, cb, rfl, hsl, hc⟩ := id hrow
  exact ⟨b, cb, hs.cell a rfl j _ hv, hsl, hrow⟩

theorem ListC.some {c : Nat → Nat} {w : World} {ao : Option Addr} {n cap : Nat} {ls : List (List UInt8)} (h : ListC c w (.slice ao n cap) ls) (hn : 0 < ls.length) : ∃ a, ao = some a := by
  obtain ⟨ao', cap', vs, e, hs, _⟩ := h
  injection e with e1 e2 e3
  subst e1 e2 e3
  exact hs.has hn

theorem lvA_wf : Wf lvA := ⟨⟨by decide, by decide⟩, by decide, by decide, by decide, by decide, by decide, by decide, fun q l h => by simp [lvA, newM] at h⟩
theorem lvA4_wf : Wf lvA4 := ⟨⟨by decide, by decide⟩, by decide, by decide, by decide, by decide, by decide, by decide, fun q l h => by simp [lvA4, newM] at h⟩

end Go.Proofs.Ytcpemgfpiapaaaa
