/- Sending at an end. The packets that an end sends. slices.Delete of the first elements of a list of byte slices that is owned. -/
import Derived.Test.YtcpemgfpiapaaaaLkF
import Derived.Deep.RegionLaw
import Derived.Test.YtcpemgfpiapaaaaLkC
import Derived.Lib.SliceRun
namespace Go.Proofs.Ytcpemgfpiapaaaa
open Go.RowKit

theorem Try.underlying63 : Try.prog.underlying 63 = some (.slice 28) := by kernel_rfl

/-- The plain sending. -/
def sendM (M : EndM) (b : List UInt8) : EndM × Int := if 65536 < b.length ∨ 1000 ≤ M.waiting.length then (M, 4) else ({ M with waiting := M.waiting ++ [b] }, 0)

theorem sendM_wf {M : EndM} (h : Wf M) (b : List UInt8) : Wf (sendM M b).1 := by
  unfold sendM
  split
  · exact h
  · rename_i hn
    have h1 : b.length ≤ 65536 := by omega
    have h2 : M.waiting.length < 1000 := by omega
    exact ⟨h.win, h.key, by simp; omega, fun l hl => by
      simp only [List.mem_append, List.mem_singleton] at hl
      rcases hl with hl | rfl
      · exact h.rows l hl
      · exact h1, h.ack, h.del, h.forg, h.hold⟩

/-- The end behind an append to what waits. -/
theorem end_push {c : Nat → Nat} {k p : Nat} {w W w1 : World} {M : EndM} {wo : Option Addr} {wc mb : Nat} {vs : List Value} {b : List UInt8} {v : Value}
    (hf : Fr c w) (hk : k ≠ 0) (h1 : w.heap[p]? = some (.cells (endCells M wo wc mb) 101 (0, 0))) (h2 : c p = k) (h3 : c mb = k) (h4 : MapR c w mb M.held) (h6 : RowsC c w vs M.waiting) (h7 : ∀ a, wo = some a → c a.block = k ∧ a.block ≠ p)
    (h5 : w.ownsRow 0 28 1 (.slice wo M.waiting.length wc) M.waiting.length vs)
    (hb : Below w.heap.size w W) (hv : RowC c W v b) {g cap : Nat} {row : Option Nat} (hrow : row = (Value.slice wo M.waiting.length wc).ownBlock)
    (hown : w1.ownsRow 0 28 1 (.slice (some ⟨g, 0, none⟩) (M.waiting.length + 1) cap) (M.waiting.length + 1) (vs ++ [v])) (hgrow : W.grownBy w1 row) (hat : row = some g ∨ g = W.heap.size) (hlt : g < w1.heap.size) :
    ∃ c', Stp c c' k w (w1.setCell ⟨p, 2, none⟩ (.slice (some ⟨g, 0, none⟩) (M.waiting.length + 1) cap)) ∧ EndV c' k (w1.setCell ⟨p, 2, none⟩ (.slice (some ⟨g, 0, none⟩) (M.waiting.length + 1) cap)) p { M with waiting := M.waiting ++ [b] } := by
  subst hrow
  have hp := (Array.getElem?_eq_some_iff.1 h1).1
  have hmb : mb < w.heap.size := by
    obtain ⟨es, clock, hb, _⟩ := h4
    exact (Array.getElem?_eq_some_iff.1 hb).1
  have hW := Stp.of_below (k := k) hf hb
  have hsz := hb.size
  -- the row's block
  have hrk : ∀ x, (Value.slice wo M.waiting.length wc).ownBlock = some x → x < w.heap.size ∧ c x = k ∧ x ≠ p ∧ x ≠ mb := by
    intro x hx
    cases wo with
    | none => cases hx
    | some a =>
      injection hx with hx
      subst hx
      refine ⟨(h5.lt _ rfl).2, (h7 a rfl).1, (h7 a rfl).2, fun e => ?_⟩
      obtain ⟨es, clock, hm, _⟩ := h4
      rcases h5.2 with ⟨h, _⟩ | ⟨g, cap, cur, hv, hg, hh, r⟩
      · cases h
      · cases hv
        simp only at e
        rw [e, hm] at hh
        cases hh
  have hs1 : Stp c (fun x => if x = g then k else c x) k w w1 := by
    refine ⟨hgrow.os.trans hb.os, hgrow.tape.trans hb.tape, hgrow.output.trans hb.output, Nat.le_trans hsz hgrow.size, fun x hx => ?_, fun x hx hc => ?_, fun x hx => ?_⟩
    · by_cases hxg : x = g
      · subst hxg
        rw [if_pos rfl]
        rcases hat with h | h
        · exact (hrk _ h).2.1.symm
        · omega
      · rw [if_neg hxg]
    · rw [hgrow.block x (by omega) (fun e => hc (hrk x e.symm).2.1)]
      exact hb.block x hx
    · rw [if_neg (by omega)]
      exact hf x (by have := hgrow.size; omega)
  have hpg : p ≠ g := by
    intro e
    rcases hat with h | h
    · exact (hrk _ h).2.2.1 e.symm
    · omega
  have hmg : mb ≠ g := by
    intro e
    rcases hat with h | h
    · exact (hrk _ h).2.2.2 e.symm
    · omega
  have hcp : (fun x => if x = g then k else c x) p = k := by simp [hpg, h2]
  have hs2 := hs1.setCell (p := ⟨p, 2, none⟩) hcp hp (.slice (some ⟨g, 0, none⟩) (M.waiting.length + 1) cap)
  have hbp : w1.heap[p]? = w.heap[p]? := (hgrow.block p (by omega) (fun e => (hrk p e.symm).2.2.1 rfl)).trans (hb.block p hp)
  have hbm : w1.heap[mb]? = w.heap[mb]? := (hgrow.block mb (by omega) (fun e => (hrk mb e.symm).2.2.2 rfl)).trans (hb.block mb hmb)
  have hmp : mb ≠ p := by
    intro e
    obtain ⟨es, clock, hm, _⟩ := h4
    rw [e, h1] at hm
    cases hm
  have hsv : Stp c (fun x => if x = g then k else c x) k W (w1.setCell ⟨p, 2, none⟩ (.slice (some ⟨g, 0, none⟩) (M.waiting.length + 1) cap)) := by
    refine ⟨hgrow.os, hgrow.tape, hgrow.output, by simpa using hgrow.size, fun x hx => ?_, fun x hx hc => ?_, hs2.fresh⟩
    · by_cases hxg : x = g
      · subst hxg
        rw [if_pos rfl]
        rcases hat with h | h
        · exact (hrk _ h).2.1.symm
        · omega
      · rw [if_neg hxg]
    · rw [heap_setCell_other _ _ _ _ (fun e => hc (by simp only at e; rw [e]; exact h2))]
      exact hgrow.block x hx (fun e => hc (hrk x e.symm).2.1)
  refine ⟨_, hs2, some ⟨g, 0, none⟩, cap, mb, vs ++ [v], ?_, hcp, by simp [hmg, h3], ?_, ?_, ?_, fun a ha => ?_⟩
  · rw [heap_setCell_same w1 p 2 (endCells M wo wc mb) 101 _ (hbp.trans h1)]
    simp [endCells]
  · exact h4.stp hs2 hk ((heap_setCell_other _ _ _ _ hmp).trans hbm)
  · have hl : (M.waiting ++ [b]).length = M.waiting.length + 1 := by simp
    simp only [hl]
    refine ⟨hown.1, ?_⟩
    rcases hown.2 with ⟨h, _⟩ | ⟨g', cap', cur, hv', hg', hh, r⟩
    · cases h
    · cases hv'
      exact .inr ⟨g, cap, cur, rfl, hg', by rw [heap_setCell_other _ _ _ _ (Ne.symm hpg)]; exact hh, r⟩
  · exact (h6.stp hs2 hk).snoc (hv.stp hsv hk)
  · cases ha
    exact ⟨by simp, Ne.symm hpg⟩

theorem below_of_drew {w w' : World} (h : Below w.drew.heap.size w.drew w') : Below w.heap.size w w' := ((Below.refl _ _).drew).trans h

/-- What a call at an end gives: a value; the end behind it. -/
def EndP (c : Nat → Nat) (k : Nat) (w : World) (p : Nat) (M : EndM) (v : Value) (e : Ending) (w' : World) : Prop := ∃ c', Stp c c' k w w' ∧ EndV c' k w' p M ∧ e = .returned v

set_option maxRecDepth 20000 in
/-- Send. -/
theorem send_any (c : Nat → Nat) (k p : Nat) (M : EndM) (w : World) (hf : Fr c w) (hk : k ≠ 0) (h : EndV c k w p M) (ao : Option Addr) (n cp : Nat) (b : List UInt8) (hr : SlV w ao n cp 1 (bvs b)) (hn : n ≤ 100000000000) :
    Calls Try.prog 54 #[.pointer (some ⟨p, 0, none⟩), .slice ao n cp] w (EndP c k w p (sendM M b).1 (.int .i64 (sendM M b).2)) := by
  obtain rfl : b.length = n := by have := hr.len; simpa using this
  obtain ⟨wo, wc, mb, vs, h1, h2, h3, h4, h5, h6, h7⟩ := id h
  obtain ⟨x0, x1, x2, x3, x4, x5, x6, x7, f2, f3, f4, f6, f7⟩ := end_cells h1
  by_cases hb1 : 65536 < b.length
  · have e : sendM M b = (M, 4) := by unfold sendM; rw [if_pos (by omega)]
    rw [e]
    go_enter Try.func54, Try.ntmps54
    go_wp2
    go_ret
    exact ⟨c, Stp.refl hf, h, rfl⟩
  · by_cases hb2 : 1000 ≤ M.waiting.length
    · have e : sendM M b = (M, 4) := by unfold sendM; rw [if_pos (by omega)]
      rw [e]
      go_enter Try.func54, Try.ntmps54
      go_wp2
      go_ret
      exact ⟨c, Stp.refl hf, h, rfl⟩
    · have e : sendM M b = ({ M with waiting := M.waiting ++ [b] }, 0) := by unfold sendM; rw [if_neg (by omega)]
      rw [e]
      have HP := Lib.hid h
      have H4 := Lib.hid h4
      obtain ⟨i, hi, hz0, hz1, hz2⟩ := info_parts Try.info28
      have hp := (Array.getElem?_eq_some_iff.1 h1).1
      have hne : some p ≠ (Value.slice wo M.waiting.length wc).ownBlock := by
        intro e
        cases wo with
        | none => cases e
        | some a => injection e with e; exact (h7 a rfl).2 e.symm
      go_enter Try.func54, Try.ntmps54
      go_upto_region 3 with fail
      go_region_law (first
        | (go_simp; go_at_call 69; refine (clone_any _ _ _ b _ hr.drew hn).mono ?_; rintro e w4 ⟨a4, c4, rfl, ho4, hb4⟩; have hb0 := below_of_drew hb4; have hp4 := Nat.lt_of_lt_of_le hp hb0.size; have hh4 := (hb0.block p hp).trans h1; obtain ⟨y0, y1, y2, y3, y4, y5, y6, y7, g2, g3, g4, g6, g7⟩ := end_cells hh4)
        | (refine step_append_lies _ rfl (.tmp 20) (.tmp 23) 63 rfl 0 28 i (.slice none 0 0) 1 24 Try.underlying63 hi hz0 hz1 hz2 rfl (by decide) _ M.waiting.length vs rfl ((ownsRow_below h5 hb0 (Nat.le_refl _)).alloc _) ⟨w4.heap.size, 0, none⟩ 1 1 [.slice a4 b.length c4] rfl rfl ((sl_new w4 _ _).cell _ rfl) (by intro u hu; simp at hu; subst hu; rfl) (by decide) (by unfold maxLen; omega) (by omega) (Nat.zero_le _) _ rfl ?_; intro g cap w1 hown hgrow hat hlt; obtain ⟨q0, q1, q2, q3, q4, q5, q6, q7, r2, r3, r4, r6, r7⟩ := end_cells ((hgrow.block p (by simp; omega) hne).trans ((Below.heap_alloc w4 _ p hp4).trans hh4))))
      all_goals
        go_wp2
        go_ret
        have hrow : RowC c (w4.alloc (.cells #[Value.slice a4 b.length c4] 28)) (.slice a4 b.length c4) b := RowC.own hf (OwnB.alloc ho4 _)
        obtain ⟨c', s1, s2⟩ := end_push hf hk h1 h2 h3 h4 h6 h7 h5 (hb0.alloc hb0.size _) hrow rfl hown hgrow hat hlt
        exact ⟨c', s1, s2, rfl⟩

end Go.Proofs.Ytcpemgfpiapaaaa

namespace Go.Proofs.Ytcpemgfpiapaaaa
open Go.RowKit

/-- A slice of rows, in blocks without colour. -/
def ListC (c : Nat → Nat) (w : World) (v : Value) (ls : List (List UInt8)) : Prop := ∃ ao cap vs, v = .slice ao ls.length cap ∧ SlV w ao ls.length cap 1 vs ∧ RowsC c w vs ls ∧ ∀ x, ao = some x → 0 < ls.length → c x.block = 0

theorem SlV.lt' {w : World} {x : Addr} {n cp : Nat} {xs : List Value} (h : SlV w (some x) n cp 1 xs) (hl : 0 < n) : x.block < w.heap.size := by
  have hlen := h.len
  have := h.cell x rfl 0 (xs[0]'(by omega)) (List.getElem?_eq_getElem _)
  have := World.block_lt_of_cell? _ _ this
  rwa [add_block] at this

theorem ListC.stp {c c' : Nat → Nat} {k : Nat} {w w' : World} {v : Value} {ls : List (List UInt8)} (h : ListC c w v ls) (hs : Stp c c' k w w') (hk : k ≠ 0) : ListC c' w' v ls := by
  obtain ⟨a, cp, vs, rfl, hr, hv, hc⟩ := h
  refine ⟨a, cp, vs, rfl, hr.stp hs hk hc, hv.stp hs hk, fun x hx hl => ?_⟩
  subst hx
  rw [hs.col _ (hr.lt' hl)]
  exact hc x rfl hl

theorem own_lt {w : World} {B n cap : Nat} {e : TypeId} {ao : Option Addr} {vs : List Value} (h : w.ownsRow B e 1 (.slice ao n cap) n vs) {x : Nat} (hx : (Value.slice ao n cap).ownBlock = some x) : x < w.heap.size ∧ B ≤ x := ⟨(h.lt x hx).2, (h.lt x hx).1⟩

/-- A row more at the end of a list that the call owns. -/
theorem rows_push {c1 : Nat → Nat} {k B : Nat} {wr W w1 : World} {ao : Option Addr} {n cap : Nat} {vs : List Value} {ls : List (List UInt8)} {v : Value} {l : List UInt8} {g : Nat}
    (hf : Fr c1 wr) (hk : k ≠ 0) (hown : wr.ownsRow B 28 1 (.slice ao n cap) n vs) (hrows : RowsC c1 wr vs ls) (hcol : ∀ a, ao = some a → c1 a.block = k)
    (hb : Below wr.heap.size wr W) (hv : RowC c1 W v l) {row : Option Nat} (hrow : row = (Value.slice ao n cap).ownBlock) (hgrow : W.grownBy w1 row) (hat : row = some g ∨ g = W.heap.size) (hlt : g < w1.heap.size) :
    ∃ c2, Stp c1 c2 k wr w1 ∧ RowsC c2 w1 (vs ++ [v]) (ls ++ [l]) ∧ c2 g = k ∧ ∀ b, b ≠ g → c2 b = c1 b := by
  subst hrow
  have hrk : ∀ x, (Value.slice ao n cap).ownBlock = some x → x < wr.heap.size ∧ c1 x = k := by
    intro x hx
    refine ⟨(own_lt hown hx).1, ?_⟩
    cases ao with
    | none => cases hx
    | some a => injection hx with hx; subst hx; exact hcol a rfl
  have hsz := hb.size
  have mk : ∀ w0 : World, wr.heap.size ≤ w0.heap.size → w0.heap.size ≤ W.heap.size → w0.os = W.os → w0.tape = W.tape → w0.output = W.output → (∀ x, x < w0.heap.size → W.heap[x]? = w0.heap[x]?) → Stp c1 (fun x => if x = g then k else c1 x) k w0 w1 := by
    intro w0 hw0 hw1 e1 e2 e3 e4
    refine ⟨hgrow.os.trans e1.symm, hgrow.tape.trans e2.symm, hgrow.output.trans e3.symm, Nat.le_trans hw1 hgrow.size, fun x hx => ?_, fun x hx hc => ?_, fun x hx => ?_⟩
    · by_cases hxg : x = g
      · subst hxg
        rw [if_pos rfl]
        rcases hat with h | h
        · exact (hrk _ h).2.symm
        · omega
      · rw [if_neg hxg]
    · rw [hgrow.block x (by omega) (fun e => hc (hrk x e.symm).2)]
      exact e4 x hx
    · rw [if_neg (by omega)]
      exact hf x (by have := hgrow.size; omega)
  have s1 := mk wr (Nat.le_refl _) hsz hb.os.symm hb.tape.symm hb.output.symm (fun x hx => hb.block x hx)
  have s2 := mk W hsz (Nat.le_refl _) rfl rfl rfl (fun x _ => rfl)
  exact ⟨_, s1, (hrows.stp s1 hk).snoc (hv.stp s2 hk), by simp, fun b hb => by simp [hb]⟩

/-- The plain sending of packets. -/
def outW (M : EndM) (i : Nat) (l : List UInt8) : List UInt8 := sealB M.key (pktB ((M.acked : Int) + i + 1) (M.delivered : Int) l)
def outL (M : EndM) : List (List UInt8) := (M.waiting.take M.window).mapIdx (outW M)
def outAck (M : EndM) : List UInt8 := sealB M.key (pktB 0 (M.delivered : Int) [])
def outP (M : EndM) : List (List UInt8) := if outL M = [] ∧ M.owing = true then [outAck M] else outL M
def outM (M : EndM) : EndM := { M with owing := false }

theorem outM_wf {M : EndM} (h : Wf M) : Wf (outM M) := ⟨h.win, h.key, h.wait, h.rows, h.ack, h.del, h.forg, h.hold⟩

theorem out_step {M : EndM} {i m : Nat} {l : List UInt8} (hm : m = min M.waiting.length M.window) (hi : i < m) (hl : M.waiting[i]? = some l) : ((M.waiting.take m).take (i + 1)).mapIdx (outW M) = ((M.waiting.take m).take i).mapIdx (outW M) ++ [outW M i l] := by
  obtain ⟨h1, h2⟩ := List.getElem?_eq_some_iff.1 hl
  have hlt : i < (M.waiting.take m).length := by rw [List.length_take]; omega
  rw [List.take_succ_eq_append_getElem hlt, List.mapIdx_concat]
  simp only [List.getElem_take, h2, List.length_take]
  congr 3
  omega

/-- What a list of packets is. -/
def OutP (c : Nat → Nat) (k : Nat) (w : World) (p : Nat) (M : EndM) (ls : List (List UInt8)) (e : Ending) (w' : World) : Prop := ∃ c' v, Stp c c' k w w' ∧ EndV c' k w' p M ∧ e = .returned v ∧ ListC c' w' v ls

end Go.Proofs.Ytcpemgfpiapaaaa

namespace Go.Proofs.Ytcpemgfpiapaaaa
open Go.RowKit

theorem setCells_block {g : Nat} {t : TypeId} : ∀ (vs : List Value) (o : Nat) (w : World) (cur : Array Value), w.heap[g]? = some (.cells cur t (0, 0)) →
    ∃ cur', (w.setCells g o vs).heap[g]? = some (.cells cur' t (0, 0)) ∧ cur'.size = cur.size ∧ (∀ j, (j < o ∨ o + vs.length ≤ j) → cur'[j]? = cur[j]?) ∧ (∀ j, j < vs.length → o + j < cur.size → cur'[o + j]? = vs[j]?) ∧ w.grownBy (w.setCells g o vs) (some g)
  | [], o, w, cur, h => ⟨cur, h, rfl, fun _ _ => rfl, fun j hj => by simp at hj, ⟨rfl, rfl, rfl, Nat.le_refl _, fun _ _ _ => rfl⟩⟩
  | v :: r, o, w, cur, h => by
    have h1 := heap_setCell_same w g o cur t v h
    obtain ⟨cur', e1, e2, e3, e4, e5⟩ := setCells_block r (o + 1) (w.setCell ⟨g, o, none⟩ v) _ h1
    refine ⟨cur', e1, by rw [e2]; simp, fun j hj => ?_, fun j hj hl => ?_, ⟨e5.os, e5.tape, e5.output, by have h5 := e5.size; simp only [World.setCells]; simpa using h5, fun x hx hne => ?_⟩⟩
    · simp only [List.length_cons] at hj
      rw [e3 j (by omega)]
      rw [Array.getElem?_setIfInBounds_ne (by omega)]
    · cases j with
      | zero =>
        rw [Nat.add_zero, e3 o (by omega)]
        simp at hl
        simp [hl]
      | succ j =>
        simp only [List.length_cons] at hj
        have := e4 j (by omega) (by simp; omega)
        rw [show o + (j + 1) = o + 1 + j by omega, this]
        simp
    · refine (e5.block x (by simpa using hx) hne).trans ?_
      exact heap_setCell_other _ _ _ _ (fun e => hne (by simp [e]))

theorem grown_trans {a b c : World} {r : Option Nat} (h : a.grownBy b r) (g : b.grownBy c r) : a.grownBy c r :=
  ⟨g.os.trans h.os, g.tape.trans h.tape, g.output.trans h.output, Nat.le_trans h.size g.size, fun x hx hne => (g.block x (Nat.lt_of_lt_of_le hx h.size) hne).trans (h.block x hx hne)⟩

set_option maxRecDepth 20000 in
set_option maxHeartbeats 1000000 in
/-- slices.Delete(s, 0, n). -/
theorem delete_any (g cap L n : Nat) (vs : List Value) (w : World) (hown : w.ownsRow 0 28 1 (.slice (some ⟨g, 0, none⟩) L cap) L vs) (hone : ∀ u ∈ vs, u.oneCell' = true) (hn : 1 ≤ n) (hnL : n ≤ L) (hL : L ≤ 1000) :
    Calls Try.prog 71 #[.slice (some ⟨g, 0, none⟩) L cap, .int .i64 0, .int .i64 (n : Int)] w (fun e w' => e = .returned (.slice (some ⟨g, 0, none⟩) (L - n) cap) ∧ w'.ownsRow 0 28 1 (.slice (some ⟨g, 0, none⟩) (L - n) cap) (L - n) (vs.drop n) ∧ w.grownBy w' (some g)) := by
  have hlen : vs.length = L := by have := hown.1; omega
  obtain ⟨cur, hh, hLc, hcm, hcs, htk⟩ : ∃ cur, w.heap[g]? = some (.cells cur 28 (0, 0)) ∧ L ≤ cap ∧ cap ≤ maxLen ∧ cur.size = cap ∧ cur.toList.take L = vs := by
    rcases hown.2 with ⟨h, _⟩ | ⟨g', cap', cur, hv, hg, hh, h1, h2, h3, h4⟩
    · cases h
    · cases hv
      exact ⟨cur, hh, h1, h2, by omega, by simpa using h4⟩
  obtain ⟨i0, hi0, hz0, hz1, hz2⟩ := info_parts Try.info28
  have hcv : ∀ j, j < L → cur[j]? = vs[j]? := fun j hj => by
    rw [← htk, List.getElem?_take_of_lt hj, Array.getElem?_toList]
  obtain ⟨news, hnews⟩ : ∃ news, news = vs.drop n := ⟨_, rfl⟩
  have hnl : news.length = L - n := by rw [hnews, List.length_drop, hlen]
  obtain ⟨A, hA, hsrc⟩ : ∃ A : Addr, (if cap = n then some (⟨g, 0, none⟩ : Addr) else some ⟨g, n, none⟩) = some A ∧ Hid (∀ t u, news[t]? = some u → w.drew.cell? (A.add t) = some u) := by
    by_cases h : cap = n
    · refine ⟨⟨g, 0, none⟩, by simp [h], fun t u hu => ?_⟩
      have h0 : news.length = 0 := by rw [hnl]; omega
      rw [List.length_eq_zero_iff.1 h0] at hu
      simp at hu
    · refine ⟨⟨g, n, none⟩, by simp [h], fun t u hu => ?_⟩
      have ht : t < L - n := by
        have := (List.getElem?_eq_some_iff.1 hu).1
        rwa [hnl] at this
      rw [Addr.add_lit]
      rw [(cells_of (w := w.drew) hh _).1, hcv _ (by omega), ← hu, hnews, List.getElem?_drop]
  have s1 : Hid (news.length = (L - n) * 1) := by rw [Nat.mul_one]; exact hnl
  have s2 : Hid (∀ u ∈ news, u.oneCell' = true) := by
    intro u hu
    rw [hnews] at hu
    exact hone u (List.mem_of_mem_drop hu)
  have s3 : Hid (∀ t, t < news.length → (w.drew.cell? ⟨g, 0 + 0 * 1 + t, none⟩).isSome = true ∧ w.drew.frozen? ⟨g, 0 + 0 * 1 + t, none⟩ = false) := by
    intro t ht
    rw [hnl] at ht
    refine ⟨?_, (cells_of (w := w.drew) hh _).2⟩
    rw [(cells_of (w := w.drew) hh _).1, hcv _ (by omega), List.getElem?_eq_getElem (by omega)]
    rfl
  obtain ⟨cur1, e1, e2, e3, e4, e5⟩ := setCells_block news 0 w.drew cur hh
  obtain ⟨cur2, d1, d2, d3, d4, d5⟩ := setCells_block (List.replicate (L - (L - n)) (Value.slice none 0 0)) (L - n) (w.drew.setCells g 0 news) cur1 e1
  have hcl : ∀ ty, (Builtin.clear_ #[63] ty #[.slice (some ⟨g, L - n, none⟩) (L - (L - n)) (cap - (L - n))]).run Try.prog (w.drew.setCells g 0 news) = .ok (.tuple #[]) ((w.drew.setCells g 0 news).setCells g (L - n) (List.replicate (L - (L - n)) (Value.slice none 0 0))) :=
    fun ty => Lib.run_clear_slice _ 63 28 ty _ Try.underlying63 zero28 rfl rfl g (L - n) _ _ (by omega) (fun t ht => by rw [(cells_of e1 _).1, Array.getElem?_eq_getElem (by omega)]; rfl) (fun t ht => (cells_of e1 _).2)
  have hfin : w.grownBy ((w.drew.setCells g 0 news).setCells g (L - n) (List.replicate (L - (L - n)) (Value.slice none 0 0))) (some g) :=
    grown_trans ⟨e5.os, e5.tape, e5.output, e5.size, e5.block⟩ d5
  have hres : ((w.drew.setCells g 0 news).setCells g (L - n) (List.replicate (L - (L - n)) (Value.slice none 0 0))).ownsRow 0 28 1 (.slice (some ⟨g, 0, none⟩) (L - n) cap) (L - n) news := by
    refine ⟨by rw [hnl, Nat.mul_one], .inr ⟨g, cap, cur2, rfl, Nat.zero_le _, d1, by omega, hcm, by omega, ?_⟩⟩
    apply List.ext_getElem?
    intro j
    by_cases hj : j < L - n
    · rw [List.getElem?_take_of_lt (by omega), Array.getElem?_toList, d3 j (.inl hj)]
      have := e4 j (by omega) (by omega)
      rw [Nat.zero_add] at this
      exact this
    · rw [List.getElem?_eq_none (by simp; omega), List.getElem?_eq_none (by omega)]
  rw [← hnews]
  generalize hW2 : (w.drew.setCells g 0 news).setCells g (L - n) (List.replicate (L - (L - n)) (Value.slice none 0 0)) = W2 at hcl hfin hres
  obtain ⟨W1, hW1⟩ : ∃ W1, W1 = w.drew.setCells g 0 news := ⟨_, rfl⟩
  rw [← hW1] at hcl
  have hW : Hid (W1 = w.drew.setCells g 0 news) := hW1
  have HF := Lib.hid hfin
  have HR := Lib.hid hres
  obtain ⟨T, hT⟩ : ∃ T, L - n = T := ⟨_, rfl⟩
  have hTL : T ≤ L := by omega
  have hTc : T ≤ cap := by omega
  clear hW1 hW2 e1 e2 e3 e4 e5 d1 d2 d3 d4 d5 hcv htk hh hown hone hfin hres hlen
  rw [hT] at hcl s1 HR ⊢
  clear hnl
  have hne : ((0 : Int) == (n : Int)) = false := by simp; omega
  go_enter Try.func71, Try.ntmps71
  go_wp2_with fail
  go_region_law (refine step_append_room rfl (.tmp 22) (.tmp 25) 63 rfl 28 i0 1 Try.underlying63 hi0 hz1 g 0 0 cap (by simp [Act.eval, Act.put]) A T (cap - n) news (by simp [Act.eval, Act.put]) s1.out hsrc.out s2.out (by omega) s3.out ?_; rw [← hW.out])
  go_wp2
  go_ret
  exact ⟨rfl, HR.out, HF.out⟩

end Go.Proofs.Ytcpemgfpiapaaaa
