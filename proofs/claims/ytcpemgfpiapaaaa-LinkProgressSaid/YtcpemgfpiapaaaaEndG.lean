/- link.End.deliver. -/
import Derived.Test.YtcpemgfpiapaaaaLkG
import Derived.Test.YtcpemgfpiapaaaaEndE
namespace Go.Proofs.Ytcpemgfpiapaaaa
open Go.RowKit

/-- The plain delivering. -/
def delivF : Nat → Nat → (Int → Option (List UInt8)) → List (List UInt8) → Nat × (Int → Option (List UInt8)) × List (List UInt8)
  | 0, d, h, out => (d, h, out)
  | f + 1, d, h, out => match h ((d : Int) + 1) with
    | none => (d, h, out)
    | some l => delivF f (d + 1) (delH h ((d : Int) + 1)) (out ++ [l])

def delivM (M : EndM) : EndM := { M with delivered := (delivF 17 M.delivered M.held []).1, held := (delivF 17 M.delivered M.held []).2.1 }
def delivL (M : EndM) : List (List UInt8) := (delivF 17 M.delivered M.held []).2.2

theorem recol {c c1 : Nat → Nat} {k : Nat} {w wr : World} (hf : Fr c w) (hs : Stp c c1 k w wr) {v : Value} {l : List UInt8} (h : RowC c1 wr v l) : RowC c wr v l := by
  obtain ⟨x, cp, e, hsl, hc⟩ := h
  refine ⟨x, cp, e, hsl, fun y hy hl => ?_⟩
  rcases Nat.lt_or_ge y.block w.heap.size with hlt | hge
  · rw [← hs.col _ hlt]; exact hc y hy hl
  · exact hf _ hge

theorem ownsRow_of {w w' : World} {B : Nat} {e : TypeId} {size n : Nat} {v : Value} {xs : List Value} (h : w.ownsRow B e size v n xs) (hb : ∀ g, v.ownBlock = some g → w'.heap[g]? = w.heap[g]?) : w'.ownsRow B e size v n xs := by
  refine ⟨h.1, ?_⟩
  rcases h.2 with h2 | ⟨g, cap, cur, hv, hg, hh, r⟩
  · exact .inl h2
  · subst hv
    exact .inr ⟨g, cap, cur, rfl, hg, (hb g rfl).trans hh, r⟩

/-- delete, at a step of a region that draws its order. -/
theorem step_delete {ops : Array Oper} {o : Oper} {a : Act} {K : Act → World → Prop} {Q : Exit → Act → World → Prop} {E : Prop} {w w' : World} (hgd : o.guard = none) (m x : Operand)
    (ho : o.op = .call { callee := .builtin .delete, args := #[m, x], argTypes := #[99, 3] }) (mv kv : Value) (hm : a.eval m = mv) (hx : a.eval x = kv)
    (hrun : ∀ ty, (Builtin.delete_ #[99, 3] ty #[mv, kv]).run Try.prog w = .ok (.tuple #[]) w') (h : K (a.put o.dst (.tuple #[])) w') :
    if Region.wanted o (yielded ops a.tmps) = true then Oper.wp Try.prog o a w K Q else E := by
  have hw : Region.wanted o (yielded ops a.tmps) = true := by simp [Region.wanted, hgd]
  rw [if_pos hw]
  unfold Oper.wp execOp
  simp only [ho, resolve, invoke, builtin, Sem.run_bind, Sem.run_pure, Result.andThen_ok, List.map_toArray, List.map_cons, List.map_nil, hm, hx, hrun]
  exact h

/-- The end, while it delivers. -/
structure Dlv (c c1 : Nat → Nat) (k p : Nat) (w wr : World) (M : EndM) (d : Nat) (h : Int → Option (List UInt8)) (wo : Option Addr) (wc mb : Nat) (ao : Option Addr) (cap n : Nat) (us : List Value) (out : List (List UInt8)) : Prop where
  stp : Stp c c1 k w wr
  str : wr.heap[p]? = some (.cells (endCells { M with delivered := d, held := h } wo wc mb) 101 (0, 0))
  map : MapR c1 wr mb h
  row : ∀ a, wo = some a → wr.heap[a.block]? = w.heap[a.block]?
  own : wr.ownsRow w.heap.size 28 1 (.slice ao n cap) n us
  rows : RowsC c1 wr us out
  col : ∀ a, ao = some a → c1 a.block = k

theorem Dlv.drewN {c c1 : Nat → Nat} {k p : Nat} {w wr : World} {M : EndM} {d : Nat} {h : Int → Option (List UInt8)} {wo : Option Addr} {wc mb : Nat} {ao : Option Addr} {cap n : Nat} {us : List Value} {out : List (List UInt8)}
    (D : Dlv c c1 k p w wr M d h wo wc mb ao cap n us out) (q : Nat) : Dlv c c1 k p w (wr.drewN q) M d h wo wc mb ao cap n us out := by
  have hs : Stp c1 c1 (k + 1) wr (wr.drewN q) := Stp.of_below D.stp.fr (below_drewN (Below.refl _ _) q)
  exact ⟨⟨D.stp.os, D.stp.tape, D.stp.output, D.stp.size, D.stp.col, D.stp.keep, D.stp.fresh⟩, D.str, D.map.stp hs (by omega) rfl, D.row, D.own, D.rows.stp hs (by omega), D.col⟩

/-- The number of what is delivered, stored. -/
theorem Dlv.count {c c1 : Nat → Nat} {k p : Nat} {w wr : World} {M : EndM} {d : Nat} {h : Int → Option (List UInt8)} {wo : Option Addr} {wc mb : Nat} {ao : Option Addr} {cap n : Nat} {us : List Value} {out : List (List UInt8)}
    (D : Dlv c c1 k p w wr M d h wo wc mb ao cap n us out) (hk : k ≠ 0) (hp : p < w.heap.size) (hcp : c p = k) (hmp : mb ≠ p) (h7 : ∀ a, wo = some a → a.block ≠ p) : Dlv c c1 k p w (wr.setCell ⟨p, 4, none⟩ (.int .i64 ((d : Int) + 1))) M (d + 1) h wo wc mb ao cap n us out ∧ Stp c1 c1 k wr (wr.setCell ⟨p, 4, none⟩ (.int .i64 ((d : Int) + 1))) := by
  have hcp1 : c1 p = k := (D.stp.col p hp).trans hcp
  have hpr : p < wr.heap.size := Nat.lt_of_lt_of_le hp D.stp.size
  have hs : Stp c1 c1 k wr (wr.setCell ⟨p, 4, none⟩ (.int .i64 ((d : Int) + 1))) := (Stp.refl D.stp.fr).setCell hcp1 hpr _
  refine ⟨⟨D.stp.trans hs, ?_, D.map.stp hs hk (heap_setCell_other _ _ _ _ hmp), fun a ha => (heap_setCell_other _ _ _ _ (h7 a ha)).trans (D.row a ha), ownsRow_of D.own (fun g hg => heap_setCell_other _ _ _ _ (by have := (own_lt D.own hg).2; show g ≠ p; omega)), D.rows.stp hs hk, D.col⟩, hs⟩
  rw [heap_setCell_same wr p 4 _ 101 _ D.str]
  simp [endCells]

/-- A message is no longer held. -/
theorem Dlv.del {c c1 : Nat → Nat} {k p : Nat} {w wr : World} {M : EndM} {d : Nat} {h : Int → Option (List UInt8)} {wo : Option Addr} {wc mb : Nat} {ao : Option Addr} {cap n : Nat} {us : List Value} {out : List (List UInt8)}
    (D : Dlv c c1 k p w wr M d h wo wc mb ao cap n us out) (hk : k ≠ 0) (hmb : mb < w.heap.size) (hcm : c mb = k) (hmp : mb ≠ p) (h7 : ∀ a, wo = some a → a.block ≠ mb) {q : Int} {l : List UInt8} (hq : h q = some l) :
    ∃ W, (∀ ty, (Builtin.delete_ #[99, 3] ty #[.map (some mb), .int .i64 q]).run Try.prog wr = .ok (.tuple #[]) W) ∧ Dlv c c1 k p w W M d (delH h q) wo wc mb ao cap n us out ∧ Stp c1 c1 k wr W := by
  have hcm1 : c1 mb = k := (D.stp.col mb hmb).trans hcm
  have hmr : mb < wr.heap.size := Nat.lt_of_lt_of_le hmb D.stp.size
  obtain ⟨o, hrun, hmap⟩ := D.map.del D.stp.fr hk hcm1 hq 0
  have hs : Stp c1 c1 k wr { wr with heap := wr.heap.setIfInBounds mb o } := (Stp.refl D.stp.fr).setBlock hcm1 hmr o
  have oth : ∀ x, x ≠ mb → ({ wr with heap := wr.heap.setIfInBounds mb o } : World).heap[x]? = wr.heap[x]? := fun x hx => Array.getElem?_setIfInBounds_ne (Ne.symm hx)
  exact ⟨_, fun ty => hrun, ⟨D.stp.trans hs, (oth p (Ne.symm hmp)).trans D.str, hmap, fun a ha => (oth _ (h7 a ha)).trans (D.row a ha), ownsRow_of D.own (fun g hg => oth g (by have := (own_lt D.own hg).2; omega)), D.rows.stp hs hk, D.col⟩, hs⟩

/-- A message is handed out. -/
theorem Dlv.push {c c1 : Nat → Nat} {k p : Nat} {w wr w1 : World} {M : EndM} {d : Nat} {h : Int → Option (List UInt8)} {wo : Option Addr} {wc mb : Nat} {ao : Option Addr} {cap n g cap2 : Nat} {us : List Value} {out : List (List UInt8)} {v : Value} {l : List UInt8} {o : Obj} {row : Option Nat}
    (D : Dlv c c1 k p w wr M d h wo wc mb ao cap n us out) (hk : k ≠ 0) (hp : p < w.heap.size) (hmb : mb < w.heap.size) (h7 : ∀ a, wo = some a → a.block < w.heap.size) (hv : RowC c1 wr v l) (hrow : row = (Value.slice ao n cap).ownBlock)
    (hown : w1.ownsRow w.heap.size 28 1 (.slice (some ⟨g, 0, none⟩) (n + 1) cap2) (n + 1) (us ++ [v])) (hgrow : (wr.alloc o).grownBy w1 row) (hat : row = some g ∨ g = (wr.alloc o).heap.size) (hlt : g < w1.heap.size) :
    ∃ c2, Dlv c c2 k p w w1 M d h wo wc mb (some ⟨g, 0, none⟩) cap2 (n + 1) (us ++ [v]) (out ++ [l]) := by
  have hb : Below wr.heap.size wr (wr.alloc o) := (Below.refl _ _).alloc (Nat.le_refl _) o
  have hv2 : RowC c1 (wr.alloc o) v l := hv.stp (k := k) (Stp.of_below D.stp.fr hb) hk
  obtain ⟨c2, s1, s2, s3, s4⟩ := rows_push D.stp.fr hk D.own D.rows D.col hb hv2 hrow hgrow hat hlt
  have hsz := D.stp.size
  have old : ∀ x, x < w.heap.size → w1.heap[x]? = wr.heap[x]? := fun x hx => by
    rw [hgrow.block x (by simp; omega) (fun e => by rw [hrow] at e; have := (own_lt D.own e.symm).2; omega)]
    exact hb.block x (by omega)
  exact ⟨c2, D.stp.trans s1, (old p hp).trans D.str, D.map.stp s1 hk (old mb hmb), fun a ha => (old _ (h7 a ha)).trans (D.row a ha), hown, s2, fun a ha => by cases ha; exact s3⟩

/-- Behind the delivering: the end, and the messages. -/
theorem dlv_close {c c1 : Nat → Nat} {k p : Nat} {w wr : World} {M : EndM} {d : Nat} {h : Int → Option (List UInt8)} {wo : Option Addr} {wc mb : Nat} {ao : Option Addr} {cap n : Nat} {us : List Value} {out : List (List UInt8)}
    (hf : Fr c w) (hk : k ≠ 0) (D : Dlv c c1 k p w wr M d h wo wc mb ao cap n us out) (hE : EndV c k w p M) (h1 : w.heap[p]? = some (.cells (endCells M wo wc mb) 101 (0, 0))) :
    Stp c c k w wr ∧ EndV c k wr p { M with delivered := d, held := h } ∧ ListC c wr (.slice ao n cap) out := by
  obtain ⟨wo', wc', mb', vs, h1', h2, h3, h4, h5, h6, h7⟩ := hE
  have e := h1'.symm.trans h1
  simp only [endCells, Option.some.injEq, Obj.cells.injEq, Array.mk.injEq, List.cons.injEq, Value.slice.injEq, Value.map.injEq, true_and, and_true] at e
  obtain ⟨⟨rfl, rfl⟩, rfl⟩ := e
  have hs : Stp c c k w wr := ⟨D.stp.os, D.stp.tape, D.stp.output, D.stp.size, fun _ _ => rfl, D.stp.keep, fun b hb => hf b (Nat.le_trans D.stp.size hb)⟩
  have hn : out.length = n := by have := D.own.1; rw [← D.rows.1]; omega
  refine ⟨hs, ⟨wo', wc', mb', vs, D.str, h2, h3, ?_, ?_, h6.stp hs hk, h7⟩, ao, cap, us, by rw [hn], by rw [hn]; exact ownsRow_sl D.own, ⟨D.rows.1, fun i v l a b => recol hf D.stp (D.rows.2 i v l a b)⟩, fun x hx hl => ?_⟩
  · obtain ⟨es, clock, e1, e2, e3, e4, e5⟩ := D.map
    refine ⟨es, clock, e1, e2, e3, e4, fun q l hq => ?_⟩
    obtain ⟨x, hx, hkx, hr⟩ := e5 q l hq
    exact ⟨x, hx, hkx, recol hf D.stp hr⟩
  · refine ownsRow_of h5 (fun g hg => ?_)
    cases wo' with
    | none => cases hg
    | some a => injection hg with hg; subst hg; exact D.row a rfl
  · subst hx
    exact hf _ (own_lt D.own rfl).2

set_option maxRecDepth 20000 in
set_option maxHeartbeats 1000000 in
theorem deliver_any (c : Nat → Nat) (k p : Nat) (M : EndM) (w : World) (hf : Fr c w) (hk : k ≠ 0) (hw : Wf M) (h : EndV c k w p M) :
    Calls Try.prog 72 #[.pointer (some ⟨p, 0, none⟩)] w (OutP c k w p (delivM M) (delivL M)) := by
  obtain ⟨wo, wc, mb, vs, h1, h2, h3, h4, h5, h6, h7⟩ := id h
  have hp := (Array.getElem?_eq_some_iff.1 h1).1
  have hmb : mb < w.heap.size := by
    obtain ⟨es, clock, hb, _⟩ := h4
    exact (Array.getElem?_eq_some_iff.1 hb).1
  have hmp : mb ≠ p := by
    intro e
    obtain ⟨es, clock, hm, _⟩ := h4
    rw [e, h1] at hm
    cases hm
  obtain ⟨R, hR⟩ : ∃ R, delivF 17 M.delivered M.held [] = R := ⟨_, rfl⟩
  have HD : Hid (Dlv c c k p w w M M.delivered M.held wo wc mb none 0 0 [] []) := Lib.hid ⟨Stp.refl hf, h1, h4, fun _ _ => rfl, World.ownsRow_nil _ _ _ _, RowsC.nil _ _, fun a ha => by cases ha⟩
  have HR := Lib.hid hR
  have HW := Lib.hid hw
  have hde := hw.del
  have HH : Hid (∀ q l, M.held q = some l → q ≤ M.delivered + 16) := Lib.hid fun q l hq => (hw.hold q l hq).2.1
  have H := Lib.hid h
  clear h h4 h5 h6 hw hR
  go_enter Try.func72, Try.ntmps72
  go_wp2
  go_loopw [3, 4, 5, 6] (fun v _ _ _ wr => ∃ (f d n : Nat) (c1 : Nat → Nat) (hh : Int → Option (List UInt8)) (ao : Option Addr) (cap : Nat) (us : List Value) (out : List (List UInt8)), v = .slice ao n cap ∧ d + f = M.delivered + 17 ∧ n ≤ d ∧ M.delivered ≤ d ∧ Hid (Dlv c c1 k p w wr M d hh wo wc mb ao cap n us out) ∧ Hid (delivF f d hh out = R) ∧ Hid (∀ q l, hh q = some l → q ≤ M.delivered + 16)) (fun _ _ _ _ wr => match wr.cell? ⟨p, 4, none⟩ with | some v => M.delivered + 17 - (intOf v).toNat | none => 0)
  case atStart => exact ⟨17, M.delivered, 0, c, M.held, none, 0, [], [], rfl, rfl, by omega, by omega, HD, HR, HH⟩
  case round =>
    obtain ⟨f, d, n, c1, hh, ao, cap, us, out, rfl, hdf, hnd, hMd, hD, hRf, hH⟩ := hrel
    obtain ⟨x0, x1, x2, x3, x4, x5, x6, x7, f2, f3, f4, f6, f7⟩ := end_cells hD.out.str
    cases hq : hh ((d : Int) + 1) with
    | none =>
      have hlk : ∀ n, (Instr.lookup 99 (.map (some mb)) (.int .i64 ((d : Int) + 1)) true).run Try.prog (wr.drewN n) = .ok (.tuple #[.slice none 0 0, .bool false]) (wr.drewN n) := fun n => (hD.out.map.look (w' := wr.drewN n) _ rfl).1 hq
      go_wp2_with fail
      go_quiet (fail)
      go_wp2
      go_ret
      obtain ⟨t1, t2, t3⟩ := dlv_close hf hk (hD.out.drewN nq) H.out h1
      have e : R = (d, hh, out) := by
        rw [← hRf.out]
        cases f with
        | zero => rfl
        | succ f => simp [delivF, hq]
      have e1 : delivM M = { M with delivered := d, held := hh } := by unfold delivM; rw [HR.out, e]
      have e2 : delivL M = out := by unfold delivL; rw [HR.out, e]
      rw [e1, e2]
      exact ⟨c, _, t1, t2, rfl, t3⟩
    | some l =>
      obtain ⟨v, hv, hlk0⟩ := (hD.out.map.look (w' := wr) _ rfl).2 l hq
      have hlk : ∀ n, (Instr.lookup 99 (.map (some mb)) (.int .i64 ((d : Int) + 1)) true).run Try.prog (wr.drewN n) = .ok (.tuple #[v, .bool true]) (wr.drewN n) := fun n => hlk0 (wr.drewN n) rfl
      go_wp2_with fail
      go_quiet (fail)
      have hv2 : RowC c1 (wr.drewN nq) v l := hv.stp (k := k) (Stp.of_below hD.out.stp.fr (below_drewN (Below.refl _ _) nq)) hk
      have hD2 := Lib.hid (hD.out.drewN nq)
      have hX := Lib.hid x4
      have hd16 : (d : Int) + 1 ≤ M.delivered + 16 := hH.out _ _ hq
      obtain ⟨f, rfl⟩ : ∃ f', f = f' + 1 := ⟨f - 1, by omega⟩
      have hRf2 : Hid (delivF f (d + 1) (delH hh ((d : Int) + 1)) (out ++ [l]) = R) := Lib.hid (by rw [← hRf.out]; simp [delivF, hq])
      have hH2 : Hid (∀ q l, delH hh ((d : Int) + 1) q = some l → q ≤ M.delivered + 16) := Lib.hid fun q l' hq' => by
        by_cases e : q = (d : Int) + 1
        · subst e; rw [delH_same] at hq'; cases hq'
        · rw [delH_other _ e] at hq'; exact hH.out q l' hq'
      clear hlk hlk0 hv x0 x1 x2 x3 x4 x5 x6 x7 f2 f3 f4 f6 f7 hRf hH hD
      generalize wr.drewN nq = W at hv2 hD2 ⊢
      obtain ⟨x0, x1, x2, x3, x4, x5, x6, x7, f2, f3, f4, f6, f7⟩ := end_cells hD2.out.str
      obtain ⟨hD3, hs3⟩ := hD2.out.count hk hp h2 hmp (fun a ha => (h7 a ha).2)
      have hv3 := hv2.stp hs3 hk
      go_upto_region 6 with fail
      generalize W.setCell ⟨p, 4, none⟩ (.int .i64 ((d : Int) + 1)) = W1 at hD3 hs3 hv3 ⊢
      clear x0 x1 x2 x3 x4 x5 x6 x7 f2 f3 f4 f6 f7 hD2 hv2 hs3
      have hD3' : Dlv c c1 k p w W1.drew M (d + 1) hh wo wc mb ao cap n us out := hD3.drewN 1
      have hv4 : RowC c1 W1.drew v l := hv3.stp (k := k) (Stp.of_below hD3.stp.fr ((Below.refl _ _).drew)) hk
      have h7m : ∀ a, wo = some a → a.block ≠ mb := fun a ha => by
        obtain ⟨_, _, _, _, g1, _, _, g4, g5, _, _⟩ := H.out
        have e := g1.symm.trans h1
        simp only [endCells, Option.some.injEq, Obj.cells.injEq, Array.mk.injEq, List.cons.injEq, Value.slice.injEq, Value.map.injEq, true_and, and_true] at e
        obtain ⟨⟨rfl, rfl⟩, rfl⟩ := e
        subst ha
        obtain ⟨es, clock, hm, _⟩ := g4
        rcases g5.2 with ⟨h, _⟩ | ⟨g, cap, cur, hv, hg, hh, r⟩
        · cases h
        · cases hv
          intro e
          simp only at e
          rw [e, hm] at hh
          cases hh
      have h7l : ∀ a, wo = some a → a.block < w.heap.size := fun a ha => by
        obtain ⟨_, _, _, _, g1, _, _, g4, g5, _, _⟩ := H.out
        have e := g1.symm.trans h1
        simp only [endCells, Option.some.injEq, Obj.cells.injEq, Array.mk.injEq, List.cons.injEq, Value.slice.injEq, Value.map.injEq, true_and, and_true] at e
        obtain ⟨⟨rfl, rfl⟩, rfl⟩ := e
        subst ha
        exact (own_lt g5 rfl).1
      obtain ⟨W2, hrun, hD4, hs4⟩ := hD3'.del hk hmb h3 hmp h7m hq
      have hv5 := hv4.stp hs4 hk
      have hS : ∀ (w' : World) (h' : Int → Option (List UInt8)), w'.heap[p]? = some (.cells (endCells { M with delivered := d + 1, held := h' } wo wc mb) 101 (0, 0)) → w'.cell? ⟨p, 5, none⟩ = some (.map (some mb)) ∧ w'.cell? ⟨p, 4, none⟩ = some (.int .i64 ((d : Int) + 1)) := fun w' h' hb => by
        obtain ⟨z0, z1, z2, z3, z4, z5, _⟩ := end_cells hb
        exact ⟨z5, by simpa using z4⟩
      have hSa := hS _ _ hD3'.str
      have hSb := hS _ _ hD4.str
      have HD4 := Lib.hid hD4
      have HV5 := Lib.hid hv5
      clear hD4 hv5 hD3 hD3' hv4 hv3
      go_region_held_law (fun w' => w'.cell? ⟨p, 5, none⟩ = some (.map (some mb)) ∧ w'.cell? ⟨p, 4, none⟩ = some (.int .i64 ((d : Int) + 1))) (first | exact hSa | exact hSb) (refine step_delete rfl (.tmp 32) (.tmp 36) rfl _ _ rfl rfl hrun ?_)
      obtain ⟨b, cb, rfl, hb1, hb2⟩ := id HV5.out
      obtain ⟨i, hi, hz0, hz1, hz2⟩ := info_parts Try.info28
      have hbase : w.heap.size ≤ W2.heap.size := HD4.out.stp.size
      clear hb1 hb2 hSa hSb hS hrun
      have s0 := True.intro
      go_wp2_with (first
        | (clear s0; at_builtin; refine wpList_append_lies _ rfl (.tmp 37) (.tmp 39) 63 rfl w.heap.size 28 i (.slice none 0 0) 1 24 Try.underlying63 hi hz0 hz1 hz2 rfl (by decide) _ n us rfl (HD4.out.own.alloc _) ⟨W2.heap.size, 0, none⟩ 1 1 [.slice b l.length cb] rfl rfl ((sl_new W2 _ _).cell _ rfl) (by intro u hu; simp at hu; subst hu; rfl) (by decide) (by unfold maxLen; omega) (by omega) (by simp; omega) _ rfl ?_; intro g cap2 w1 hown hgrow hat hlt; have s1 := True.intro))
      obtain ⟨c2, hD5⟩ := HD4.out.push hk hp hmb h7l HV5.out rfl hown hgrow hat hlt
      go_roundw
      case rel => exact ⟨f, d + 1, n + 1, c2, _, _, cap2, _, _, rfl, by omega, by omega, by omega, Lib.hid hD5, hRf2, hH2⟩
      case measure =>
        obtain ⟨z0, z1, z2, z3, z4, z5, _⟩ := end_cells hD5.str
        rw [hX.out, z4]
        simp only [intOf]
        omega

end Go.Proofs.Ytcpemgfpiapaaaa
