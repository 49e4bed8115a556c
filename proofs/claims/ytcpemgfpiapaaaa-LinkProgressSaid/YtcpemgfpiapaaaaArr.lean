/- Arrays of bytes: read out of a row, and compared. -/
import Derived.Test.YtcpemgfpiapaaaaMem
import Derived.Deep.WholeRow
namespace Go.Proofs.Ytcpemgfpiapaaaa
open Go.RowKit

theorem run_part5 (w : World) (l : List UInt8) (i : Nat) (h : i < l.length) : (part 5 (bvs l).toArray i).run Try.prog w = .ok (bv l[i]) w := by
  have hu : (underlying 5).run Try.prog w = .ok (.int .u8) w := run_underlying Try.underlying5 w
  have hi : (bvs l).toArray[i]? = some (bv l[i]) := by simp [bvs, h]
  simp [part, isAgg, hu, hi]

/-- The loop of an array's comparison. -/
theorem run_eqLoop (w : World) (d : Nat) (l m : List UInt8) : ∀ (n i : Nat), i + n = l.length → i + n = m.length →
    (forIn (m := Sem) (List.range' i n) ((none, ()) : Option Bool × Unit) fun i __s => do
            let __do_lift ← part 5 (bvs l).toArray (i * 1)
            let __do_lift_1 ← part 5 (bvs m).toArray (i * 1)
            let __do_lift ← Op.equalIn (d + 1) 5 __do_lift __do_lift_1
            if (!__do_lift) = true then pure (ForInStep.done (some false, ())) else pure (ForInStep.yield (none, ()))).run Try.prog w = .ok (if l.drop i = m.drop i then none else some false, ()) w := by
  intro n
  induction n with
  | zero =>
    intro i h1 h2
    simp [List.drop_of_length_le (show l.length ≤ i by omega), List.drop_of_length_le (show m.length ≤ i by omega)]
  | succ n ih =>
    intro i h1 h2
    have q1 : i < l.length := by omega
    have q2 : i < m.length := by omega
    have he := run_equalIn_int (P := Try.prog) w d 5 .u8 .u8 (l[i].toNat : Int) (m[i].toNat : Int) Try.underlying5
    simp only [List.range'_succ, List.forIn_cons, Nat.mul_one, Sem.run_bind, run_part5 w l i q1, run_part5 w m i q2, Result.andThen_ok, bv, he]
    rw [List.drop_eq_getElem_cons q1, List.drop_eq_getElem_cons q2]
    by_cases hx : l[i] = m[i]
    · have hb : ((l[i].toNat : Int) == (m[i].toNat : Int)) = true := by simp [hx]
      rw [hb]
      have := ih (i + 1) (by omega) (by omega)
      simp only [Nat.mul_one] at this
      simp only [Bool.not_true, Bool.false_eq_true, if_false, Sem.run_pure, Result.andThen_ok, this, List.cons.injEq, hx, true_and]
    · have hb : ((l[i].toNat : Int) == (m[i].toNat : Int)) = false := by simp; intro e; exact hx (UInt8.toNat_inj.1 (by omega))
      rw [hb, if_neg (fun e => hx (List.cons.inj e).1)]
      simp only [Bool.not_false, if_true, Sem.run_pure, Result.andThen_ok]

theorem run_equalIn_bytes (w : World) (t k d : Nat) (ht : Try.prog.underlying t = some (.array k 5)) (l m : List UInt8) (hl : l.length = k) (hm : m.length = k) :
    (Op.equalIn (d + 2) t (.agg (bvs l).toArray) (.agg (bvs m).toArray)).run Try.prog w = .ok (decide (l = m)) w := by
  obtain ⟨i5, hi, hz0, hz1, hz2⟩ := info_parts Try.info5
  rw [Op.equalIn]
  simp only [Sem.run_bind, run_underlying ht, Result.andThen_ok, sizeOf, typeInfo, run_program, hi, Sem.run_pure, hz1]
  have h := run_eqLoop w d l m k 0 (by omega) (by omega)
  rw [Std.Legacy.Range.forIn_eq_forIn_range']
  simp only [Std.Legacy.Range.size] at *
  simp only [Nat.sub_zero, Nat.add_sub_cancel, Nat.div_one] at *
  rw [h]
  by_cases e : l = m <;> simp [e]

theorem run_neq_bytes (w : World) (t k : Nat) (ht : Try.prog.underlying t = some (.array k 5)) (l m : List UInt8) (hl : l.length = k) (hm : m.length = k) :
    (binOp .neq t (.agg (bvs l).toArray) (.agg (bvs m).toArray)).run Try.prog w = .ok (.bool (!decide (l = m))) w := by
  rw [run_neq_struct, run_equalIn_bytes w t k 9998 ht l m hl hm]
  rfl

/-- A whole array, read out of a row of bytes. -/
theorem run_loadAt_bytes (w : World) (a : Addr) (t k : Nat) (ht : Try.prog.underlying t = some (.array k 5)) (hi : (Try.prog.info? t).map (·.size) = some k) (l : List UInt8) (hl : l.length = k) (hc : ∀ j u, (bvs l)[j]? = some u → w.cell? (a.add j) = some u) :
    (Instr.loadAt t (.pointer (some a))).run Try.prog w = .ok (.agg (bvs l).toArray) w := by
  have hl' := run_loadCells_list (P := Try.prog) w a (bvs l) hc
  rw [bvs_length, hl] at hl'
  cases hq : Try.prog.info? t with
  | none => simp [hq] at hi
  | some i =>
    have hs : i.size = k := by simpa [hq] using hi
    have hagg : (isAgg t).run Try.prog w = .ok true w := by
      unfold isAgg
      rw [Sem.run_bind, run_underlying ht w]
      rfl
    simp [Instr.loadAt, Instr.sureAddr, loadVar, Sem.run_bind, hagg, sizeOf, typeInfo, hq, hs, hl']

/-- A load inside a region that draws its order. -/
theorem wpQuiet_load {P : Program} {ops : Array Oper} {C : World → Prop} {Q : Act → Prop} {o : Oper} {rest : List Oper} {a : Act} (hg : o.guard = none) (ty : TypeId) (x : Operand) (ho : o.op = .load ty x) (p v : Value) (hx : a.eval x = p)
    (hrun : ∀ w, C w → (Instr.loadAt ty p).run P w = .ok v w) (h : wpQuiet P ops C Q rest (a.put o.dst v)) : wpQuiet P ops C Q (o :: rest) a := by
  have hw : Region.wanted o (yielded ops a.tmps) = true := by simp [Region.wanted, hg]
  simp only [wpQuiet, hw, if_true]
  refine ⟨v, fun w hw => ?_, h⟩
  unfold Oper.quietAt execOp
  simp only [ho, hx, Sem.run_bind, hrun w hw, Result.andThen_ok, Sem.run_pure, Oper.quietUpon, and_self]

/-- A comparison of two arrays inside a region that draws its order. -/
theorem wpQuiet_neq {ops : Array Oper} {C : World → Prop} {Q : Act → Prop} {o : Oper} {rest : List Oper} {a : Act} (hg : o.guard = none) (ty ty' : TypeId) (x y : Operand) (ho : o.op = .binOp .neq ty x y ty') (k : Nat) (ht : Try.prog.underlying ty = some (.array k 5)) (hm : Try.prog.eqGuardType Try.prog.depth ty = false) (l m : List UInt8) (hl : l.length = k) (hm' : m.length = k) (hx : a.eval x = .agg (bvs l).toArray) (hy : a.eval y = .agg (bvs m).toArray)
    (b : Bool) (hb : b = !decide (l = m)) (h : wpQuiet Try.prog ops C Q rest (a.put o.dst (.bool b))) : wpQuiet Try.prog ops C Q (o :: rest) a := by
  have hw : Region.wanted o (yielded ops a.tmps) = true := by simp [Region.wanted, hg]
  simp only [wpQuiet, hw, if_true]
  refine ⟨.bool b, fun w hw => ?_, h⟩
  unfold Oper.quietAt execOp
  simp only [ho, hx, hy, Sem.run_bind, run_eqGuard_agg w .neq ty x y _ _ hm, run_neq_bytes w ty k ht l m hl hm', Result.andThen_ok, Sem.run_pure, Oper.quietUpon, hb, and_self]

theorem add_add (a : Addr) (m n : Nat) : (a.add m).add n = a.add (m + n) := by
  unfold Addr.add
  by_cases h1 : m = 0 <;> by_cases h2 : n = 0 <;> simp [h1, h2, Nat.add_assoc]

section
variable {w : World} {ops : Array Oper} {rest : List Oper} {o : Oper} {a : Act} {Q : Exit → Act → World → Prop}

/-- A whole array of bytes, loaded. -/
theorem ld_arr (hgd : o.guard = none) (ty : TypeId) (x : Operand) (ho : o.op = .load ty x) (ad : Addr) (hx : a.eval x = .pointer (some ad)) (k : Nat) (ht : Try.prog.underlying ty = some (.array k 5)) (hi : (Try.prog.info? ty).map (·.size) = some k) (l : List UInt8) (hl : l.length = k)
    (hc : ∀ j u, (bvs l)[j]? = some u → w.cell? (ad.add j) = some u) (h : wpList Try.prog ops Q rest (a.put o.dst (.agg (bvs l).toArray)) w) : wpList Try.prog ops Q (o :: rest) a w :=
  wpList_val hgd _ (by unfold execOp; simp only [ho, hx, Sem.run_bind, run_loadAt_bytes w ad ty k ht hi l hl hc, Result.andThen_ok, Sem.run_pure]) h

/-- A variable of an array's type, made. -/
theorem al_arr (hgd : o.guard = none) (ty : TypeId) (ho : o.op = .alloc ty) (z : Array Value) (n b : Nat) (hz : (Try.prog.info? ty).map (fun i => (i.zero, i.size, i.bytes)) = some (some (.agg z), n, b))
    (h : wpList Try.prog ops Q rest (a.put o.dst (.pointer (some ⟨w.heap.size, 0, none⟩))) (w.alloc (.cells z ty))) : wpList Try.prog ops Q (o :: rest) a w := by
  obtain ⟨i, hi, hz0, hz1, hz2⟩ := info_parts hz
  refine wpList_val hgd _ (by unfold execOp; simp only [ho, Instr.alloc, zeroValue, typeInfo, Sem.run_bind, run_program, hi, hz0, Result.andThen_ok, Sem.run_pure, newVar, newRow, Value.cells]; rfl) h

/-- A whole array of bytes, stored into the variable that was made last. -/
theorem st_arr {W : World} (hgd : o.guard = none) (hd : o.dst = none) (ty : TypeId) (p x : Operand) (ho : o.op = .store ty p x) (w : World) (c : Array Value) (hW : W = w.alloc (.cells c ty)) (hp : a.eval p = .pointer (some ⟨w.heap.size, 0, none⟩)) (l : List UInt8) (hx : a.eval x = .agg (bvs l).toArray)
    (hi : (Try.prog.info? ty).map (·.size) = some l.length) (hc : c.size = l.length)
    (h : wpList Try.prog ops Q rest a (w.alloc (.cells (bvs l).toArray ty))) : wpList Try.prog ops Q (o :: rest) a W :=
  wpList_plain hgd fun K hK => by
    subst hW
    have hrun := run_storeAt_new (P := Try.prog) w ty c (bvs l).toArray (by simpa using hi) (by simpa using hc) (by
      rw [Array.all_eq_true_iff_forall_mem]
      intro u hu
      exact bvs_one l u (by simpa using hu))
    unfold Oper.wp execOp
    simp only [ho, hp, hx, Sem.run_bind, hrun, Result.andThen_ok, Sem.run_pure, Oper.upon]
    rw [hd]
    exact hK _ _ h
end

theorem sl_row (w : World) (l : List UInt8) (t : TypeId) (hl : l.length ≤ 1000000) : SlV (w.alloc (.cells (bvs l).toArray t)) (some ⟨w.heap.size, 0, none⟩) l.length l.length 1 (bvs l) :=
  ⟨by simp, Nat.le_refl _, by unfold maxLen; omega, fun h => by (cases h), fun a ha j x hj => by
    cases ha
    rw [Addr.add_lit, Nat.zero_add, cell_of_row _ _ _ _ _ _ (heap_alloc_last w _)]
    simpa using hj⟩

end Go.Proofs.Ytcpemgfpiapaaaa
