/- dioramaref01.Around and Few, slices.Clone of bytes. dioramaref40.Open opens as the plain opening does. Slicing, and loading an array behind a slice, inside a region that draws its order. link.Open opens as the plain opening does. -/
import Derived.Test.YtcpemgfpiapaaaaLkB
import Derived.Test.YtcpemgfpiapaaaaLkA
import Derived.Lib.SliceRun
import Derived.Lib.QuietBelow
namespace Go.Proofs.Ytcpemgfpiapaaaa
open Go.RowKit

/-- Around, plainly. -/
def around (n : Int) (most : Int) : Int := if most < 1 then 0 else (if n < 0 then -(n + 1) else n) % most

theorem around_nat {n most : Int} (h : 1 ≤ most) : 0 ≤ around n most ∧ around n most < most := by
  unfold around
  rw [if_neg (by omega)]
  exact ⟨Int.emod_nonneg _ (by omega), Int.emod_lt_of_pos _ (by omega)⟩

/-- dioramaref01.Around. -/
theorem around_any (n most : Int) (hn : InR n) (hm : 1 ≤ most ∧ most ≤ 9223372036854775807) (w : World) : Calls Try.prog 45 #[.int .i64 n, .int .i64 most] w (fun e w' => e = .returned (.int .i64 (around n most)) ∧ w' = w) := by
  obtain ⟨h0, h1⟩ := hn
  by_cases hneg : n < 0
  · have e : Hid (around n most = -((n + 1).tmod most)) := by
      show _ = _
      unfold around; rw [if_neg (by omega), if_pos hneg, ← Int.neg_tmod, Int.tmod_eq_emod_of_nonneg (by omega)]
    go_enter Try.func45, Try.ntmps45
    go_wp2
    go_ret
    exact ⟨by rw [e.out]; rfl, rfl⟩
  · have e : Hid (around n most = n % most) := by
      show _ = _
      unfold around; rw [if_neg (by omega), if_neg hneg]
    go_enter Try.func45, Try.ntmps45
    go_wp2
    go_ret
    exact ⟨by rw [e.out]; rfl, rfl⟩

/-- dioramaref01.Few. -/
theorem few2_any (ao : Option Addr) (n c : Nat) (l : List UInt8) (m : Nat) (w : World) (hr : SlV w ao n c 1 (bvs l)) (hm : m ≤ 1000000000000) : Calls Try.prog 44 #[.slice ao n c, .int .i64 (m : Int)] w (GivesB w (l.take m)) := by
  have hln : l.length = n := by have := hr.len; simpa using this
  have t1 : n ≤ maxLen := Nat.le_trans hr.le hr.top
  unfold maxLen at t1
  obtain ⟨K, hK⟩ : ∃ K, K = min n m := ⟨_, rfl⟩
  have hKI : min (n : Int) (m : Int) = (K : Int) := by omega
  have hKn : K ≤ n := by omega
  have hKm : K ≤ m := by omega
  have e : l.take m = l.take K := by
    by_cases h : m ≤ n
    · rw [show K = m by omega]
    · rw [List.take_of_length_le (by omega), List.take_of_length_le (by omega)]
  rw [e]
  have hKl : (l.take K).length = K := by rw [List.length_take]; omega
  have HKL := Lib.hid hKl
  clear e hKl hK
  have s0 := True.intro
  go_enter Try.func44, Try.ntmps44
  go_wp2_with (first
    | (clear s0; refine cut_to rfl 28 (.tmp 7) (.tmp 11) rfl 5 1 Try.underlying28 Try.size5 _ _ _ _ rfl hr K _ rfl (by omega) hKn ?_; intro ao5 hs5; replace hs5 : SlV w ao5 K c 1 (bvs (l.take K)) := (by simpa [bvs] using hs5); have s1 := True.intro)
    | (clear s1; at_builtin; refine ap_bytes rfl (.tmp 6) (.tmp 12) rfl w.heap.size _ _ [] (l.take K) _ rfl rfl (OwnB.nil _ _) _ _ _ HKL.out.symm rfl (by rw [HKL.out]; exact hs5) (by rw [HKL.out]; simp; omega) (Nat.le_refl _) ?_; intro ao3 cap3 w2 ho3 hb3; have s2 := True.intro))
  all_goals go_ret
  all_goals exact ⟨ao3, cap3, by rw [HKL.out]; rfl, ho3, hb3⟩

set_option maxRecDepth 20000 in
/-- slices.Clone of bytes. -/
theorem clone_any (ao : Option Addr) (n c : Nat) (l : List UInt8) (w : World) (hr : SlV w ao n c 1 (bvs l)) (hm : n ≤ 100000000000) : Calls Try.prog 69 #[.slice ao n c] w (GivesB w l) := by
  have hln : l.length = n := by have := hr.len; simpa using this
  cases ao with
  | none =>
    have hc : c = 0 := hr.nil rfl
    subst hc
    have hn : n = 0 := by have := hr.le; omega
    subst hn
    have hl : l = [] := List.eq_nil_of_length_eq_zero hln
    subst hl
    have hq : ∀ w : World, (binOp .eql 28 (.slice none 0 0) (.slice none 0 0)).run Try.prog w = .ok (.bool true) w := fun w => Lib.run_eql_slice_nil w 28 5 none 0 0 0 0 Try.underlying28
    go_enter Try.func69, Try.ntmps69
    go_wp2
    go_ret
    exact ⟨none, 0, rfl, OwnB.nil _ _, Below.refl _ _⟩
  | some a =>
    have hr2 := hr.below ((Below.refl w.heap.size w).alloc (Nat.le_refl _) (.cells #[] 5)) (Nat.le_refl _)
    have s0 := True.intro
    have hq : ∀ w : World, (binOp .eql 28 (.slice (some a) n c) (.slice none 0 0)).run Try.prog w = .ok (.bool false) w := fun w => Lib.run_eql_slice_nil w 28 5 (some a) n c 0 0 Try.underlying28
    go_enter Try.func69, Try.ntmps69
    go_wp2_with (first
      | (clear s0; at_builtin; refine ap_bytes rfl (.tmp 5) (.tmp 6) rfl w.heap.size _ _ [] l _ rfl rfl (own_zero w _ (Nat.le_refl _)) _ _ _ hln.symm rfl (by rw [hln]; exact hr2) (by rw [hln]; simp; omega) (by simp) ?_; intro ao3 cap3 w2 ho3 hb3; have s2 := True.intro))
    go_ret
    exact ⟨ao3, cap3, by rw [hln]; rfl, ho3, ((Below.refl _ _).alloc (Nat.le_refl _) _).trans hb3⟩

end Go.Proofs.Ytcpemgfpiapaaaa

namespace Go.Proofs.Ytcpemgfpiapaaaa
open Go.RowKit

/-- What Open gives. -/
def OpenP (W : World) (m : List UInt8) (er : Int) (e : Ending) (w' : World) : Prop :=
  ∃ a c, e = .returned (.tuple #[.slice a m.length c, .int .i64 er]) ∧ SlV w' a m.length c 1 (bvs m) ∧ Below W.heap.size W w'

theorem open_eq (key : Nat) (l : List UInt8) (n : Nat) (hn : l.length = n) (h8 : 8 ≤ n) : openB key l = if sealB key (l.take (n - 8)) = l then (l.take (n - 8), 0) else ([], 9) := by
  unfold openB
  rw [hn, if_neg (by omega)]
  have e : l = l.take (n - 8) ++ l.drop (n - 8) := (List.take_append_drop _ _).symm
  have : (le (fnv key (l.take (n - 8))) 8 = l.drop (n - 8)) ↔ (sealB key (l.take (n - 8)) = l) := by
    unfold sealB
    constructor
    · intro h; rw [h]; exact e.symm
    · intro h
      have h2 : l.take (n - 8) ++ le (fnv key (l.take (n - 8))) 8 = l.take (n - 8) ++ l.drop (n - 8) := by rw [← e]; exact h
      exact List.append_cancel_left h2
  by_cases h : sealB key (l.take (n - 8)) = l
  · rw [if_pos h, if_pos (this.2 h)]
  · rw [if_neg h, if_neg (fun h2 => h (this.1 h2))]

theorem ropen_any (key : Nat) (hk : key < 18446744073709551616) (ao : Option Addr) (n c : Nat) (l : List UInt8) (w : World) (hr : SlV w ao n c 1 (bvs l)) (hn : n ≤ 100000000000) (m : List UInt8) (er : Int) (ho : openB key l = (m, er)) :
    Calls Try.prog 63 #[.int .u64 (key : Int), .slice ao n c] w (OpenP w m er) := by
  have hln : l.length = n := by have := hr.len; simpa using this
  by_cases h8 : n < 8
  · have e : m = [] ∧ er = 2 := by unfold openB at ho; rw [if_pos (by omega)] at ho; simp only [Prod.mk.injEq] at ho; exact ⟨ho.1.symm, ho.2.symm⟩
    obtain ⟨rfl, rfl⟩ := e
    clear ho
    go_enter Try.func63, Try.ntmps63
    go_wp2
    go_ret2
    exact ⟨none, 0, rfl, sl_zero _ _ _, Below.refl _ _⟩
  · obtain ⟨N, hN⟩ : ∃ N, n = N + 8 := ⟨n - 8, by omega⟩
    subst hN
    rw [open_eq key l _ hln (by omega), Nat.add_sub_cancel] at ho
    obtain ⟨T, hT⟩ : ∃ T, l.take N = T := ⟨_, rfl⟩
    rw [hT] at ho
    have hTl : T.length = N := by rw [← hT, List.length_take]; omega
    have hcast : ((N + 8 : Nat) : Int) - 8 = (N : Int) := by omega
    obtain ⟨b, hb⟩ : ∃ b, b = decide (sealB key T = l) := ⟨_, rfl⟩
    have hb' := Lib.hid hb
    have hTT := Lib.hid hT
    have hS : (sealB key T).length = N + 8 := by rw [sealB_length, hTl]
    have hR : (m, er) = if b = true then (T, 0) else ([], 9) := by
      rw [← ho, hb]; by_cases h : sealB key T = l <;> simp [h]
    clear ho hb hT
    cases b with
    | true =>
      simp only [if_true, Prod.mk.injEq] at hR
      obtain ⟨rfl, rfl⟩ := hR
      have s0 := True.intro
      go_enter Try.func63, Try.ntmps63
      go_wp2_with (first
        | (clear s0; refine cut_to rfl 28 (.tmp 13) (.tmp 14) rfl 5 1 Try.underlying28 Try.size5 _ _ _ _ rfl hr N _ rfl (by omega) (by omega) ?_; intro ao5 hs5; replace hs5 : SlV w ao5 N c 1 (bvs m) := (by rw [← hTT.out]; simpa [bvs] using hs5); have s1 := True.intro)
        | (clear s1; go_at_call 48; refine (rseal_any key hk _ _ _ m _ hs5 (by omega)).mono ?_; rintro e w1 ⟨sa, sc, rfl, hown, hb1⟩; have hsl := hown.sl; rw [hS] at hsl ⊢; have s2 := True.intro)
        | (clear s2; go_at_call 19; refine (same_any _ _ _ _ _ _ _ _ _ hsl (hr.below hb1 (Nat.le_refl _)) true hb'.out).mono ?_; rintro e w2 ⟨rfl, d, rfl⟩; have hb2 := below_drewN hb1 d; have s3 := True.intro)
        | (clear s3; refine cut_to rfl 28 (.tmp 20) (.tmp 21) rfl 5 1 Try.underlying28 Try.size5 _ _ _ _ rfl (hr.below hb2 (Nat.le_refl _)) N _ rfl (by omega) (by omega) ?_; intro ao6 hs6; replace hs6 : SlV _ ao6 N c 1 (bvs m) := (by rw [← hTT.out]; simpa [bvs] using hs6); have s4 := True.intro))
      go_ret2
      exact ⟨ao6, c, by rw [hTl]; rfl, by rw [hTl]; exact hs6, hb2⟩
    | false =>
      rw [if_neg (by simp)] at hR
      simp only [Prod.mk.injEq] at hR
      obtain ⟨rfl, rfl⟩ := hR
      have s0 := True.intro
      go_enter Try.func63, Try.ntmps63
      go_wp2_with (first
        | (clear s0; refine cut_to rfl 28 (.tmp 13) (.tmp 14) rfl 5 1 Try.underlying28 Try.size5 _ _ _ _ rfl hr N _ rfl (by omega) (by omega) ?_; intro ao5 hs5; replace hs5 : SlV w ao5 N c 1 (bvs T) := (by rw [← hTT.out]; simpa [bvs] using hs5); have s1 := True.intro)
        | (clear s1; go_at_call 48; refine (rseal_any key hk _ _ _ T _ hs5 (by omega)).mono ?_; rintro e w1 ⟨sa, sc, rfl, hown, hb1⟩; have hsl := hown.sl; rw [hS] at hsl ⊢; have s2 := True.intro)
        | (clear s2; go_at_call 19; refine (same_any _ _ _ _ _ _ _ _ _ hsl (hr.below hb1 (Nat.le_refl _)) false hb'.out).mono ?_; rintro e w2 ⟨rfl, d, rfl⟩; have hb2 := below_drewN hb1 d; have s3 := True.intro))
      go_ret2
      exact ⟨none, 0, rfl, sl_zero _ _ _, hb2⟩

end Go.Proofs.Ytcpemgfpiapaaaa

namespace Go.Proofs.Ytcpemgfpiapaaaa
open Go.RowKit

variable {ops : Array Oper} {C : World → Prop} {Q : Act → Prop} {o : Oper} {rest : List Oper} {a : Act}

theorem wpQuiet_val (hg : o.guard = none) (v : Value) (hrun : ∀ w, C w → (execOp a.eval o).run Try.prog w = .ok (.value v) w) (h : wpQuiet Try.prog ops C Q rest (a.put o.dst v)) : wpQuiet Try.prog ops C Q (o :: rest) a := by
  have hw : Region.wanted o (yielded ops a.tmps) = true := by simp [Region.wanted, hg]
  simp only [wpQuiet, hw, if_true]
  refine ⟨v, fun w hw => ?_, h⟩
  unfold Oper.quietAt
  simp only [hrun w hw, Oper.quietUpon, and_self]

/-- What slicing gives, in whatever world. -/
theorem qcut (hg : o.guard = none) (x : Operand) (lo hi : Option Operand) (ho : o.op = .slice 28 x lo hi none)
    (ao : Option Addr) (n c : Nat) (hx : a.eval x = .slice ao n c) (L H : Nat)
    (hlo : (lo.map a.eval = none ∧ L = 0) ∨ lo.map a.eval = some (.int .i64 (L : Int))) (hhi : (hi.map a.eval = none ∧ H = n) ∨ hi.map a.eval = some (.int .i64 (H : Int))) (hLH : L ≤ H) (hH : H ≤ n) (hc : n ≤ c)
    (h : wpQuiet Try.prog ops C Q rest (a.put o.dst (.slice (if c = L then ao else ao.map (·.add (L * 1))) (H - L) (c - L)))) : wpQuiet Try.prog ops C Q (o :: rest) a := by
  refine wpQuiet_val hg _ (fun w _ => ?_) h
  have hb : (Instr.sliceBounds true n c (lo.map a.eval) (hi.map a.eval) ((none : Option Operand).map a.eval)).run Try.prog w = .ok (L, H, c) w := by
    have h1 : H ≤ c := by omega
    have h2 : L ≤ n := by omega
    rcases hlo with ⟨e1, rfl⟩ | e1 <;> rcases hhi with ⟨e2, rfl⟩ | e2 <;> rw [e1, e2]
    · simp [Instr.sliceBounds]
    · simp [Instr.sliceBounds, Instr.sliceBound, asIntOf, h1]
    · simp [Instr.sliceBounds, Instr.sliceBound, asIntOf, h2]
    · simp [Instr.sliceBounds, Instr.sliceBound, asIntOf, h1, hLH]
  have hrun := run_sliceAt (w := w) Try.underlying28 Try.size5 ao n c L H c _ _ _ hb
  unfold execOp
  simp only [ho, hx, Sem.run_bind, hrun, Result.andThen_ok, Sem.run_pure]

theorem qsp_arr (hg : o.guard = none) (ty : TypeId) (x : Operand) (ho : o.op = .sliceToArrayPointer ty x) (k e : Nat) (ht : Try.prog.underlying ty = some (.array k e)) (ad : Addr) (n c : Nat) (hx : a.eval x = .slice (some ad) n c) (hn : k ≤ n)
    (h : wpQuiet Try.prog ops C Q rest (a.put o.dst (.pointer (some ad)))) : wpQuiet Try.prog ops C Q (o :: rest) a :=
  wpQuiet_val hg _ (fun w _ => by unfold execOp; simp only [ho, hx, Instr.arrayAt, Sem.run_bind, run_underlying ht, Result.andThen_ok, Sem.run_pure, if_neg (Nat.not_lt.2 hn)]) h

/-- A call in such a region. -/
theorem qcall (hg : o.guard = none) (f : FuncId) (args : Array Value) (hrun : ∀ w : World, (execOp a.eval o).run Try.prog w = .ok (.enter f args) w) (v : Value) (hc : ∀ w, C w → Calls Try.prog f args w fun e w' => e = .returned v ∧ C w') (h : wpQuiet Try.prog ops C Q rest (a.put o.dst v)) : wpQuiet Try.prog ops C Q (o :: rest) a := by
  have hw : Region.wanted o (yielded ops a.tmps) = true := by simp [Region.wanted, hg]
  simp only [wpQuiet, hw, if_true]
  refine ⟨v, fun w hw => ?_, h⟩
  unfold Oper.quietAt
  rw [hrun w]
  exact ⟨rfl, hc w hw⟩

end Go.Proofs.Ytcpemgfpiapaaaa

namespace Go.Proofs.Ytcpemgfpiapaaaa
open Go.RowKit

set_option maxRecDepth 20000 in
theorem lopen_any (key : Nat) (hk : key < 18446744073709551616) (ao : Option Addr) (n c : Nat) (l : List UInt8) (w : World) (hr : SlV w ao n c 1 (bvs l)) (hn : n ≤ 100000000000) (m : List UInt8) (er : Int) (ho : openB key l = (m, er)) :
    Calls Try.prog 46 #[.int .u64 (key : Int), .slice ao n c] w (OpenP w m er) := by
  have hln : l.length = n := by have := hr.len; simpa using this
  by_cases h8 : n < 8
  · have e : m = [] ∧ er = 2 := by unfold openB at ho; rw [if_pos (by omega)] at ho; simp only [Prod.mk.injEq] at ho; exact ⟨ho.1.symm, ho.2.symm⟩
    obtain ⟨rfl, rfl⟩ := e
    clear ho
    go_enter Try.func46, Try.ntmps46
    go_wp2
    go_ret2
    exact ⟨none, 0, rfl, sl_zero _ _ _, Below.refl _ _⟩
  · obtain ⟨N, hN⟩ : ∃ N, n = N + 8 := ⟨n - 8, by omega⟩
    subst hN
    unfold openB at ho
    rw [hln, if_neg (by omega), Nat.add_sub_cancel] at ho
    obtain ⟨T, hT⟩ : ∃ T, l.take N = T := ⟨_, rfl⟩
    obtain ⟨D, hD⟩ : ∃ D, l.drop N = D := ⟨_, rfl⟩
    rw [hT, hD] at ho
    have hTl : T.length = N := by rw [← hT, List.length_take]; omega
    have hDl : D.length = 8 := by rw [← hD, List.length_drop]; omega
    obtain ⟨L, hL⟩ : ∃ L, le (fnv key T) 8 = L := ⟨_, rfl⟩
    rw [hL] at ho
    have hLl : L.length = 8 := by rw [← hL]; simp
    have hLL := Lib.hid hL
    have hTT := Lib.hid hT
    have hDD := Lib.hid hD
    have hcast : ((N + 8 : Nat) : Int) - 8 = (N : Int) := by omega
    have hle := hr.le
    clear hL hT hD
    obtain ⟨ao1, ha1, hs1⟩ := slv_part hr 0 N c (by omega) (by omega) (by omega) (Nat.le_refl _)
    obtain ⟨ao2, ha2, hs2⟩ := slv_part hr N (N + 8) c (by omega) (by omega) (by omega) (Nat.le_refl _)
    rw [show ((bvs l).drop (0 * 1)).take ((N - 0) * 1) = bvs T from by rw [← hTT.out]; simp [bvs]] at hs1
    rw [show ((bvs l).drop (N * 1)).take ((N + 8 - N) * 1) = bvs D from by rw [← hDD.out]; simp only [bvs, Nat.mul_one, Nat.add_sub_cancel_left, ← List.map_drop]; rw [List.take_of_length_le (by rw [List.length_map, List.length_drop]; omega)]] at hs2
    obtain ⟨a2, ra2⟩ := hs2.has (by omega)
    subst ra2
    rw [Nat.sub_zero, Nat.sub_zero] at hs1
    have hcall : ∀ p : Regrown, Calls Try.prog 67 #[.int .u64 (key : Int), .slice ao1 N c] (Sort.grow (redrawn w p.d) p.os) fun e w'' => e = .returned (.agg (bvs L).toArray) ∧ ∃ p : Regrown, w'' = Sort.grow (redrawn w p.d) p.os := fun p => by
      refine Calls.regrown_of ?_
      have := seal_any key hk _ _ _ T _ (hs1.below (below_regrown w p.d p.os) (Nat.le_refl _)) (by omega)
      rw [hLL.out] at this
      exact this
    go_enter Try.func46, Try.ntmps46
    go_upto_region 4 with fail
    refine wp_region_quiet_below (by kernel_rfl) (by kernel_rfl) ?_
    iterate 3 (quiet_step (fail))
    refine qcut rfl (.tmp 13) none (some (.tmp 14)) rfl _ _ _ rfl 0 N (.inl ⟨rfl, rfl⟩) (.inr rfl) (by omega) (by omega) hle ?_
    rw [ha1]
    simp only [Nat.sub_zero]
    quiet_step (exact hcall _)
    iterate 2 (quiet_step (fail))
    refine qcut rfl (.tmp 17) (some (.tmp 18)) none rfl _ _ _ rfl N (N + 8) (.inr rfl) (.inl ⟨rfl, rfl⟩) (by omega) (by omega) hle ?_
    rw [ha2]
    refine qsp_arr rfl 95 (.tmp 19) rfl 8 5 Try.underlying95 a2 _ _ rfl (by omega) ?_
    refine wpQuiet_load rfl 95 (.tmp 20) rfl _ (.agg (bvs D).toArray) rfl ?_ ?_
    · rintro w' ⟨p, rfl⟩
      exact run_loadAt_bytes _ a2 95 8 Try.underlying95 Try.size95 D hDl (fun j u hj => (hs2.below (below_regrown w p.d p.os) (Nat.le_refl _)).cell a2 rfl j u hj)
    obtain ⟨b, hb⟩ : ∃ b, b = !decide (L = D) := ⟨_, rfl⟩
    refine wpQuiet_neq rfl 95 95 (.tmp 16) (.tmp 21) rfl 8 Try.underlying95 (by kernel_rfl) L D hLl hDl rfl rfl b hb ?_
    refine wpQuiet_nil ?_
    rintro w' ⟨q, rfl⟩
    have hbe := below_regrown w q.d q.os
    generalize Sort.grow (redrawn w q.d) q.os = w3 at hbe ⊢
    have hr3 := hr.below hbe (Nat.le_refl _)
    cases b with
    | false =>
      have e : L = D := by simpa using hb
      rw [if_pos e] at ho
      simp only [Prod.mk.injEq] at ho
      obtain ⟨rfl, rfl⟩ := ho
      clear e hb
      have s0 := True.intro
      go_wp2_with (first
        | (clear s0; refine cut_to rfl 28 (.tmp 23) (.tmp 24) rfl 5 1 Try.underlying28 Try.size5 _ _ _ _ rfl hr3 N _ rfl (by omega) (by omega) ?_; intro ao5 hs5; replace hs5 : SlV w3 ao5 N c 1 (bvs T) := (by rw [← hTT.out]; simpa [bvs] using hs5); have s1 := True.intro)
        | (clear s1; go_at_call 69; refine (clone_any _ _ _ T _ hs5 (by omega)).mono ?_; rintro e w4 ⟨a4, c4, rfl, ho4, hb4⟩; have s2 := True.intro))
      go_ret2
      exact ⟨a4, c4, by rw [hTl]; rfl, ho4.sl, hbe.trans (hb4.mono hbe.size)⟩
    | true =>
      have e : ¬ L = D := by simpa using hb
      rw [if_neg e] at ho
      simp only [Prod.mk.injEq] at ho
      obtain ⟨rfl, rfl⟩ := ho
      clear e hb
      go_wp2
      go_ret2
      exact ⟨none, 0, rfl, sl_zero _ _ _, hbe⟩

end Go.Proofs.Ytcpemgfpiapaaaa
