/- The decoders of lists of digests, of the program and of the reference, decode as the plain one does. -/
import Derived.Test.YtcpemgfpiapaaaaDecL
import Derived.Test.YtcpemgfpiapaaaaSameD
namespace Go.Proofs.Ytcpemgfpiapaaaa
open Go.RowKit

theorem Try.zero90x : (Try.prog.info? 90).map (fun i => (i.zero, i.size, i.bytes)) = some (some (.agg (Array.replicate 16 (.int .u8 0))), 16, 16) := by kernel_rfl

theorem fill_list : ∀ (l : List Value) (k : Nat) (cells : Array Value), cells.size = k + l.length → ((l.zipIdx k).foldl (fun cs (x : Value × Nat) => cs.setIfInBounds (0 + x.2) x.1) cells).toList = cells.toList.take k ++ l
  | [], k, cells, h => by simp at h; simp [List.take_of_length_le, h]
  | x :: l, k, cells, h => by
    rw [List.zipIdx_cons, List.foldl_cons, fill_list l (k + 1) _ (by simp at h ⊢; omega)]
    simp only [Nat.zero_add, Array.toList_setIfInBounds]
    have hk : k < cells.toList.length := by simp at h ⊢; omega
    rw [List.take_succ_eq_append_getElem (by rw [List.length_set]; exact hk), List.take_set_of_le (Nat.le_refl k), List.getElem_set_self]
    simp

theorem fill_one (xs : Array Value) (cells : Array Value) (h : cells.size = xs.size) : Instr.fill (fun i => some (i * xs.size, xs.size)) cells [(0, .agg xs)] = some xs := by
  have h1 := fill_list xs.toList 0 cells (by simpa using h)
  have h2 : xs.zipIdx.foldl (fun cs (x : Value × Nat) => cs.setIfInBounds (0 + x.2) x.1) cells = xs := by
    apply Array.toList_inj.1
    rw [← Array.foldl_toList, Array.toList_zipIdx, h1]
    simp
  simp only [Instr.fill, Value.cells, Nat.zero_mul]
  rw [if_neg (by simp [h])]
  exact congrArg some h2

theorem run_buildSlice_dig (w : World) (d : List UInt8) (hd : d.length = 16) : (Instr.buildSlice 24 1 #[(0, .agg (bvs d).toArray)]).run Try.prog w = .ok (.slice (some ⟨w.heap.size, 0, none⟩) 1 1) (w.alloc (.cells (bvs d).toArray 90)) := by
  obtain ⟨i, hi, hz0, hz1, hz2⟩ := info_parts Try.zero90x
  have hf : ∀ cells : Array Value, cells.size = 16 → Instr.fill (fun i => some (i * 16, 16)) cells [(0, .agg (bvs d).toArray)] = some (bvs d).toArray := by
    intro cells hc
    have := fill_one (bvs d).toArray cells (by simp [hc, hd])
    simpa [hd] using this
  simp [Instr.buildSlice, run_underlying Try.underlying24, sizeOf, typeInfo, hi, hz1, zeroValue, hz0, newRow, hf]

/-- A slice as an array's address. -/
theorem sp_arr {w : World} {ops : Array Oper} {rest : List Oper} {o : Oper} {a : Act} {Q : Exit → Act → World → Prop} (hgd : o.guard = none) (ty : TypeId) (x : Operand) (ho : o.op = .sliceToArrayPointer ty x) (k e : Nat) (ht : Try.prog.underlying ty = some (.array k e)) (ad : Addr) (n c : Nat) (hx : a.eval x = .slice (some ad) n c) (hn : k ≤ n)
    (h : wpList Try.prog ops Q rest (a.put o.dst (.pointer (some ad))) w) : wpList Try.prog ops Q (o :: rest) a w :=
  wpList_val hgd _ (by unfold execOp; simp only [ho, hx, Instr.arrayAt, Sem.run_bind, run_underlying ht, Result.andThen_ok, Sem.run_pure, if_neg (Nat.not_lt.2 hn)]) h

/-- A slice of one digest, made. -/
theorem bs_dig {w : World} {ops : Array Oper} {rest : List Oper} {o : Oper} {a : Act} {Q : Exit → Act → World → Prop} (hgd : o.guard = none) (x : Operand) (ho : o.op = .buildSlice 24 1 #[(0, x)]) (d : List UInt8) (hx : a.eval x = .agg (bvs d).toArray) (hd : d.length = 16)
    (h : wpList Try.prog ops Q rest (a.put o.dst (.slice (some ⟨w.heap.size, 0, none⟩) 1 1)) (w.alloc (.cells (bvs d).toArray 90))) : wpList Try.prog ops Q (o :: rest) a w :=
  wpList_val hgd _ (by unfold execOp; simp only [ho, List.map_toArray, List.map_cons, List.map_nil, hx, Sem.run_bind, run_buildSlice_dig w d hd, Result.andThen_ok, Sem.run_pure]) h

/-- One new digest, read as a slice of one. -/
theorem sl_dig (w : World) (d : List UInt8) (hd : d.length = 16) : SlV (w.alloc (.cells (bvs d).toArray 90)) (some ⟨w.heap.size, 0, none⟩) 1 1 16 (bvs d) :=
  ⟨by simp [hd], Nat.le_refl _, by unfold maxLen; omega, fun h => by (cases h), fun a ha j x hj => by
    cases ha
    rw [Addr.add_lit, Nat.zero_add, cell_of_row _ _ _ _ _ _ (heap_alloc_last w _)]
    simpa using hj⟩

/-- What a decoder of digests gives. -/
def GotD (W : World) (xs : List (List UInt8)) (k : Nat) (x : Int) (e : Ending) (w' : World) : Prop :=
  ∃ ao cap, e = .returned (.tuple #[.slice ao xs.length cap, .int .i64 (k : Int), .int .i64 x]) ∧ w'.ownsRow W.heap.size 90 16 (.slice ao xs.length cap) xs.length (dvs xs) ∧ Below W.heap.size W w'

theorem dvs_snoc (xs : List (List UInt8)) (d : List UInt8) : dvs (xs ++ [d]) = dvs xs ++ bvs d := by simp [dvs]

/-- One round of the decoder of digests. -/
theorem decD_round {l : List UInt8} {R : List (List UInt8) × Nat × Int} {ys : List (List UInt8)} {m r n : Nat} (hJ : Hid (joinN ys m (decN decDig (r + 1) (l.drop m)) = R)) (hn : Hid (l.length = n)) (hm : m + (r + 1) * 16 ≤ n) :
    ∃ d : List UInt8, Hid (d = (l.drop m).take 16) ∧ Hid (d.length = 16) ∧ Hid (joinN (ys ++ [d]) (m + 16) (decN decDig r (l.drop (m + 16))) = R) := by
  refine ⟨_, Lib.hid rfl, Lib.hid ?_, ?_⟩
  · have := hn.out; simp; omega
  · have := join_step decDig ys m r (l.drop m) ((l.drop m).take 16) 16 rfl
    rw [List.drop_drop] at this
    show _ = _
    rw [← this]
    exact hJ.out

theorem slv_dig {w : World} {ao : Option Addr} {c m : Nat} {l d : List UInt8} (h : SlV w ao 16 c 1 (((bvs l).drop (m * 1)).take (16 * 1))) (hd : Hid (d = (l.drop m).take 16)) : SlV w ao 16 c 1 (bvs d) := by
  rw [hd.out]
  simpa [bvs] using h

set_option maxRecDepth 20000 in
set_option maxHeartbeats 400000 in
/-- wire.GetDigests. -/
theorem getdigs_any (ao : Option Addr) (n c : Nat) (l : List UInt8) (w : World) (hr : SlV w ao n c 1 (bvs l)) (hbd : n ≤ 1000000000000) (xs : List (List UInt8)) (k : Nat) (e : Int) (hd : decList 16 decDig l = (xs, k, e)) :
    Calls Try.prog 40 #[.slice ao n c] w (GotD w xs k e) := by
  have hl : Hid (l.length = n) := Lib.hid (by have := hr.len; simpa using this)
  obtain ⟨N, j, f, hq⟩ : ∃ N j f, decCount 16 l = (N, j, f) := ⟨_, _, _, rfl⟩
  by_cases he : f = 0
  · subst he
    obtain ⟨_, h2, h3⟩ := count_good hq
    rw [hl.out] at h2 h3
    have HJ := decList_start hd hq
    have H1 := Lib.hid hq
    clear hq hd
    go_enter Try.func40, Try.ntmps40
    go_wp2_with (go_at_call 64; refine (count16_ok _ _ _ _ _ hr hbd _ _ H1.out).mono ?_; rintro e w1 ⟨rfl, hb⟩)
    go_loopw [6, 8, 19] (fun ai v ct wr => ∃ (i m : Nat) (ys : List (List UInt8)) (ao2 : Option Addr) (cap2 : Nat), m + (N - i) * 16 ≤ n ∧ ys.length = i ∧ i ≤ N ∧ ct = .int .i64 i ∧ ai = .int .i64 m ∧ v = .slice ao2 i cap2 ∧ Hid (joinN ys m (decN decDig (N - i) (l.drop m)) = (xs, k, e)) ∧ wr.ownsRow w.heap.size 90 16 (.slice ao2 i cap2) i (dvs ys) ∧ Below w.heap.size w wr) (fun _ _ ct _ => N - (intOf ct).toNat)
    case atStart => exact ⟨0, j, [], none, 0, by omega, rfl, by omega, rfl, rfl, rfl, HJ, World.ownsRow_nil _ _ _ _, hb⟩
    case round =>
      clear hb HJ
      obtain ⟨i, m, ys, ao2, cap2, hm, hys, hi, rfl, rfl, rfl, HJ, hown, hb⟩ := hrel
      have HY := Lib.hid hys
      clear hys
      have hbs := hb.size
      by_cases hlt : i < N
      · obtain ⟨r, hr1⟩ : ∃ r, N - i = r + 1 := ⟨N - i - 1, by omega⟩
        rw [hr1] at HJ hm
        obtain ⟨d, hdx, hdl, HJ⟩ := decD_round HJ hl hm
        have hN1 : Hid (N - (i + 1) = r) := Lib.hid (by omega)
        have hmn : m + 16 ≤ n := by omega
        have hiN : i + 1 + r = N := by omega
        have HM := Lib.hid hm
        have HIN := Lib.hid hiN
        clear hr1 hm hiN
        have hrw := hr.below hb (Nat.le_refl _)
        go_wp2_with (first | (refine cut_mid rfl 28 (.tmp 22) (.tmp 23) (.tmp 25) rfl 5 1 Try.underlying28 Try.size5 _ _ _ _ rfl hrw m (m + 16) _ _ rfl rfl rfl (by omega) (by omega) hmn 16 (by omega) ?_; intro ao' hsl; obtain ⟨a1, rfl⟩ := hsl.has (by decide); have hsl' := slv_dig hsl hdx) | (refine sp_arr rfl 90 (.tmp 26) rfl 16 5 Try.underlying90 _ _ _ rfl (Nat.le_refl _) ?_) | (refine ld_arr rfl 90 (.tmp 27) rfl _ rfl 16 Try.underlying90 Try.size90 d hdl.out (hsl'.cell a1 rfl) ?_) | (refine bs_dig rfl (.tmp 28) rfl d rfl hdl.out ?_) | (at_builtin; refine ap_any rfl (.tmp 21) (.tmp 29) 24 rfl w.heap.size 90 _ 16 16 Try.underlying24 Try.zero90x rfl (by decide) _ i (dvs ys) rfl (hown.alloc _) _ 1 1 (bvs d) rfl (sl_dig wr d hdl.out) (bvs_one d) (by omega) (by unfold maxLen; omega) (by simp; omega) ?_; intro ao' cap' w3 hown3 hb3))
        go_roundw
        case rel => exact ⟨i + 1, m + 16, ys ++ [d], ao', cap', by have := HM.out; have := HIN.out; omega, by simp [HY.out], by omega, by go_num, by go_num, rfl, by rw [hN1.out]; exact HJ, by rw [dvs_snoc]; exact hown3, hb.trans (((Below.refl _ _).alloc hbs _).trans hb3)⟩
        case measure => simp [intOf]; omega
      · obtain rfl : i = N := by omega
        have HE := HJ.out
        rw [Nat.sub_self, join_end] at HE
        simp only [Prod.mk.injEq] at HE
        obtain ⟨rfl, rfl, rfl⟩ := HE
        clear HJ
        go_wp2
        go_ret3
        rw [← HY.out] at hown ⊢
        exact ⟨ao2, cap2, rfl, hown, hb⟩
  · have hR := decList_bad hd hq he
    simp only [Prod.mk.injEq] at hR
    obtain ⟨rfl, rfl, rfl⟩ := hR
    obtain ⟨_, _, h23, _⟩ := count_bad hq he
    have hne := err_ne h23
    have H1 := Lib.hid hq
    have HE := Lib.hid he
    clear hq hd h23 he
    go_enter Try.func40, Try.ntmps40
    go_wp2_with (go_at_call 64; refine (count16_err _ _ _ _ _ hr hbd _ _ _ H1.out HE.out).mono ?_; rintro e w1 ⟨n1, k1, rfl, hb⟩)
    go_ret3
    exact ⟨none, 0, rfl, World.ownsRow_nil _ _ _ _, hb⟩

theorem toArray_of {A : Array Value} {l : List Value} (h : A.toList = l) : A = l.toArray := by rw [← h]

/-- What one round of the inner loop knows. -/
theorem digs_byte {w : World} {a : Addr} {n c m r : Nat} {l d : List UInt8} {A : Array Value} (hr : SlV w (some a) n c 1 (bvs l)) (hdx : Hid (d = (l.drop m).take 16)) (hdl : Hid (d.length = 16)) (hlt : r < 16) (hA : A.size = 16) (hT : Hid (A.toList.take r = bvs (d.take r))) :
    ∃ (ch : UInt8) (u : Value), (w.alloc (.cells A 90)).cell? (a.add (m + r)) = some (.int .u8 (ch.toNat : Int)) ∧ (w.alloc (.cells A 90)).cell? ⟨w.heap.size, r, none⟩ = some u ∧ Hid ((A.setIfInBounds r (bv ch)).toList.take (r + 1) = bvs (d.take (r + 1))) ∧ (A.setIfInBounds r (bv ch)).size = 16 := by
  have q : r < d.length := by rw [hdl.out]; exact hlt
  have hc : w.cell? (a.add (m + r)) = some (bv d[r]) := by
    refine hr.cell a rfl (m + r) _ ?_
    have h2 : d[r]? = some d[r] := List.getElem?_eq_getElem q
    have h3 : d[r]? = l[m + r]? := by
      rw [hdx.out, List.getElem?_take_of_lt hlt, List.getElem?_drop]
    rw [h2] at h3
    simp [bvs, ← h3]
  have hrA : r < A.size := by omega
  refine ⟨d[r], A[r], ?_, ?_, ?_, by simp [hA]⟩
  · exact cell_later ((Below.refl _ _).alloc (Nat.le_refl _) _) hc
  · rw [cell_of_row _ _ _ _ _ _ (heap_alloc_last w _)]; exact Array.getElem?_eq_getElem hrA
  · have e2 : bvs (d.take (r + 1)) = bvs (d.take r) ++ [bv d[r]] := by rw [List.take_succ_eq_append_getElem q, bvs_append]; rfl
    show _ = _
    rw [e2, Array.toList_setIfInBounds, List.take_succ_eq_append_getElem (by rw [List.length_set]; simpa using hrA), List.take_set_of_le (Nat.le_refl _), hT.out, List.getElem_set_self]

set_option maxRecDepth 20000 in
set_option maxHeartbeats 800000 in
/-- dioramaref01.GetDigests. -/
theorem rgetdigs_any (ao : Option Addr) (n c : Nat) (l : List UInt8) (w : World) (hr : SlV w ao n c 1 (bvs l)) (hbd : n ≤ 1000000000000) (xs : List (List UInt8)) (k : Nat) (e : Int) (hd : decList 16 decDig l = (xs, k, e)) :
    Calls Try.prog 41 #[.slice ao n c] w (GotD w xs k e) := by
  have hl : Hid (l.length = n) := Lib.hid (by have := hr.len; simpa using this)
  obtain ⟨N, j, f, hq⟩ : ∃ N j f, decCount 16 l = (N, j, f) := ⟨_, _, _, rfl⟩
  by_cases he : f = 0
  · subst he
    obtain ⟨_, h2, h3⟩ := count_good hq
    rw [hl.out] at h2 h3
    have HJ := decList_start hd hq
    have H1 := Lib.hid hq
    clear hq hd
    go_enter Try.func41, Try.ntmps41
    go_wp2_with (go_at_call 65; refine (rcount16_ok _ _ _ _ _ hr hbd _ _ H1.out).mono ?_; rintro e w1 ⟨rfl, hb⟩)
    go_loopw [6, 8, 9, 10, 11] (fun ai v ct _ _ wr => ∃ (i m : Nat) (ys : List (List UInt8)) (ao2 : Option Addr) (cap2 : Nat), m + (N - i) * 16 ≤ n ∧ ys.length = i ∧ i ≤ N ∧ ct = .int .i64 i ∧ ai = .int .i64 m ∧ v = .slice ao2 i cap2 ∧ Hid (joinN ys m (decN decDig (N - i) (l.drop m)) = (xs, k, e)) ∧ wr.ownsRow w.heap.size 90 16 (.slice ao2 i cap2) i (dvs ys) ∧ Below w.heap.size w wr) (fun _ _ ct _ _ _ => N - (intOf ct).toNat)
    case atStart => exact ⟨0, j, [], none, 0, by omega, rfl, by omega, rfl, rfl, rfl, HJ, World.ownsRow_nil _ _ _ _, hb⟩
    case round =>
      clear hb HJ
      obtain ⟨i, m, ys, ao2, cap2, hm, hys, hi, rfl, rfl, rfl, HJ, hown, hb⟩ := hrel
      have HY := Lib.hid hys
      clear hys
      have hbs := hb.size
      by_cases hlt : i < N
      · obtain ⟨r, hr1⟩ : ∃ r, N - i = r + 1 := ⟨N - i - 1, by omega⟩
        rw [hr1] at HJ hm
        obtain ⟨d, hdx, hdl, HJ⟩ := decD_round HJ hl hm
        have hN1 : Hid (N - (i + 1) = r) := Lib.hid (by omega)
        have hmn : m + 16 ≤ n := by omega
        have hiN : i + 1 + r = N := by omega
        have HM := Lib.hid hm
        have HIN := Lib.hid hiN
        clear hr1 hm hiN
        have hrw := hr.below hb (Nat.le_refl _)
        obtain ⟨a, rfl⟩ := hrw.has (by omega)
        obtain ⟨wo, rfl⟩ : ∃ wo : World, wo = wr := ⟨_, rfl⟩
        go_wp2_with (refine al_arr rfl 90 rfl _ _ _ Try.zero90x ?_)
        go_loopw [11] (fun x wx => ∃ (r : Nat) (A : Array Value), r ≤ 16 ∧ x = .int .i64 r ∧ wx = wo.alloc (.cells A 90) ∧ A.size = 16 ∧ Hid (A.toList.take r = bvs (d.take r))) (fun x _ => 16 - (intOf x).toNat)
        case atStart => exact ⟨0, _, by omega, rfl, rfl, by simp, by simp [Hid, bvs]⟩
        case round =>
          obtain ⟨q, A, hq, rfl, rfl, hA, hT⟩ := hrel
          by_cases hlq : q < 16
          · obtain ⟨ch, u, e1, e2, hT2, hA2⟩ := digs_byte hrw hdx hdl hlq hA hT
            have HA := Lib.hid hA
            clear hA
            go_wp2
            go_roundw
            case rel => exact ⟨q + 1, A.setIfInBounds q (bv ch), by omega, by go_num, rfl, hA2, hT2⟩
            case measure => simp [intOf]; omega
          · obtain rfl : q = 16 := by omega
            have hAd : A = (bvs d).toArray := toArray_of (by
              have := hT.out
              rw [List.take_of_length_le (by simp [hA]), List.take_of_length_le (by rw [hdl.out]; exact Nat.le_refl _)] at this
              exact this)
            subst hAd
            clear hT hA
            go_wp2_with (first | (refine ld_arr rfl 90 (.tmp 10) rfl _ rfl 16 Try.underlying90 Try.size90 d hdl.out ((sl_dig wo d hdl.out).cell _ rfl) ?_) | (refine bs_dig rfl (.tmp 39) rfl d rfl hdl.out ?_) | (at_builtin; refine ap_any rfl (.tmp 38) (.tmp 40) 24 rfl w.heap.size 90 _ 16 16 Try.underlying24 Try.zero90x rfl (by decide) _ i (dvs ys) rfl ((hown.alloc _).alloc _) _ 1 1 (bvs d) rfl (sl_dig (wo.alloc _) d hdl.out) (bvs_one d) (by omega) (by unfold maxLen; omega) (by simp; omega) ?_; intro ao' cap' w3 hown3 hb3))
            go_roundw
            case rel => exact ⟨i + 1, m + 16, ys ++ [d], ao', cap', by have := HM.out; have := HIN.out; omega, by simp [HY.out], by omega, by go_num, by go_num, rfl, by rw [hN1.out]; exact HJ, by rw [dvs_snoc]; exact hown3, hb.trans ((((Below.refl _ _).alloc hbs _).alloc (by simp; omega) _).trans hb3)⟩
            case measure => simp [intOf]; omega
      · obtain rfl : i = N := by omega
        have HE := HJ.out
        rw [Nat.sub_self, join_end] at HE
        simp only [Prod.mk.injEq] at HE
        obtain ⟨rfl, rfl, rfl⟩ := HE
        clear HJ
        go_wp2
        go_ret3
        rw [← HY.out] at hown ⊢
        exact ⟨ao2, cap2, rfl, hown, hb⟩
  · have hR := decList_bad hd hq he
    simp only [Prod.mk.injEq] at hR
    obtain ⟨rfl, rfl, rfl⟩ := hR
    obtain ⟨_, _, h23, _⟩ := count_bad hq he
    have hne := err_ne h23
    have H1 := Lib.hid hq
    have HE := Lib.hid he
    clear hq hd h23 he
    go_enter Try.func41, Try.ntmps41
    go_wp2_with (go_at_call 65; refine (rcount16_err _ _ _ _ _ hr hbd _ _ _ H1.out HE.out).mono ?_; rintro e w1 ⟨n1, k1, rfl, hb⟩)
    go_ret3
    exact ⟨none, 0, rfl, World.ownsRow_nil _ _ _ _, hb⟩

end Go.Proofs.Ytcpemgfpiapaaaa
