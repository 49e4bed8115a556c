/- slices.Grow of nil, at bytes: an empty slice of the call's own. Slices of byte slices; slices.Concat of them. link.Seal returns the sealed bytes. -/
import Derived.Test.YtcpemgfpiapaaaaApG
import Derived.Lib.AppendZeros
import Derived.Test.YtcpemgfpiapaaaaLkA
namespace Go.Proofs.Ytcpemgfpiapaaaa
open Go.RowKit

theorem own_zeros (w : World) (n : Nat) (hn : n ≤ maxLen) : OwnB (w.drew.alloc (.cells (Builtin.zeroCells (Value.int .u8 0).cells n ++ Builtin.zeroCells (Value.int .u8 0).cells (grownCap w n 0 5 - n)) 5)) w.heap.size (some ⟨w.heap.size, 0, none⟩) (grownCap w n 0 5) [] := by
  refine ⟨rfl, .inr ⟨w.heap.size, _, _, rfl, Nat.le_refl _, heap_alloc_new w.drew _, Nat.zero_le _, grownCap_le_maxLen _ _ _ _ hn, ?_, by simp [bvs]⟩⟩
  have := grownCap_ge w n 0 5
  simp only [Array.size_append, size_zeroCells]
  simp [Value.cells]
  omega

set_option maxRecDepth 20000 in
/-- slices.Grow. -/
theorem grow_any (n : Nat) (hn : n ≤ 1000000000000) (w : World) : Calls Try.prog 78 #[.slice none 0 0, .int .i64 (n : Int)] w (GivesB w []) := by
  by_cases h0 : 0 < n
  · obtain ⟨i, hi, hz0, hz1, hz2⟩ := info_parts Try.info5
    have hrun := fun ty => Lib.run_append_nil_zeros (P := Try.prog) w 28 3 ty 5 i (.int .u8 0) .i64 .i64 Try.underlying28 Try.underlying3 hi hz0 n h0 (by omega) (by omega) (by rw [hz2]; omega)
    have ho := own_zeros w n (by unfold maxLen; omega)
    have hb : Below w.heap.size w (w.drew.alloc (.cells (Builtin.zeroCells (Value.int .u8 0).cells n ++ Builtin.zeroCells (Value.int .u8 0).cells (grownCap w n 0 5 - n)) 5)) := (Below.refl _ _).drew.alloc (Nat.le_refl _) _
    obtain ⟨W2, hW2⟩ : ∃ W2, W2 = (w.drew.alloc (.cells (Builtin.zeroCells (Value.int .u8 0).cells n ++ Builtin.zeroCells (Value.int .u8 0).cells (grownCap w n 0 5 - n)) 5)) := ⟨_, rfl⟩
    rw [← hW2] at ho hb
    have hR := Lib.hid hW2
    clear hW2
    have hcg := grownCap_ge w n 0 5
    obtain ⟨C, hC⟩ : ∃ C, grownCap w n 0 5 = C := ⟨_, rfl⟩
    rw [hC] at ho hcg
    go_enter Try.func78, Try.ntmps78
    go_wp2_with (at_builtin; refine Lib.wpList_append_run w rfl (.tmp 20) (.tmp 21) 28 3 rfl _ _ rfl rfl _ _ (hrun _) ?_; rw [← hR.out, hC])
    go_ret
    exact ⟨_, _, rfl, ho, hb⟩
  · obtain rfl : n = 0 := by omega
    go_enter Try.func78, Try.ntmps78
    go_wp2
    go_ret
    exact ⟨none, 0, rfl, OwnB.nil _ _, Below.refl _ _⟩

end Go.Proofs.Ytcpemgfpiapaaaa

namespace Go.Proofs.Ytcpemgfpiapaaaa
open Go.RowKit

/-- The value v is a slice of the bytes l. -/
def RowV (w : World) (v : Value) (l : List UInt8) : Prop := ∃ a c, v = .slice a l.length c ∧ SlV w a l.length c 1 (bvs l)

/-- The cells vs are slices of the bytes ls. -/
def RowsV (w : World) (vs : List Value) (ls : List (List UInt8)) : Prop := vs.length = ls.length ∧ ∀ (i : Nat) v l, vs[i]? = some v → ls[i]? = some l → RowV w v l

/-- A slice of slices of bytes. -/
def SlR (w : World) (ao : Option Addr) (n cap : Nat) (ls : List (List UInt8)) : Prop := ∃ vs, SlV w ao n cap 1 vs ∧ RowsV w vs ls

theorem RowV.below {w w' : World} {v : Value} {l : List UInt8} {B : Nat} (h : RowV w v l) (hb : Below B w w') (hB : w.heap.size ≤ B) : RowV w' v l := by
  obtain ⟨a, c, hv, hs⟩ := h
  exact ⟨a, c, hv, hs.below hb hB⟩

theorem RowsV.below {w w' : World} {vs : List Value} {ls : List (List UInt8)} {B : Nat} (h : RowsV w vs ls) (hb : Below B w w') (hB : w.heap.size ≤ B) : RowsV w' vs ls :=
  ⟨h.1, fun i v l h1 h2 => (h.2 i v l h1 h2).below hb hB⟩

theorem SlR.below {w w' : World} {ao : Option Addr} {n cap : Nat} {ls : List (List UInt8)} {B : Nat} (h : SlR w ao n cap ls) (hb : Below B w w') (hB : w.heap.size ≤ B) : SlR w' ao n cap ls := by
  obtain ⟨vs, h1, h2⟩ := h
  exact ⟨vs, h1.below hb hB, h2.below hb hB⟩

theorem SlR.len {w : World} {ao : Option Addr} {n cap : Nat} {ls : List (List UInt8)} (h : SlR w ao n cap ls) : ls.length = n := by
  obtain ⟨vs, h1, h2⟩ := h
  have := h1.len
  rw [← h2.1]
  omega

theorem RowsV.nil (w : World) : RowsV w [] [] := ⟨rfl, fun i v l h => by simp at h⟩

theorem RowsV.cons {w : World} {v : Value} {l : List UInt8} {vs : List Value} {ls : List (List UInt8)} (h : RowV w v l) (hs : RowsV w vs ls) : RowsV w (v :: vs) (l :: ls) := by
  refine ⟨by simp [hs.1], fun i u m h1 h2 => ?_⟩
  cases i with
  | zero => simp at h1 h2; subst h1 h2; exact h
  | succ i => simp at h1 h2; exact hs.2 i u m h1 h2

theorem RowsV.append {w : World} {vs us : List Value} {ls ms : List (List UInt8)} (h : RowsV w vs ls) (hs : RowsV w us ms) : RowsV w (vs ++ us) (ls ++ ms) := by
  refine ⟨by simp [h.1, hs.1], fun i u m h1 h2 => ?_⟩
  by_cases hi : i < vs.length
  · rw [List.getElem?_append_left hi] at h1
    rw [List.getElem?_append_left (by rw [← h.1]; exact hi)] at h2
    exact h.2 i u m h1 h2
  · rw [List.getElem?_append_right (by omega)] at h1
    rw [List.getElem?_append_right (by rw [← h.1]; omega), ← h.1] at h2
    exact hs.2 _ u m h1 h2

theorem SlV.row {w : World} {ao : Option Addr} {n c : Nat} {l : List UInt8} (h : SlV w ao n c 1 (bvs l)) : RowV w (.slice ao n c) l := by
  have : l.length = n := by have := h.len; simpa using this
  exact ⟨ao, c, by rw [this], by rw [this]; exact h⟩

/-- One row of a slice of slices. -/
theorem SlR.at {w : World} {a : Addr} {n cap : Nat} {ls : List (List UInt8)} (h : SlR w (some a) n cap ls) {k : Nat} {l : List UInt8} (hk : ls[k]? = some l) : ∃ b c, w.cell? (a.add k) = some (.slice b l.length c) ∧ SlV w b l.length c 1 (bvs l) := by
  obtain ⟨vs, h1, h2⟩ := h
  have hkl := (List.getElem?_eq_some_iff.1 hk).1
  obtain ⟨v, hv⟩ : ∃ v, vs[k]? = some v := ⟨_, List.getElem?_eq_getElem (by rw [h2.1]; exact hkl)⟩
  obtain ⟨b, c, rfl, hs⟩ := h2.2 k v l hv hk
  exact ⟨b, c, h1.cell a rfl k _ hv, hs⟩

/-- The bytes of the first rows. -/
theorem flat_next {ls : List (List UInt8)} {k : Nat} {l D : List UInt8} (hk : ls[k]? = some l) (hD : Hid (D = (ls.take k).flatten)) : Hid (D ++ l = (ls.take (k + 1)).flatten) ∧ D.length + l.length ≤ ls.flatten.length := by
  obtain ⟨h1, h2⟩ := List.getElem?_eq_some_iff.1 hk
  have e : D ++ l = (ls.take (k + 1)).flatten := by
    rw [List.take_succ_eq_append_getElem h1, h2, hD.out]; simp
  refine ⟨e, ?_⟩
  have : ls.flatten = (ls.take (k + 1)).flatten ++ (ls.drop (k + 1)).flatten := by rw [← List.flatten_append, List.take_append_drop]
  rw [this, ← e, List.length_append, List.length_append]
  omega

theorem flat_end {ls : List (List UInt8)} {n : Nat} {D : List UInt8} (hn : Hid (ls.length = n)) (hD : Hid (D = (ls.take n).flatten)) : D = ls.flatten := by
  rw [hD.out, List.take_of_length_le (by rw [hn.out]; exact Nat.le_refl _)]

set_option maxRecDepth 20000 in
set_option maxHeartbeats 400000 in
/-- slices.Concat. -/
theorem concat_any (ao : Option Addr) (n c : Nat) (ls : List (List UInt8)) (w : World) (h : SlR w ao n c ls) (hT : ls.flatten.length ≤ 1000000000000) (hn : n ≤ 1000000000000) :
    Calls Try.prog 68 #[.slice ao n c] w (GivesB w ls.flatten) := by
  have l1 : Hid (ls.length = n) := Lib.hid h.len
  have hs0 := h
  have HS : Hid (([] : List UInt8) = (ls.take 0).flatten) := Lib.hid (by simp)
  go_enter Try.func68, Try.ntmps68
  go_wp2
  go_loopw [3, 5, 11] (fun s _ i wr => ∃ (k : Nat) (D : List UInt8), k ≤ n ∧ i = .int .i64 k ∧ s = .int .i64 (D.length : Int) ∧ D.length ≤ ls.flatten.length ∧ Hid (D = (ls.take k).flatten) ∧ w = wr) (fun _ _ i _ => n - (intOf i).toNat)
  case atStart => exact ⟨0, [], by omega, rfl, rfl, by simp, HS, rfl⟩
  case round =>
    obtain ⟨k, D, hk, rfl, rfl, hle, hD, rfl⟩ := hrel
    by_cases hlt : k < n
    · obtain ⟨l, hl⟩ : ∃ l, ls[k]? = some l := ⟨_, List.getElem?_eq_getElem (by rw [l1.out]; exact hlt)⟩
      obtain ⟨a, rfl⟩ : ∃ a, ao = some a := by obtain ⟨vs, h1, _⟩ := h; exact h1.has (by omega)
      obtain ⟨b, cb, e1, hsl⟩ := h.at hl
      obtain ⟨hN, hle2⟩ := flat_next hl hD
      clear hl
      go_wp2
      go_roundw
      case rel => exact ⟨k + 1, D ++ l, by omega, by go_num, by simp, by rw [List.length_append]; omega, hN, trivial⟩
      case measure => simp [intOf]; omega
    · obtain rfl : k = n := by omega
      obtain ⟨T, hTT⟩ : ∃ T, D.length = T := ⟨_, rfl⟩
      rw [hTT]
      have hT2 : T ≤ 1000000000000 := by omega
      clear hle hlt hk hTT hD
      go_wp2_with (go_at_call 78; refine (grow_any T hT2 _).mono ?_; rintro e w1 ⟨ga, gc, rfl, hg, hb⟩)
      go_loopw [6, 8, 27] (fun v _ i wr => ∃ (q : Nat) (D : List UInt8) (ao4 : Option Addr) (cap4 : Nat), q ≤ k ∧ i = .int .i64 q ∧ v = .slice ao4 D.length cap4 ∧ OwnB wr w.heap.size ao4 cap4 D ∧ Hid (D = (ls.take q).flatten) ∧ Below w.heap.size w wr) (fun _ _ i _ => k - (intOf i).toNat)
      case atStart => exact ⟨0, [], ga, gc, by omega, rfl, rfl, hg, HS, hb⟩
      case round =>
        clear hg hb HS hs0
        obtain ⟨q, D, ao4, cap4, hq, rfl, rfl, ho, hD, hb⟩ := hrel
        by_cases hlt : q < k
        · obtain ⟨l, hl⟩ : ∃ l, ls[q]? = some l := ⟨_, List.getElem?_eq_getElem (by rw [l1.out]; exact hlt)⟩
          obtain ⟨a, rfl⟩ : ∃ a, ao = some a := by obtain ⟨vs, h1, _⟩ := h; exact h1.has (by omega)
          obtain ⟨b, cb, e1, hsl⟩ := (h.below hb (Nat.le_refl _)).at hl
          obtain ⟨hN, hle2⟩ := flat_next hl hD
          have hbs := hb.size
          clear hl
          have s0 := True.intro
          go_wp2_with (first | (clear s0; at_builtin; refine ap_bytes rfl (.tmp 31) (.tmp 32) rfl w.heap.size _ _ D l _ rfl rfl ho _ _ _ rfl rfl hsl (by omega) hbs ?_; intro ao5 cap5 w5 ho5 hb5; have s1 := True.intro))
          go_roundw
          case rel => exact ⟨q + 1, D ++ l, ao5, cap5, by omega, by go_num, by simp, ho5, hN, hb.trans hb5⟩
          case measure => simp [intOf]; omega
        · obtain rfl : q = k := by omega
          have HE := flat_end l1 hD
          clear hD
          subst HE
          go_wp2
          go_ret
          exact ⟨ao4, cap4, rfl, ho, hb⟩

end Go.Proofs.Ytcpemgfpiapaaaa

namespace Go.Proofs.Ytcpemgfpiapaaaa
open Go.RowKit

/-- New cells that hold slices of bytes. -/
theorem lit_rows {w : World} {vs : List Value} {ls : List (List UInt8)} (h : RowsV w vs ls) {arr : Array Value} (ha : arr = vs.toArray) {n : Nat} (hn : vs.length = n) (hm : n ≤ 1000000) {P : Nat} (hP : P = w.heap.size) :
    SlR (w.alloc (.cells arr 28)) (some ⟨P, 0, none⟩) n n ls := by
  subst hP
  exact ⟨vs, lit_sl w 28 arr n 1 vs ha (by simpa using hn) (by unfold maxLen; omega), h.below ((Below.refl _ _).alloc (Nat.le_refl _) _) (Nat.le_refl _)⟩

theorem RowV.cons2 {w : World} {v u : Value} {l m : List UInt8} (h : RowV w v l) (h2 : RowV w u m) : RowsV w [v, u] [l, m] := (RowsV.nil w).cons h2 |>.cons h

theorem gives_from {w w1 : World} {l : List UInt8} (hb : Below w.heap.size w w1) {e : Ending} {w' : World} (h : GivesB w1 l e w') : GivesB w l e w' := by
  obtain ⟨ao, cap, rfl, ho, hb2⟩ := h
  exact ⟨ao, cap, rfl, ho.base hb.size, hb.trans (hb2.mono hb.size)⟩

set_option maxRecDepth 20000 in
theorem lseal_any (key : Nat) (hk : key < 18446744073709551616) (ao : Option Addr) (n c : Nat) (l : List UInt8) (w : World) (hr : SlV w ao n c 1 (bvs l)) (hn : n ≤ 100000000000) :
    Calls Try.prog 43 #[.int .u64 (key : Int), .slice ao n c] w (GivesB w (sealB key l)) := by
  have hln : l.length = n := by have := hr.len; simpa using this
  obtain ⟨L, hL⟩ : ∃ L, le (fnv key l) 8 = L := ⟨_, rfl⟩
  have hL8 : L.length = 8 := by rw [← hL]; simp
  have s0 := True.intro
  go_enter Try.func43, Try.ntmps43
  go_wp2_with (first
    | (clear s0; go_at_call 67; refine (seal_any key hk _ _ _ _ _ hr (by omega)).mono ?_; rw [hL]; rintro e w1 ⟨rfl, hb⟩; have s1 := True.intro)
    | (clear s1; refine st_arr rfl rfl 95 (.tmp 5) (.tmp 8) rfl w1 _ rfl rfl L rfl (by rw [hL8]; exact Try.size95) (by rw [hL8]; rfl) ?_; have s2 := True.intro)
    | (clear s2; go_at_call 68; have hA := sl_row w1 L 95 (by rw [hL8]; omega); rw [hL8] at hA; have hb2 := (Below.refl w1.heap.size w1).alloc (Nat.le_refl _) (.cells (bvs L).toArray 95); have hb3 := hb.alloc hb.size (.cells (bvs L).toArray 95); refine (concat_any _ 2 2 [l, L] _ (lit_rows (((hr.below hb (Nat.le_refl _)).below hb2 (Nat.le_refl _)).row.cons2 hA.row) rfl rfl (by simp) (by simp)) (by simp [hL8]; omega) (by decide)).mono ?_; rintro e w2 h2; have h3 := gives_from (hb3.alloc hb3.size _) h2; obtain ⟨a3, c3, rfl, ho3, hb4⟩ := h3; have s3 := True.intro))

  go_ret
  have e : [l, L].flatten = sealB key l := by simp [sealB, hL]
  rw [e] at ho3
  exact ⟨a3, c3, by rw [sealB_length, hln]; rfl, ho3, hb4⟩

end Go.Proofs.Ytcpemgfpiapaaaa
