/- The functions of layer 1 at given bytes, as the laws' examples call them. -/
import Derived.Test.YtcpemgfpiapaaaaDecC
import Derived.Test.YtcpemgfpiapaaaaDecD
import Derived.Test.YtcpemgfpiapaaaaEncD
import Derived.Test.YtcpemgfpiapaaaaSameD
namespace Go.Proofs.Ytcpemgfpiapaaaa
open Go.RowKit

/-- New cells, read as a slice. -/
theorem lit_sl (w : World) (t : TypeId) (arr : Array Value) (n size : Nat) (xs : List Value) (h : arr = xs.toArray) (hn : xs.length = n * size) (hm : n ≤ maxLen) : SlV (w.alloc (.cells arr t)) (some ⟨w.heap.size, 0, none⟩) n n size xs :=
  ⟨hn, Nat.le_refl _, hm, fun h => by (cases h), fun a ha j x hj => by
    cases ha
    subst h
    rw [Addr.add_lit, Nat.zero_add, cell_of_row _ _ _ _ _ _ (heap_alloc_new w _)]
    simpa using hj⟩

/-- What a call gives that changes nothing of W, and nothing of wk. -/
def Nx (W wk : World) (v : Value) (e : Ending) (w' : World) : Prop := e = .returned v ∧ Below W.heap.size W w' ∧ Below wk.heap.size wk w'

theorem below_two {W wk w' : World} {o : Obj} (hb : Below W.heap.size W wk) (h : Below (wk.alloc o).heap.size (wk.alloc o) w') : Below W.heap.size W w' ∧ Below wk.heap.size wk w' := by
  have h2 : Below wk.heap.size wk w' := ((Below.refl _ wk).alloc (Nat.le_refl _) o).trans (h.mono (by simp))
  exact ⟨hb.trans (h2.mono hb.size), h2⟩

theorem sx_int {W wk : World} (hb : Below W.heap.size W wk) (l : List UInt8) (x : Int) (k : Nat) (e : Int) {kI : Int} (hk : kI = (k : Int)) {n : Nat} {arr : Array Value} (ha : arr = (bvs l).toArray) (hn : l.length = n) (hm : n ≤ 1000) (hd : decInt l = (x, k, e)) :
    Calls Try.prog 30 #[.slice (some ⟨wk.heap.size, 0, none⟩) n n] (wk.alloc (.cells arr 5)) (Nx W wk (.tuple #[.int .i64 x, .int .i64 kI, .int .i64 e])) := by
  subst hk
  refine (getint_any _ _ _ l _ (lit_sl wk 5 arr n 1 (bvs l) ha (by simpa using hn) (by unfold maxLen; omega)) _ _ _ hd).mono ?_
  rintro e w1 ⟨rfl, h⟩
  exact ⟨rfl, below_two hb h⟩

theorem sx_bytes {W wk : World} (hb : Below W.heap.size W wk) (l : List UInt8) (x : ByteArray) (k : Nat) (e : Int) {kI : Int} (hk : kI = (k : Int)) {n : Nat} {arr : Array Value} (ha : arr = (bvs l).toArray) (hn : l.length = n) (hm : n ≤ 1000) (hd : decBytes l = (x, k, e)) :
    Calls Try.prog 32 #[.slice (some ⟨wk.heap.size, 0, none⟩) n n] (wk.alloc (.cells arr 5)) (Nx W wk (.tuple #[.string x, .int .i64 kI, .int .i64 e])) := by
  subst hk
  refine (getbytes_any _ _ _ l _ (lit_sl wk 5 arr n 1 (bvs l) ha (by simpa using hn) (by unfold maxLen; omega)) (by omega) _ _ _ hd).mono ?_
  rintro e w1 ⟨rfl, h⟩
  exact ⟨rfl, below_two hb h⟩

/-- What a call gives that makes a row. -/
def Nl (W wk : World) (n size : Nat) (xs : List Value) (k : Int) (x : Int) (e : Ending) (w' : World) : Prop :=
  ∃ ao cap, e = .returned (.tuple #[.slice ao n cap, .int .i64 k, .int .i64 x]) ∧ SlV w' ao n cap size xs ∧ Below W.heap.size W w' ∧ Below wk.heap.size wk w'

theorem sx_ints {W wk : World} (hb : Below W.heap.size W wk) (l : List UInt8) (xs : List Int) (k : Nat) (e : Int) {kI : Int} (hk : kI = (k : Int)) {n : Nat} {arr : Array Value} (ha : arr = (bvs l).toArray) (hn : l.length = n) (hm : n ≤ 1000) (hd : decList 1 decInt l = (xs, k, e)) {m : Nat} (hx : xs.length = m) :
    Calls Try.prog 34 #[.slice (some ⟨wk.heap.size, 0, none⟩) n n] (wk.alloc (.cells arr 5)) (Nl W wk m 1 (xs.map iv) kI e) := by
  subst hk hx
  refine (getints_any _ _ _ l _ (lit_sl wk 5 arr n 1 (bvs l) ha (by simpa using hn) (by unfold maxLen; omega)) (by omega) _ _ _ hd).mono ?_
  rintro e w1 ⟨ao, cap, rfl, ho, h⟩
  rw [List.length_map] at ho ⊢
  exact ⟨ao, cap, rfl, ownsRow_sl ho, below_two hb h⟩

theorem sx_strs {W wk : World} (hb : Below W.heap.size W wk) (l : List UInt8) (xs : List ByteArray) (k : Nat) (e : Int) {kI : Int} (hk : kI = (k : Int)) {n : Nat} {arr : Array Value} (ha : arr = (bvs l).toArray) (hn : l.length = n) (hm : n ≤ 1000) (hd : decList 1 decBytes l = (xs, k, e)) {m : Nat} (hx : xs.length = m) :
    Calls Try.prog 37 #[.slice (some ⟨wk.heap.size, 0, none⟩) n n] (wk.alloc (.cells arr 5)) (Nl W wk m 1 (xs.map Value.string) kI e) := by
  subst hk hx
  refine (getstrs_any _ _ _ l _ (lit_sl wk 5 arr n 1 (bvs l) ha (by simpa using hn) (by unfold maxLen; omega)) (by omega) _ _ _ hd).mono ?_
  rintro e w1 ⟨ao, cap, rfl, ho, h⟩
  rw [List.length_map] at ho ⊢
  exact ⟨ao, cap, rfl, ownsRow_sl ho, below_two hb h⟩

/-- A slice of bytes, new. -/
def Ns (W wk : World) (n : Nat) (l : List UInt8) (e : Ending) (w' : World) : Prop :=
  ∃ ao cap, e = .returned (.slice ao n cap) ∧ SlV w' ao n cap 1 (bvs l) ∧ Below W.heap.size W w' ∧ Below wk.heap.size wk w'

theorem gives_ns {W wk : World} {o : Obj} (hb : Below W.heap.size W wk) {l m : List UInt8} (hl : l = m) {n : Nat} (hn : m.length = n) {e : Ending} {w' : World} (h : GivesB (wk.alloc o) l e w') : Ns W wk n m e w' := by
  subst hl hn
  obtain ⟨ao, cap, rfl, ho, h⟩ := h
  exact ⟨ao, cap, rfl, ho.sl, below_two hb h⟩

theorem gives_ns0 {W wk : World} (hb : Below W.heap.size W wk) {l m : List UInt8} (hl : l = m) {n : Nat} (hn : m.length = n) {e : Ending} {w' : World} (h : GivesB wk l e w') : Ns W wk n m e w' := by
  subst hl hn
  obtain ⟨ao, cap, rfl, ho, h⟩ := h
  exact ⟨ao, cap, rfl, ho.sl, hb.trans (h.mono hb.size), h⟩

theorem sx_encint {W wk : World} (hb : Below W.heap.size W wk) (x : Int) (l : List UInt8) {n : Nat} (hn : l.length = n) (h0 : -9223372036854775808 ≤ x) (h1 : x ≤ 9223372036854775807) (hl : encInt x = l) :
    Calls Try.prog 20 #[.int .i64 x] wk (Ns W wk n l) :=
  (int_any x wk h0 h1).mono fun _ _ h => gives_ns0 hb hl hn h

theorem sx_encbytes {W wk : World} (hb : Below W.heap.size W wk) (x : ByteArray) (l : List UInt8) {n : Nat} (hn : l.length = n) (h0 : x.size ≤ 1000) (hl : encBytes x = l) :
    Calls Try.prog 22 #[.string x] wk (Ns W wk n l) :=
  (bytes_any x wk (by omega)).mono fun _ _ h => gives_ns0 hb hl hn h

theorem sx_encints {W wk : World} (hb : Below W.heap.size W wk) (xs : List Int) (l : List UInt8) {k : Nat} {arr : Array Value} (ha : arr = (xs.map iv).toArray) (hk : xs.length = k) (hm : k ≤ 1000) (hR : ∀ x ∈ xs, InR x) {n : Nat} (hn : l.length = n) (hn2 : n ≤ 1000) (hl : encL encInt xs = l) :
    Calls Try.prog 24 #[.slice (some ⟨wk.heap.size, 0, none⟩) k k] (wk.alloc (.cells arr 3)) (Ns W wk n l) :=
  (ints_any _ _ _ xs _ (lit_sl wk 3 arr k 1 _ ha (by simpa using hk) (by unfold maxLen; omega)) hR (by rw [hl]; omega)).mono fun _ _ h => gives_ns hb hl hn h

theorem sx_encstrs {W wk : World} (hb : Below W.heap.size W wk) (xs : List ByteArray) (l : List UInt8) {k : Nat} {arr : Array Value} (ha : arr = (xs.map Value.string).toArray) (hk : xs.length = k) (hm : k ≤ 1000) {n : Nat} (hn : l.length = n) (hn2 : n ≤ 1000) (hl : encL encBytes xs = l) :
    Calls Try.prog 26 #[.slice (some ⟨wk.heap.size, 0, none⟩) k k] (wk.alloc (.cells arr 9)) (Ns W wk n l) :=
  (strs_any _ _ _ xs _ (lit_sl wk 9 arr k 1 _ ha (by simpa using hk) (by unfold maxLen; omega)) (by rw [hl]; omega)).mono fun _ _ h => gives_ns hb hl hn h

/-- The comparison with a literal: equal. -/
theorem looks_nx {W wk : World} {o : Obj} (hb : Below W.heap.size W wk) {v : Value} {e : Ending} {w' : World} (h : Looks (wk.alloc o) v e w') : Nx W wk v e w' := by
  obtain ⟨rfl, n, rfl⟩ := h
  exact ⟨rfl, below_two hb (below_drewN (Below.refl _ _) n)⟩

theorem sx_same {W wk : World} (hb : Below W.heap.size W wk) (l : List UInt8) {ao : Option Addr} {n cap : Nat} (hs : SlV wk ao n cap 1 (bvs l)) {arr : Array Value} (ha : arr = (bvs l).toArray) (hn : l.length = n) (hm : n ≤ 1000) :
    Calls Try.prog 19 #[.slice ao n cap, .slice (some ⟨wk.heap.size, 0, none⟩) n n] (wk.alloc (.cells arr 5)) (Nx W wk (.bool true)) :=
  (same_any _ _ _ _ _ _ l l _ (hs.below ((Below.refl _ wk).alloc (Nat.le_refl _) _) (Nat.le_refl _)) (lit_sl wk 5 arr n 1 _ ha (by simpa using hn) (by unfold maxLen; omega)) true (by simp)).mono fun _ _ h => looks_nx hb h

theorem sx_sameints {W wk : World} (hb : Below W.heap.size W wk) (l : List Int) {ao : Option Addr} {n cap : Nat} (hs : SlV wk ao n cap 1 (l.map iv)) {arr : Array Value} (ha : arr = (l.map iv).toArray) (hn : l.length = n) (hm : n ≤ 1000) :
    Calls Try.prog 36 #[.slice ao n cap, .slice (some ⟨wk.heap.size, 0, none⟩) n n] (wk.alloc (.cells arr 3)) (Nx W wk (.bool true)) :=
  (sameInts_any _ _ _ _ _ _ l l _ (hs.below ((Below.refl _ wk).alloc (Nat.le_refl _) _) (Nat.le_refl _)) (lit_sl wk 3 arr n 1 _ ha (by simpa using hn) (by unfold maxLen; omega)) true (by simp)).mono fun _ _ h => looks_nx hb h

theorem sx_sametexts {W wk : World} (hb : Below W.heap.size W wk) (l : List ByteArray) {ao : Option Addr} {n cap : Nat} (hs : SlV wk ao n cap 1 (l.map Value.string)) {arr : Array Value} (ha : arr = (l.map Value.string).toArray) (hn : l.length = n) (hm : n ≤ 1000) :
    Calls Try.prog 39 #[.slice ao n cap, .slice (some ⟨wk.heap.size, 0, none⟩) n n] (wk.alloc (.cells arr 9)) (Nx W wk (.bool true)) :=
  (sameTexts_any _ _ _ _ _ _ l l _ (hs.below ((Below.refl _ wk).alloc (Nat.le_refl _) _) (Nat.le_refl _)) (lit_sl wk 9 arr n 1 _ ha (by simpa using hn) (by unfold maxLen; omega)) true (by simp)).mono fun _ _ h => looks_nx hb h

theorem sx_samedigs {W wk : World} (hb : Below W.heap.size W wk) (l : List (List UInt8)) (hd : Digs l) {ao : Option Addr} {n cap : Nat} (hs : SlV wk ao n cap 16 (dvs l)) {arr : Array Value} (ha : arr = (dvs l).toArray) (hn : l.length = n) (hm : n ≤ 1000) :
    Calls Try.prog 42 #[.slice ao n cap, .slice (some ⟨wk.heap.size, 0, none⟩) n n] (wk.alloc (.cells arr 90)) (Nx W wk (.bool true)) :=
  (sameDigests_any _ _ _ _ _ _ l l _ (hs.below ((Below.refl _ wk).alloc (Nat.le_refl _) _) (Nat.le_refl _)) (lit_sl wk 90 arr n 16 _ ha (by rw [dvs_length hd, hn]) (by unfold maxLen; omega)) hd hd true (by simp)).mono fun _ _ h => looks_nx hb h

/-- Digests(d), d a new variable. -/
def Nd (W wk : World) (n : Nat) (l : List UInt8) (ds : List UInt8) (e : Ending) (w' : World) : Prop :=
  ∃ ao cap, e = .returned (.slice ao n cap) ∧ SlV w' ao n cap 1 (bvs l) ∧ SlV w' (some ⟨wk.heap.size, 0, none⟩) 1 1 16 (dvs [ds]) ∧ Below W.heap.size W w' ∧ Below wk.heap.size wk w'

theorem sx_encdig {W wk : World} (hb : Below W.heap.size W wk) (d : List UInt8) (l : List UInt8) {arr : Array Value} (ha : arr = (dvs [d]).toArray) (hd : d.length = 16) {n : Nat} (hn : l.length = n) (hn2 : n ≤ 1000) (hl : encL id [d] = l) :
    Calls Try.prog 28 #[.slice (some ⟨wk.heap.size + 1, 0, none⟩) 1 1] ((wk.alloc (.cells arr 90)).alloc (.cells arr 90)) (Nd W wk n l d) := by
  have hD : Digs [d] := by simp [Digs, hd]
  have hL : (dvs [d]).length = 1 * 16 := by rw [dvs_length hD]; rfl
  have h1 := lit_sl wk 90 arr 1 16 _ ha hL (by unfold maxLen; omega)
  have h2 := lit_sl (wk.alloc (.cells arr 90)) 90 arr 1 16 _ ha hL (by unfold maxLen; omega)
  rw [show (wk.alloc (.cells arr 90)).heap.size = wk.heap.size + 1 by simp] at h2
  refine (digs_any _ _ _ [d] _ h2 hD (by rw [hl]; omega)).mono fun e w' h => ?_
  obtain ⟨ao, cap, rfl, hs, hb1, hk⟩ := gives_ns (W := W) ((hb.alloc hb.size _)) hl hn h
  refine ⟨ao, cap, rfl, hs, h1.below hk (Nat.le_refl _), hb1, ((Below.refl _ wk).alloc (Nat.le_refl _) _).trans (hk.mono (by simp))⟩

theorem sx_getdigs {W wk : World} (hb : Below W.heap.size W wk) (l : List UInt8) {ao : Option Addr} {n cap : Nat} (hs : SlV wk ao n cap 1 (bvs l)) (xs : List (List UInt8)) (k : Nat) (e : Int) {kI : Int} (hk : kI = (k : Int)) (hm : n ≤ 1000) (hd : decList 16 decDig l = (xs, k, e)) {m : Nat} (hx : xs.length = m) :
    Calls Try.prog 40 #[.slice ao n cap] wk (Nl W wk m 16 (dvs xs) kI e) := by
  subst hk hx
  refine (getdigs_any _ _ _ l _ hs (by omega) _ _ _ hd).mono ?_
  rintro e w1 ⟨ao, cap, rfl, ho, h⟩
  exact ⟨ao, cap, rfl, ownsRow_sl ho, hb.trans (h.mono hb.size), h⟩

/-- A whole array of bytes, loaded under a guard that holds. -/
theorem ld_arr_g {w : World} {ops : Array Oper} {rest : List Oper} {o : Oper} {a : Act} {Q : Exit → Act → World → Prop} (hw : Region.wanted o (yielded ops a.tmps) = true) (x : Operand) (ho : o.op = .load 90 x) (ad : Addr) (hx : a.eval x = .pointer (some ad)) (d : List UInt8) (hd : d.length = 16) {n c : Nat} (hs : SlV w (some ad) n c 16 (dvs [d])) {arr : Array Value} (ha : (bvs d).toArray = arr)
    (h : wpList Try.prog ops Q rest (a.put o.dst (.agg arr)) w) : wpList Try.prog ops Q (o :: rest) a w :=
  BigFrame.wpList_want hw fun K hK => by
    subst ha
    have hi : (Try.prog.info? 90).map (·.size) = some 16 := by kernel_rfl
    have hrun := run_loadAt_bytes w ad 90 16 Try.underlying90 hi d hd (fun j u hj => hs.cell ad rfl j u (by simpa [dvs] using hj))
    unfold Oper.wp execOp
    simp only [ho, hx, Sem.run_bind, hrun, Result.andThen_ok, Sem.run_pure, Oper.upon]
    exact hK _ _ h

end Go.Proofs.Ytcpemgfpiapaaaa
