/- The functions of layer 1 as the laws call them: each gives its answer and changes nothing that was there. -/
import Derived.Test.YtcpemgfpiapaaaaSan
import Derived.Test.YtcpemgfpiapaaaaFew
namespace Go.Proofs.Ytcpemgfpiapaaaa
open Go.RowKit

variable {W wk : World}

theorem below_on (hb : Below W.heap.size W wk) {w' : World} (h : Below wk.heap.size wk w') : Below W.heap.size W w' ∧ Below wk.heap.size wk w' := ⟨hb.trans (h.mono hb.size), h⟩

theorem ux_san (hb : Below W.heap.size W wk) : Calls Try.prog 18 #[] wk (Nx W wk (.bool true)) :=
  (sanity_ok wk).mono fun _ _ h => ⟨h.1, below_on hb h.2⟩

theorem looks_on (hb : Below W.heap.size W wk) {v : Value} {e : Ending} {w' : World} (h : Looks wk v e w') : Nx W wk v e w' := by
  obtain ⟨rfl, n, rfl⟩ := h
  exact ⟨rfl, below_on hb (below_drewN (Below.refl _ _) n)⟩

theorem gotl_on (hb : Below W.heap.size W wk) {t : TypeId} {xs : List Value} {k : Nat} {x : Int} {m : Nat} (hm : xs.length = m) {e : Ending} {w' : World} (h : GotL wk t xs k x e w') : Nl W wk m 1 xs (k : Int) x e w' := by
  subst hm
  obtain ⟨ao, cap, rfl, ho, h⟩ := h
  exact ⟨ao, cap, rfl, ownsRow_sl ho, below_on hb h⟩

theorem gotd_on (hb : Below W.heap.size W wk) {xs : List (List UInt8)} {k : Nat} {x : Int} {e : Ending} {w' : World} (h : GotD wk xs k x e w') : Nl W wk xs.length 16 (dvs xs) (k : Int) x e w' := by
  obtain ⟨ao, cap, rfl, ho, h⟩ := h
  exact ⟨ao, cap, rfl, ownsRow_sl ho, below_on hb h⟩

section decoders
variable (hb : Below W.heap.size W wk) {ao : Option Addr} {n c : Nat} {l : List UInt8} (hr : SlV wk ao n c 1 (bvs l)) (hn : n ≤ 1000000000000)
include hb hr

theorem ux_getint {x : Int} {k : Nat} {e : Int} (hd : decInt l = (x, k, e)) : Calls Try.prog 30 #[.slice ao n c] wk (Nx W wk (.tuple #[.int .i64 x, .int .i64 (k : Int), .int .i64 e])) :=
  (getint_any _ _ _ l wk hr _ _ _ hd).mono fun _ _ h => ⟨h.1, below_on hb h.2⟩
theorem ux_rgetint {x : Int} {k : Nat} {e : Int} (hd : decInt l = (x, k, e)) : Calls Try.prog 31 #[.slice ao n c] wk (Nx W wk (.tuple #[.int .i64 x, .int .i64 (k : Int), .int .i64 e])) :=
  (rgetint_any _ _ _ l wk hr _ _ _ hd).mono fun _ _ h => ⟨h.1, below_on hb h.2⟩

include hn
theorem ux_getbytes {x : ByteArray} {k : Nat} {e : Int} (hd : decBytes l = (x, k, e)) : Calls Try.prog 32 #[.slice ao n c] wk (Nx W wk (.tuple #[.string x, .int .i64 (k : Int), .int .i64 e])) :=
  (getbytes_any _ _ _ l wk hr hn _ _ _ hd).mono fun _ _ h => ⟨h.1, below_on hb h.2⟩
theorem ux_rgetbytes {x : ByteArray} {k : Nat} {e : Int} (hd : decBytes l = (x, k, e)) : Calls Try.prog 33 #[.slice ao n c] wk (Nx W wk (.tuple #[.string x, .int .i64 (k : Int), .int .i64 e])) :=
  (rgetbytes_any _ _ _ l wk hr hn _ _ _ hd).mono fun _ _ h => ⟨h.1, below_on hb h.2⟩

theorem ux_getints {xs : List Int} {k : Nat} {e : Int} (hd : decList 1 decInt l = (xs, k, e)) : Calls Try.prog 34 #[.slice ao n c] wk (Nl W wk xs.length 1 (xs.map iv) (k : Int) e) :=
  (getints_any _ _ _ l wk hr hn _ _ _ hd).mono fun _ _ h => gotl_on hb (by simp) h
theorem ux_rgetints {xs : List Int} {k : Nat} {e : Int} (hd : decList 1 decInt l = (xs, k, e)) : Calls Try.prog 35 #[.slice ao n c] wk (Nl W wk xs.length 1 (xs.map iv) (k : Int) e) :=
  (rgetints_any _ _ _ l wk hr hn _ _ _ hd).mono fun _ _ h => gotl_on hb (by simp) h
theorem ux_getstrs {xs : List ByteArray} {k : Nat} {e : Int} (hd : decList 1 decBytes l = (xs, k, e)) : Calls Try.prog 37 #[.slice ao n c] wk (Nl W wk xs.length 1 (xs.map Value.string) (k : Int) e) :=
  (getstrs_any _ _ _ l wk hr hn _ _ _ hd).mono fun _ _ h => gotl_on hb (by simp) h
theorem ux_rgetstrs {xs : List ByteArray} {k : Nat} {e : Int} (hd : decList 1 decBytes l = (xs, k, e)) : Calls Try.prog 38 #[.slice ao n c] wk (Nl W wk xs.length 1 (xs.map Value.string) (k : Int) e) :=
  (rgetstrs_any _ _ _ l wk hr hn _ _ _ hd).mono fun _ _ h => gotl_on hb (by simp) h
theorem ux_getdigs {xs : List (List UInt8)} {k : Nat} {e : Int} (hd : decList 16 decDig l = (xs, k, e)) : Calls Try.prog 40 #[.slice ao n c] wk (Nl W wk xs.length 16 (dvs xs) (k : Int) e) :=
  (getdigs_any _ _ _ l wk hr hn _ _ _ hd).mono fun _ _ h => gotd_on hb h
theorem ux_rgetdigs {xs : List (List UInt8)} {k : Nat} {e : Int} (hd : decList 16 decDig l = (xs, k, e)) : Calls Try.prog 41 #[.slice ao n c] wk (Nl W wk xs.length 16 (dvs xs) (k : Int) e) :=
  (rgetdigs_any _ _ _ l wk hr hn _ _ _ hd).mono fun _ _ h => gotd_on hb h
end decoders

section compare
variable (hb : Below W.heap.size W wk) {ao bo : Option Addr} {n n' c c' : Nat}
include hb

theorem ux_same {l m : List UInt8} (h1 : SlV wk ao n c 1 (bvs l)) (h2 : SlV wk bo n' c' 1 (bvs m)) (e : l = m) : Calls Try.prog 19 #[.slice ao n c, .slice bo n' c'] wk (Nx W wk (.bool true)) :=
  (same_any _ _ _ _ _ _ l m wk h1 h2 true (by simp [e])).mono fun _ _ h => looks_on hb h
theorem ux_sameints {l m : List Int} (h1 : SlV wk ao n c 1 (l.map iv)) (h2 : SlV wk bo n' c' 1 (m.map iv)) (e : l = m) : Calls Try.prog 36 #[.slice ao n c, .slice bo n' c'] wk (Nx W wk (.bool true)) :=
  (sameInts_any _ _ _ _ _ _ l m wk h1 h2 true (by simp [e])).mono fun _ _ h => looks_on hb h
theorem ux_sametexts {l m : List ByteArray} (h1 : SlV wk ao n c 1 (l.map Value.string)) (h2 : SlV wk bo n' c' 1 (m.map Value.string)) (e : l = m) : Calls Try.prog 39 #[.slice ao n c, .slice bo n' c'] wk (Nx W wk (.bool true)) :=
  (sameTexts_any _ _ _ _ _ _ l m wk h1 h2 true (by simp [e])).mono fun _ _ h => looks_on hb h
theorem ux_samedigs {l m : List (List UInt8)} (h1 : SlV wk ao n c 16 (dvs l)) (h2 : SlV wk bo n' c' 16 (dvs m)) (d1 : Digs l) (e : l = m) : Calls Try.prog 42 #[.slice ao n c, .slice bo n' c'] wk (Nx W wk (.bool true)) :=
  (sameDigests_any _ _ _ _ _ _ l m wk h1 h2 d1 (e ▸ d1) true (by simp [e])).mono fun _ _ h => looks_on hb h
end compare

theorem gives_on (hb : Below W.heap.size W wk) {l : List UInt8} {e : Ending} {w' : World} (h : GivesB wk l e w') : Ns W wk l.length l e w' := gives_ns0 hb rfl rfl h

section encoders
variable (hb : Below W.heap.size W wk)
include hb

theorem ux_int {x : Int} (h : InR x) : Calls Try.prog 20 #[.int .i64 x] wk (Ns W wk (encInt x).length (encInt x)) :=
  (int_any x wk h.1 h.2).mono fun _ _ h => gives_on hb h
theorem ux_rint {x : Int} (h : InR x) : Calls Try.prog 21 #[.int .i64 x] wk (Ns W wk (encInt x).length (encInt x)) :=
  (rint_any x wk h.1 h.2).mono fun _ _ h => gives_on hb h
theorem ux_bytes {x : ByteArray} (h : x.size ≤ 1000000000000) : Calls Try.prog 22 #[.string x] wk (Ns W wk (encBytes x).length (encBytes x)) :=
  (bytes_any x wk h).mono fun _ _ h => gives_on hb h
theorem ux_rbytes {x : ByteArray} (h : x.size ≤ 1000000000000) : Calls Try.prog 23 #[.string x] wk (Ns W wk (encBytes x).length (encBytes x)) :=
  (rbytes_any x wk h).mono fun _ _ h => gives_on hb h
variable {ao : Option Addr} {n c : Nat}
theorem ux_ints {l : List Int} (h : SlV wk ao n c 1 (l.map iv)) (hR : ∀ x ∈ l, InR x) (hT : (encL encInt l).length ≤ 1000000000000) : Calls Try.prog 24 #[.slice ao n c] wk (Ns W wk (encL encInt l).length (encL encInt l)) :=
  (ints_any ao n c l wk h hR hT).mono fun _ _ h => gives_on hb h
theorem ux_rints {l : List Int} (h : SlV wk ao n c 1 (l.map iv)) (hR : ∀ x ∈ l, InR x) (hT : (encL encInt l).length ≤ 1000000000000) : Calls Try.prog 25 #[.slice ao n c] wk (Ns W wk (encL encInt l).length (encL encInt l)) :=
  (rints_any ao n c l wk h hR hT).mono fun _ _ h => gives_on hb h
theorem ux_strs {l : List ByteArray} (h : SlV wk ao n c 1 (l.map Value.string)) (hT : (encL encBytes l).length ≤ 1000000000000) : Calls Try.prog 26 #[.slice ao n c] wk (Ns W wk (encL encBytes l).length (encL encBytes l)) :=
  (strs_any ao n c l wk h hT).mono fun _ _ h => gives_on hb h
theorem ux_rstrs {l : List ByteArray} (h : SlV wk ao n c 1 (l.map Value.string)) (hT : (encL encBytes l).length ≤ 1000000000000) : Calls Try.prog 27 #[.slice ao n c] wk (Ns W wk (encL encBytes l).length (encL encBytes l)) :=
  (rstrs_any ao n c l wk h hT).mono fun _ _ h => gives_on hb h
theorem ux_digs {l : List (List UInt8)} (h : SlV wk ao n c 16 (dvs l)) (hd : Digs l) (hT : (encL id l).length ≤ 1000000000000) : Calls Try.prog 28 #[.slice ao n c] wk (Ns W wk (encL id l).length (encL id l)) :=
  (digs_any ao n c l wk h hd hT).mono fun _ _ h => gives_on hb h
theorem ux_rdigs {l : List (List UInt8)} (h : SlV wk ao n c 16 (dvs l)) (hd : Digs l) (hT : (encL id l).length ≤ 1000000000000) : Calls Try.prog 29 #[.slice ao n c] wk (Ns W wk (encL id l).length (encL id l)) :=
  (rdigs_any ao n c l wk h hd hT).mono fun _ _ h => gives_on hb h
theorem ux_few {l : List ByteArray} (h : SlV wk ao n c 1 (l.map Value.string)) (hB : bulk l ≤ 9223372036854775807) : Calls Try.prog 17 #[.slice ao n c] wk (Nx W wk (.bool (decide (bulk l ≤ 2000)))) :=
  (few_any ao n c l wk h hB _ rfl).mono fun _ _ h => looks_on hb h
end encoders

end Go.Proofs.Ytcpemgfpiapaaaa
