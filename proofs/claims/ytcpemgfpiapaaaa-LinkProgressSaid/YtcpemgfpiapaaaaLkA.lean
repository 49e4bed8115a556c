/- The plain seal of layer 40 (link), its detection of one changed byte, and the opening of sealed bytes; no program in sight. The seal of layer 40, of the program and of the reference. link.seal, which makes the seal in an array. -/
import Derived.Test.YtcpemgfpiapaaaaDec
import Derived.Test.YtcpemgfpiapaaaaApG
import Derived.Laws.Bits64
import Derived.Test.YtcpemgfpiapaaaaDecD
import Derived.Deep.MidRow
import Derived.Lib.EndianMore
namespace Go.Proofs.Ytcpemgfpiapaaaa

def fnvStep (h : Nat) (c : UInt8) : Nat := (h ^^^ c.toNat) * 1099511628211 % 18446744073709551616
def fnv0 (key : Nat) : Nat := 14695981039346656037 ^^^ key
def fnv (key : Nat) (l : List UInt8) : Nat := l.foldl fnvStep (fnv0 key)

/-- Sealed bytes. -/
def sealB (key : Nat) (l : List UInt8) : List UInt8 := l ++ le (fnv key l) 8

theorem xor_lt64 {a b : Nat} (ha : a < 18446744073709551616) (hb : b < 18446744073709551616) : a ^^^ b < 18446744073709551616 := by
  have := Nat.xor_lt_two_pow (n := 64) (x := a) (y := b) (by simpa using ha) (by simpa using hb)
  simpa using this

theorem fnv0_lt {key : Nat} (h : key < 18446744073709551616) : fnv0 key < 18446744073709551616 := xor_lt64 (by decide) h

theorem fnvStep_lt (h : Nat) (c : UInt8) : fnvStep h c < 18446744073709551616 := Nat.mod_lt _ (by decide)

theorem foldl_lt (l : List UInt8) : ∀ {h : Nat}, h < 18446744073709551616 → l.foldl fnvStep h < 18446744073709551616 := by
  induction l with
  | nil => intro h hh; exact hh
  | cons c l ih => intro h _; exact ih (fnvStep_lt h c)

theorem fnv_lt {key : Nat} (h : key < 18446744073709551616) (l : List UInt8) : fnv key l < 18446744073709551616 := foldl_lt l (fnv0_lt h)

/-- The factor is odd: multiplication by it is one to one. -/
theorem mul_inj {a b : Nat} (ha : a < 18446744073709551616) (hb : b < 18446744073709551616) (h : a * 1099511628211 % 18446744073709551616 = b * 1099511628211 % 18446744073709551616) : a = b := by
  have e : ∀ x : Nat, x < 18446744073709551616 → (x * 1099511628211 % 18446744073709551616) * 14886173955864302971 % 18446744073709551616 = x := by
    intro x hx
    rw [Nat.mod_mul_mod, Nat.mul_assoc, Nat.mul_mod, show 1099511628211 * 14886173955864302971 % 18446744073709551616 = 1 by decide, Nat.mul_one, Nat.mod_mod, Nat.mod_eq_of_lt hx]
  rw [← e a ha, ← e b hb, h]

theorem xor_cancel {a b c : Nat} (h : a ^^^ c = b ^^^ c) : a = b := by
  have : (a ^^^ c) ^^^ c = (b ^^^ c) ^^^ c := by rw [h]
  simpa [Nat.xor_assoc] using this

theorem xor_cancel' {a b c : Nat} (h : c ^^^ a = c ^^^ b) : a = b := xor_cancel (c := c) (by rw [Nat.xor_comm a, Nat.xor_comm b, h])

theorem byte_lt (c : UInt8) : c.toNat < 18446744073709551616 := by have := c.toNat_lt; omega

theorem step_inj_h {h h' : Nat} {c : UInt8} (hh : h < 18446744073709551616) (hh' : h' < 18446744073709551616) (e : fnvStep h c = fnvStep h' c) : h = h' :=
  xor_cancel (mul_inj (xor_lt64 hh (byte_lt c)) (xor_lt64 hh' (byte_lt c)) e)

theorem step_inj_c {h : Nat} {c c' : UInt8} (hh : h < 18446744073709551616) (e : fnvStep h c = fnvStep h c') : c = c' :=
  UInt8.toNat_inj.1 (xor_cancel' (mul_inj (xor_lt64 hh (byte_lt c)) (xor_lt64 hh (byte_lt c')) e))

theorem foldl_inj (l : List UInt8) : ∀ {h h' : Nat}, h < 18446744073709551616 → h' < 18446744073709551616 → l.foldl fnvStep h = l.foldl fnvStep h' → h = h' := by
  induction l with
  | nil => intro h h' _ _ e; exact e
  | cons c l ih =>
    intro h h' hh hh' e
    exact step_inj_h hh hh' (ih (fnvStep_lt h c) (fnvStep_lt h' c) e)

/-- One byte turned: another hash. -/
theorem fnv_turned {key : Nat} (hk : key < 18446744073709551616) (a : List UInt8) (c c' : UInt8) (b : List UInt8) (hc : c ≠ c') : fnv key (a ++ c :: b) ≠ fnv key (a ++ c' :: b) := by
  intro e
  unfold fnv at e
  rw [List.foldl_append, List.foldl_append, List.foldl_cons, List.foldl_cons] at e
  have := foldl_inj b (fnvStep_lt _ c) (fnvStep_lt _ c') e
  exact hc (step_inj_c (foldl_lt a (fnv0_lt hk)) this)

theorem le_eq_be (m k : Nat) : le m k = (be m k).reverse := by
  induction k with
  | zero => rfl
  | succ k ih => simp [le, be, ih]

theorem le_inj {a b : Nat} (ha : a < 18446744073709551616) (hb : b < 18446744073709551616) (h : le a 8 = le b 8) : a = b := by
  rw [le_eq_be, le_eq_be, List.reverse_inj] at h
  rw [← val_be a 8 (by simpa using ha), ← val_be b 8 (by simpa using hb), h]

/-- What is opened: the bytes and the error. -/
def openB (key : Nat) (x : List UInt8) : List UInt8 × Int :=
  if x.length < 8 then ([], 2) else if le (fnv key (x.take (x.length - 8))) 8 = x.drop (x.length - 8) then (x.take (x.length - 8), 0) else ([], 9)

theorem sealB_length (key : Nat) (l : List UInt8) : (sealB key l).length = l.length + 8 := by simp [sealB]

theorem open_seal (key : Nat) (l : List UInt8) : openB key (sealB key l) = (l, 0) := by
  unfold openB
  rw [sealB_length, if_neg (by omega), Nat.add_sub_cancel]
  unfold sealB
  rw [List.take_left, List.drop_left, if_pos rfl]

/-- One byte turned: refused. -/
theorem open_turned {key : Nat} (hk : key < 18446744073709551616) (l : List UInt8) {k : Nat} (c : UInt8) (h : k < (sealB key l).length) (hc : (sealB key l)[k] ≠ c) : openB key ((sealB key l).set k c) = ([], 9) := by
  have hlen := sealB_length key l
  unfold openB
  rw [List.length_set, hlen, if_neg (by omega), Nat.add_sub_cancel, if_neg]
  intro e
  by_cases hk2 : k < l.length
  · have e1 : ((sealB key l).set k c).take l.length = l.set k c := by
      rw [List.take_set]
      unfold sealB
      rw [List.take_left]
    have e2 : ((sealB key l).set k c).drop l.length = le (fnv key l) 8 := by
      rw [List.drop_set, if_pos hk2]
      unfold sealB
      rw [List.drop_left]
    rw [e1, e2] at e
    have hl : l = l.take k ++ l[k] :: l.drop (k + 1) := by rw [List.getElem_cons_drop, List.take_append_drop]
    have hs : l.set k c = l.take k ++ c :: l.drop (k + 1) := by rw [List.set_eq_take_append_cons_drop, if_pos hk2]
    have hx : (sealB key l)[k] = l[k] := List.getElem_append_left hk2
    rw [hx] at hc
    have := le_inj (fnv_lt hk _) (fnv_lt hk _) e
    rw [hs] at this
    have h3 := fnv_turned hk (l.take k) c l[k] (l.drop (k + 1)) (fun e => hc e.symm)
    rw [← hl] at h3
    exact h3 this
  · have e1 : ((sealB key l).set k c).take l.length = l := by
      rw [List.take_set_of_le (by omega)]
      unfold sealB
      rw [List.take_left]
    have e2 : ((sealB key l).set k c).drop l.length = (le (fnv key l) 8).set (k - l.length) c := by
      rw [List.drop_set, if_neg hk2]
      unfold sealB
      rw [List.drop_left]
    rw [e1, e2] at e
    have hj : k - l.length < (le (fnv key l) 8).length := by simp; omega
    have hx : (sealB key l)[k] = (le (fnv key l) 8)[k - l.length] := List.getElem_append_right (by omega)
    have h3 : (le (fnv key l) 8)[k - l.length] = c := by
      have h4 : (le (fnv key l) 8)[k - l.length]? = ((le (fnv key l) 8).set (k - l.length) c)[k - l.length]? := by rw [← e]
      rw [List.getElem?_set_self hj, List.getElem?_eq_getElem hj] at h4
      exact Option.some.inj h4
    rw [hx] at hc
    exact hc h3

end Go.Proofs.Ytcpemgfpiapaaaa

namespace Go.Proofs.Ytcpemgfpiapaaaa
open Go.RowKit

theorem step_xor {H : Nat} (hH : H < 18446744073709551616) (c : UInt8) : bits BinOp.xor IntKind.u64 (H : Int) (c.toNat : Int) = ((H ^^^ c.toNat : Nat) : Int) := bits_xor_u64_nat _ _ hH (byte_lt c)

theorem step_mul (H : Nat) (c : UInt8) : IntKind.u64.wrap (((H ^^^ c.toNat : Nat) : Int) * 1099511628211) = (fnvStep H c : Int) := by
  rw [IntKind.wrap_u64]; unfold fnvStep; omega

theorem step_all {H : Nat} (hH : H < 18446744073709551616) (c : UInt8) : IntKind.u64.wrap (bits BinOp.xor IntKind.u64 (H : Int) (IntKind.u64.wrap (c.toNat : Int)) * 1099511628211) = (fnvStep H c : Int) := by
  rw [show IntKind.u64.wrap (c.toNat : Int) = (c.toNat : Int) from by rw [IntKind.wrap_u64]; have := c.toNat_lt; omega, step_xor hH, step_mul]

theorem start_xor {key : Nat} (hk : key < 18446744073709551616) : bits BinOp.xor IntKind.u64 14695981039346656037 (key : Int) = (fnv0 key : Int) := by
  have := bits_xor_u64_nat 14695981039346656037 key (by omega) hk
  rw [show ((14695981039346656037 : Nat) : Int) = 14695981039346656037 from by omega] at this
  exact this

theorem fnv_next {key : Nat} {l : List UInt8} {k : Nat} (h : k < l.length) {c : UInt8} (hc : Hid (l[k] = c)) {H : Nat} (hH : Hid (fnv key (l.take k) = H)) : Hid (fnv key (l.take (k + 1)) = fnvStep H c) := by
  show _ = _
  rw [List.take_succ_eq_append_getElem h, hc.out, ← hH.out]
  unfold fnv
  rw [List.foldl_append, List.foldl_cons, List.foldl_nil]

theorem own_zero (w : World) (B : Nat) (hB : B ≤ w.heap.size) : OwnB (w.alloc (.cells #[] 5)) B (some ⟨w.heap.size, 0, none⟩) 0 [] :=
  ⟨rfl, .inr ⟨w.heap.size, 0, #[], rfl, hB, heap_alloc_new w _, Nat.le_refl _, by unfold maxLen; omega, rfl, rfl⟩⟩

theorem digit_bv (Q : Nat) : Value.int .u8 ((Q : Int) % 256) = bv (UInt8.ofNat (Q % 256)) := by
  unfold bv
  congr 1
  simp

theorem sl_byte (w : World) (Q : Nat) : SlV (w.alloc (.cells #[.int .u8 ((Q : Int) % 256)] 5)) (some ⟨w.heap.size, 0, none⟩) 1 1 1 (bvs [UInt8.ofNat (Q % 256)]) := by
  have := sl_new w (.int .u8 ((Q : Int) % 256)) 5
  rw [digit_bv] at this ⊢
  exact this

theorem le_more {D l : List UInt8} {H j Q : Nat} (hD : Hid (D = l ++ le H j)) (hQ : Hid (Q = H / 256 ^ j)) : Hid (D ++ [UInt8.ofNat (Q % 256)] = l ++ le H (j + 1)) := by
  show _ = _
  rw [hD.out, hQ.out, le, List.append_assoc]

theorem q_next {H j Q : Nat} (hQ : Hid (Q = H / 256 ^ j)) : Hid (Q / 256 = H / 256 ^ (j + 1)) := by
  show _ = _
  rw [hQ.out, div_pow_succ]

set_option maxHeartbeats 400000 in
/-- dioramaref40.Seal. -/
theorem rseal_any (key : Nat) (hk : key < 18446744073709551616) (ao : Option Addr) (n c : Nat) (l : List UInt8) (w : World) (hr : SlV w ao n c 1 (bvs l)) (hn : n ≤ 1000000000000) :
    Calls Try.prog 48 #[.int .u64 (key : Int), .slice ao n c] w (GivesB w (sealB key l)) := by
  have l1 : Hid (l.length = n) := Lib.hid (by have := hr.len; simpa using this)
  have hx0 := start_xor hk
  have hH0 : Hid (fnv key (l.take 0) = fnv0 key) := Lib.hid rfl
  have hlt0 := fnv0_lt hk
  go_enter Try.func48, Try.ntmps48
  go_wp2
  go_loopw [5, 6] (fun h i wr => ∃ (k H : Nat), k ≤ n ∧ H < 18446744073709551616 ∧ i = .int .i64 k ∧ h = .int .u64 (H : Int) ∧ w = wr ∧ Hid (fnv key (l.take k) = H)) (fun _ i _ => n - (intOf i).toNat)
  case atStart => exact ⟨0, _, by omega, hlt0, rfl, rfl, rfl, hH0⟩
  case round =>
    clear hx0 hH0 hlt0
    obtain ⟨k, H, hk1, hlt, rfl, rfl, rfl, hH⟩ := hrel
    by_cases hkn : k < n
    · obtain ⟨a, rfl⟩ := hr.has (by omega)
      have q1 : k < l.length := by rw [l1.out]; exact hkn
      obtain ⟨x, hx⟩ : ∃ x, Hid (l[k] = x) := ⟨_, Lib.hid rfl⟩
      have e1 : w.cell? (a.add k) = some (.int .u8 (x.toNat : Int)) := hr.cell a rfl k (bv x) (by rw [← hx.out]; simp [bvs, q1])
      have HN := fnv_next q1 hx hH
      have s1 := step_all hlt x
      have hlt' := fnvStep_lt H x
      clear q1 hx
      go_wp2
      go_roundw
      case rel => exact ⟨k + 1, _, by omega, hlt', by go_num, rfl, trivial, HN⟩
      case measure => simp [intOf]; omega
    · obtain rfl : k = n := by omega
      have hHl : Hid (fnv key l = H) := by
        show _ = _
        have := hH.out
        rwa [List.take_of_length_le (by rw [l1.out]; exact Nat.le_refl _)] at this
      clear hH
      have s0 := True.intro
      have hF := fnv_lt hk l
      rw [hHl.out] at hF
      have F0 : Hid (H = H / 256 ^ 0) := Lib.hid (by simp)
      go_wp2_with (first
        | (clear s0; at_builtin; refine ap_bytes rfl (.tmp 25) (.tmp 26) rfl w.heap.size _ _ [] l _ rfl rfl (own_zero w _ (Nat.le_refl _)) _ _ _ l1.out.symm rfl (by rw [l1.out]; exact hr.below ((Below.refl _ _).alloc (Nat.le_refl _) _) (Nat.le_refl _)) (by rw [l1.out]; simp; omega) (by simp) ?_; intro ao3 cap3 w2 ho3 hb3; have s1 := True.intro))
      replace hb3 := ((Below.refl w.heap.size w).alloc (Nat.le_refl _) _).trans hb3
      go_loopw [5, 7, 8] (fun h v i wr => ∃ (j Q : Nat) (ao4 : Option Addr) (cap4 : Nat) (D : List UInt8), j ≤ 8 ∧ i = .int .i64 j ∧ h = .int .u64 (Q : Int) ∧ Hid (Q = H / 256 ^ j) ∧ Q < 18446744073709551616 ∧ v = .slice ao4 D.length cap4 ∧ D.length = k + j ∧ OwnB wr w.heap.size ao4 cap4 D ∧ Hid (D = l ++ le H j) ∧ Below w.heap.size w wr) (fun _ _ i _ => 8 - (intOf i).toNat)
      case atStart => exact ⟨0, H, ao3, cap3, _, by omega, rfl, rfl, F0, hlt, rfl, by simp [l1.out], ho3, Lib.hid (by simp [le]), hb3⟩
      case round =>
        clear ho3 hb3 F0
        obtain ⟨j, Q, ao4, cap4, D, hj, rfl, rfl, hQ, hQ2, rfl, hDl, ho, hD, hb⟩ := hrel
        by_cases hlt8 : j < 8
        · have hbs := hb.size
          have hsn := sl_byte wr Q
          have ho' : OwnB (wr.alloc (.cells #[.int .u8 ((Q : Int) % 256)] 5)) w.heap.size ao4 cap4 D := ho.alloc _
          have hD' := le_more hD hQ
          have hQ' := q_next hQ
          have hQ2' : Q / 256 < 18446744073709551616 := by omega
          have s0 := True.intro
          go_wp2_with (first | (clear s0; at_builtin; refine ap_bytes rfl (.tmp 32) (.tmp 36) rfl w.heap.size _ _ D [UInt8.ofNat (Q % 256)] _ rfl rfl ho' _ 1 1 rfl rfl hsn (by rw [hDl]; simp; omega) (by simp; omega) ?_; intro ao5 cap5 w5 ho5 hb5; have s1 := True.intro))
          go_roundw
          case rel => exact ⟨j + 1, Q / 256, ao5, cap5, D ++ [UInt8.ofNat (Q % 256)], by omega, by go_num, by go_num, hQ', hQ2', by simp [hDl], by simp only [List.length_append, List.length_singleton]; omega, ho5, hD', (hb.alloc hbs _).trans hb5⟩
          case measure => simp [intOf]; omega
        · obtain rfl : j = 8 := by omega
          go_wp2
          go_ret
          have e : D = sealB key l := by rw [hD.out, ← hHl.out]; rfl
          subst e
          exact ⟨ao4, cap4, rfl, ho, hb⟩

end Go.Proofs.Ytcpemgfpiapaaaa

namespace Go.Proofs.Ytcpemgfpiapaaaa
open Go.RowKit

theorem Try.zero95 : (Try.prog.info? 95).map (fun i => (i.zero, i.size, i.bytes)) = some (some (.agg (Array.replicate 8 (.int .u8 0))), 8, 8) := by kernel_rfl
theorem Try.size95 : (Try.prog.info? 95).map (·.size) = some 8 := by kernel_rfl

theorem rangeAt_in {w : World} {b : Nat} {l : List UInt8} (ht : w.there b 0 (bvs l).toArray.size) : ∀ j u, (bvs l)[j]? = some u → (w.setCells b 0 (bvs l)).cell? ((⟨b, 0, none⟩ : Addr).add j) = some u := by
  intro j u hj
  have hjl := (List.getElem?_eq_some_iff.1 hj).1
  rw [Addr.add_mid, World.cell?_setCells_in b _ 0 w (fun j hj => (ht j (by simpa using hj)).1) j hjl, ← hj, List.getElem?_eq_getElem hjl]

/-- What the named result, an array, is read as. -/
theorem run_res95 {w : World} {a : Act} {b : Nat} (l : List UInt8) (hl : l.length = 8) (hx : a.tmps[4]? = some (.pointer (some ⟨b, 0, none⟩))) (hc : ∀ j u, (bvs l)[j]? = some u → w.cell? ((⟨b, 0, none⟩ : Addr).add j) = some u) :
    (results Try.f67 a.tmps).run Try.prog w = .ok (.agg (bvs l).toArray) w := by
  have hv := run_loadVar_mid (P := Try.prog) w b 0 95 (bvs l) _ (fun j v hj => by have := hc j v hj; rwa [Addr.add_mid] at this) Try.underlying95 rfl (by rw [bvs_length, hl]; exact Try.size95)
  unfold results
  simp [asAddr, hx, hv]

theorem digit_shr (H q : Nat) : Value.int .u8 ((H : Int) / 2 ^ (8 * q) % 256) = bv (UInt8.ofNat (H / 256 ^ q % 256)) := by
  unfold bv
  congr 1
  rw [pow_cast, ← Int.natCast_ediv]
  simp

theorem le_fill {H q : Nat} {A : Array Value} {F : Nat} (_ : Hid (F = H)) (hA : A.size = 8) (hq : q < 8) (hT : Hid (A.toList.take q = bvs (le H q))) : Hid ((A.setIfInBounds q (.int .u8 ((H : Int) / 2 ^ (8 * q) % 256))).toList.take (q + 1) = bvs (le H (q + 1))) := by
  show _ = _
  rw [digit_shr, le, bvs_append, Array.toList_setIfInBounds, List.take_succ_eq_append_getElem (by rw [List.length_set]; simp; omega), List.take_set_of_le (Nat.le_refl _), hT.out, List.getElem_set_self]
  rfl

set_option maxRecDepth 20000 in
set_option maxHeartbeats 800000 in
theorem seal_any (key : Nat) (hk : key < 18446744073709551616) (ao : Option Addr) (n c : Nat) (l : List UInt8) (w : World) (hr : SlV w ao n c 1 (bvs l)) (hn : n ≤ 1000000000000) :
    Calls Try.prog 67 #[.int .u64 (key : Int), .slice ao n c] w (fun e w' => e = .returned (.agg (bvs (le (fnv key l) 8)).toArray) ∧ Below w.heap.size w w') := by
  have l1 : Hid (l.length = n) := Lib.hid (by have := hr.len; simpa using this)
  have hx0 := start_xor hk
  have hH0 : Hid (fnv key (l.take 0) = fnv0 key) := Lib.hid rfl
  have hlt0 := fnv0_lt hk
  obtain ⟨W4, hW4⟩ : ∃ W4, W4 = w.alloc (.cells #[.int .u8 0, .int .u8 0, .int .u8 0, .int .u8 0, .int .u8 0, .int .u8 0, .int .u8 0, .int .u8 0] 95) := ⟨_, rfl⟩
  have hb4 : Below w.heap.size w W4 := by rw [hW4]; exact (Below.refl _ w).alloc (Nat.le_refl _) _
  have hs4 : W4.heap.size = w.heap.size + 1 := by rw [hW4]; simp
  have row := heap_alloc_new w (.cells #[.int .u8 0, .int .u8 0, .int .u8 0, .int .u8 0, .int .u8 0, .int .u8 0, .int .u8 0, .int .u8 0] 95)
  rw [← hW4] at row
  have hr4 := hr.below hb4 (Nat.le_refl _)
  go_enter Try.func67, Try.ntmps67
  go_wp2
  rw [← hW4]
  clear hW4
  go_loopw [5, 7, 14] (fun h _ i wr => ∃ (k H : Nat), k ≤ n ∧ H < 18446744073709551616 ∧ i = .int .i64 k ∧ h = .int .u64 (H : Int) ∧ W4 = wr ∧ Hid (fnv key (l.take k) = H)) (fun _ _ i _ => n - (intOf i).toNat)
  case atStart => exact ⟨0, _, by omega, hlt0, rfl, rfl, rfl, hH0⟩
  case round =>
    clear hx0 hH0 hlt0
    obtain ⟨k, H, hk1, hlt, rfl, rfl, rfl, hH⟩ := hrel
    by_cases hkn : k < n
    · obtain ⟨a, rfl⟩ := hr.has (by omega)
      have q1 : k < l.length := by rw [l1.out]; exact hkn
      obtain ⟨x, hx⟩ : ∃ x, Hid (l[k] = x) := ⟨_, Lib.hid rfl⟩
      have e1 : W4.cell? (a.add k) = some (.int .u8 (x.toNat : Int)) := hr4.cell a rfl k (bv x) (by rw [← hx.out]; simp [bvs, q1])
      have HN := fnv_next q1 hx hH
      have s1 := step_all hlt x
      have hlt' := fnvStep_lt H x
      clear q1 hx
      go_wp2
      go_roundw
      case rel => exact ⟨k + 1, _, by omega, hlt', by go_num, rfl, trivial, HN⟩
      case measure => simp [intOf]; omega
    · obtain rfl : k = n := by omega
      have hHl : Hid (fnv key l = H) := by
        show _ = _
        have := hH.out
        rwa [List.take_of_length_le (by rw [l1.out]; exact Nat.le_refl _)] at this
      clear hH
      go_wp2
      go_loopw [9, 24] (fun _ x wx => ∃ (r : Nat) (A : Array Value), r ≤ 8 ∧ x = .int .i64 r ∧ wx = W4.alloc (.cells A 95) ∧ A.size = 8 ∧ Hid (A.toList.take r = bvs (le H r))) (fun _ x _ => 8 - (intOf x).toNat)
      case atStart => exact ⟨0, _, by omega, rfl, rfl, by simp, by simp [Hid, bvs, le]⟩
      case round =>
        obtain ⟨q, A, hq, rfl, rfl, hA, hT⟩ := hrel
        by_cases hlq : q < 8
        · have HA := Lib.hid hA
          have hrA : q < A.size := by omega
          have e2 : (W4.alloc (.cells A 95)).cell? ⟨W4.heap.size, q, none⟩ = some A[q] := by
            rw [cell_of_row _ _ _ _ _ _ (heap_alloc_last W4 _)]; exact Array.getElem?_eq_getElem hrA
          have hN := le_fill hHl hA hlq hT
          have hA2 : (A.setIfInBounds q (.int .u8 ((H : Int) / 2 ^ (8 * q) % 256))).size = 8 := by simp [hA]
          clear hA
          go_wp2
          go_roundw
          case rel => exact ⟨q + 1, _, by omega, by go_num, rfl, hA2, hN⟩
          case measure => simp [intOf]; omega
        · obtain rfl : q = 8 := by omega
          have hAd : A = (bvs (le H 8)).toArray := toArray_of (by
            have := hT.out
            rw [List.take_of_length_le (by simp [hA])] at this
            exact this)
          subst hAd
          clear hT hA
          have row2 : (W4.alloc (.cells (bvs (le H 8)).toArray 95)).heap[w.heap.size]? = _ := (Below.heap_alloc W4 _ w.heap.size (by omega)).trans row
          have ht : (W4.alloc (.cells (bvs (le H 8)).toArray 95)).there w.heap.size 0 (bvs (le H 8)).toArray.size := by
            intro j hj
            have hj8 : j < 8 := by simpa using hj
            refine ⟨?_, by simp [World.frozen?, row2]⟩
            rw [cell_of_row _ _ _ _ _ _ row2, Array.getElem?_eq_getElem (by simp; omega)]
            rfl
          have hone : (bvs (le H 8)).toArray.all (·.oneCell') = true := by
            rw [Array.all_eq_true_iff_forall_mem]
            intro u hu
            exact bvs_one _ u (by simpa using hu)
          have hsl := sl_row W4 (le H 8) 95 (by simp)
          have hend := rangeAt_in ht
          go_wp2_with (first
            | (refine ld_arr rfl 95 (.tmp 8) rfl _ rfl 8 Try.underlying95 Try.size95 (le H 8) (by simp) (hsl.cell _ (by rw [hs4])) ?_)
            | (refine wpList_store_mid rfl 95 (.tmp 4) (.tmp 35) rfl w.heap.size 0 _ rfl rfl ht (by simpa using Try.size95) hone ?_))
          refine ⟨rfl, _, run_res95 (le H 8) (by simp) rfl hend, ?_, ?_⟩
          · rw [hHl.out]
          · exact (hb4.alloc hb4.size _).trans (Lib.below_setCells_w (Nat.le_refl _) _ _ _)

end Go.Proofs.Ytcpemgfpiapaaaa
