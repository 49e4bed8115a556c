/- WireTruncated: the walk. -/
import Derived.Test.YtcpemgfpiapaaaaUse
import Derived.Test.YtcpemgfpiapaaaaBnd
import Derived.Test.YtcpemgfpiapaaaaTrunc
import Derived.Test.YtcpemgfpiapaaaaGd
import Derived.Test.YtcpemgfpiapaaaaArg
namespace Go.Proofs.Ytcpemgfpiapaaaa
open Go.RowKit

set_option maxRecDepth 100000 in
theorem law11_big (x : Int) (s : ByteArray) (a2 : Option Addr) (n2 c2 : Nat) (a3 : Option Addr) (n3 c3 : Nat) (a4 : Option Addr) (n4 c4 : Nat) (w : World) (hs : s.size ≤ 140737488351232) (h2 : n2 ≤ 140737488351232) (h4 : n4 ≤ 140737488351232) (hsum : 400 < s.size + 9 * n2 + 16 * n4) :
    Calls Try.prog 11 #[.int .i64 x, .string s, .slice a2 n2 c2, .slice a3 n3 c3, .slice a4 n4 c4] w (Nx w w (.bool true)) := by
  have hb := Below.refl w.heap.size w
  have s0 := True.intro
  go_enter Try.func11, Try.ntmps11
  go_wp2_with (first
    | (clear s0; go_at_call 18; refine (ux_san hb).mono ?_; rintro e w1 ⟨rfl, hb1, hk⟩; have s1 := True.intro))
  go_ret
  exact ⟨rfl, hb1, hb1⟩

set_option maxRecDepth 100000 in
theorem law11_forty (x : Int) (s : ByteArray) (a2 : Option Addr) (n2 c2 : Nat) (a3 : Option Addr) (n3 c3 : Nat) (a4 : Option Addr) (n4 c4 : Nat) (w : World) (hsum : s.size + 9 * n2 + 16 * n4 ≤ 400) (h3 : 40 < n3) :
    Calls Try.prog 11 #[.int .i64 x, .string s, .slice a2 n2 c2, .slice a3 n3 c3, .slice a4 n4 c4] w (Nx w w (.bool true)) := by
  have hb := Below.refl w.heap.size w
  have s0 := True.intro
  go_enter Try.func11, Try.ntmps11
  go_wp2_with (first
    | (clear s0; go_at_call 18; refine (ux_san hb).mono ?_; rintro e w1 ⟨rfl, hb1, hk⟩; have s1 := True.intro))
  go_ret
  exact ⟨rfl, hb1, hb1⟩

set_option maxRecDepth 100000 in
theorem law11_few (x : Int) (s : ByteArray) (a2 : Option Addr) (n2 c2 : Nat) (a3 : Option Addr) (n3 c3 : Nat) (a4 : Option Addr) (n4 c4 : Nat) (l3 : List ByteArray) (w : World) (d3 : SlV w a3 n3 c3 1 (l3.map Value.string)) (hB : bulk l3 ≤ 9223372036854775807) (hsum : s.size + 9 * n2 + 16 * n4 ≤ 400) (h3 : n3 ≤ 40) (hf : Hid (decide (bulk l3 ≤ 2000) = false)) :
    Calls Try.prog 11 #[.int .i64 x, .string s, .slice a2 n2 c2, .slice a3 n3 c3, .slice a4 n4 c4] w (Nx w w (.bool true)) := by
  have hb := Below.refl w.heap.size w
  have s0 := True.intro
  go_enter Try.func11, Try.ntmps11
  go_wp2_with (first
    | (clear s0; go_at_call 17; refine (ux_few hb d3 hB).mono ?_; rw [hf.out]; rintro e w1 ⟨rfl, hb1, hk⟩; replace hb := hb1; clear hb1 hk; have s1 := True.intro)
    | (clear s1; go_at_call 18; refine (ux_san hb).mono ?_; rintro e w1 ⟨rfl, hb1, hk⟩; have s2 := True.intro))
  go_ret
  exact ⟨rfl, hb1, hb1⟩

/-- Every proper part at the beginning of E wants more, for the decoder number k. -/
def Bad (k : Nat) (E : List UInt8) : Prop := ∀ i, i < E.length → (match k with
  | 0 => (decInt (E.take i)).2.2
  | 1 => (decBytes (E.take i)).2.2
  | 2 => (decList 1 decInt (E.take i)).2.2
  | 3 => (decList 1 decBytes (E.take i)).2.2
  | _ => (decList 16 decDig (E.take i)).2.2) = 3

/-- One of the five encodings. -/
def Sel (w : World) (P k : Nat) : Prop := ∃ a L c E, w.cell? ⟨P, k, none⟩ = some (.slice a L c) ∧ SlV w a L c 1 (bvs E) ∧ E.length = L ∧ L ≤ 100000 ∧ Bad k E

theorem sl_take {w : World} {ao : Option Addr} {n c m : Nat} {l : List UInt8} (h : SlV w ao n c 1 ((bvs l).take (m * 1))) : SlV w ao n c 1 (bvs (l.take m)) := by
  simpa [bvs] using h

set_option maxRecDepth 100000 in
set_option maxHeartbeats 1000000 in
theorem law11_small (x : Int) (s : ByteArray) (a2 : Option Addr) (n2 c2 : Nat) (a3 : Option Addr) (n3 c3 : Nat) (a4 : Option Addr) (n4 c4 : Nat) (l2 : List Int) (l3 : List ByteArray) (l4 : List (List UInt8)) (w : World) (hx : InR x) (d2 : SlV w a2 n2 c2 1 (l2.map iv)) (hR : ∀ x ∈ l2, InR x) (d3 : SlV w a3 n3 c3 1 (l3.map Value.string)) (d4 : SlV w a4 n4 c4 16 (dvs l4)) (G : Digs l4)
    (hB : bulk l3 ≤ 9223372036854775807) (hsum : s.size + 9 * n2 + 16 * n4 ≤ 400) (h3 : n3 ≤ 40) (hf : Hid (decide (bulk l3 ≤ 2000) = true)) :
    Calls Try.prog 11 #[.int .i64 x, .string s, .slice a2 n2 c2, .slice a3 n3 c3, .slice a4 n4 c4] w (Nx w w (.bool true)) := by
  have q2 : l2.length = n2 := by have := d2.len; simpa using this
  have q4 : l4.length = n4 := by have := d4.len; rw [dvs_length G] at this; omega
  have q3 : bulk l3 ≤ 2000 := of_decide_eq_true hf.out
  have q5 : l3.length ≤ bulk l3 := by unfold bulk; omega
  have T0 := (encInt_len x).2
  have T1 := encBytes_len s
  have T2 := encInts_le l2
  have T3 := encStrs_le l3
  have T4 := encDigs_le G
  replace T0 : (encInt x).length ≤ 100000 := by omega
  replace T1 : (encBytes s).length ≤ 100000 := by omega
  replace T2 : (encL encInt l2).length ≤ 100000 := by omega
  replace T3 : (encL encBytes l3).length ≤ 100000 := by omega
  replace T4 : (encL id l4).length ≤ 100000 := by omega
  have T1s : s.size ≤ 1000000000000 := by omega
  have B0 : Bad 0 (encInt x) := fun i hi => by show (decInt ((encInt x).take i)).2.2 = 3; rw [dec_prefix x i hi]
  have B1 : Bad 1 (encBytes s) := fun i hi => bytes_short (by omega) hi
  have B2 : Bad 2 (encL encInt l2) := fun i hi => ints_short hR (by omega) hi
  have B3 : Bad 3 (encL encBytes l3) := fun i hi => strs_short (fun x hx => by have := bulk_mem hx; omega) (by omega) hi
  have B4 : Bad 4 (encL id l4) := fun i hi => digs_short G (by omega) hi
  have q1 : encBytes s = encBytes s := rfl
  clear q2 q3 q4 q5 q1
  have hb := Below.refl w.heap.size w
  have s0 := True.intro
  go_enter Try.func11, Try.ntmps11
  go_wp2_with (first
    | (clear s0; go_at_call 17; refine (ux_few hb d3 hB).mono ?_; rw [hf.out]; rintro e w1 ⟨rfl, hb1, hk⟩; replace hb := hb1; clear hb1 hk; have s1 := True.intro)
    | (clear s1; go_at_call 20; refine (ux_int hb hx).mono ?_; rintro e w1 ⟨pA, qA, rfl, hA, hb1, hk⟩; replace hb := hb1; clear hb1 hk; have s2 := True.intro)
    | (clear s2; go_at_call 22; refine (ux_bytes hb T1s).mono ?_; rintro e w1 ⟨pB, qB, rfl, hB, hb1, hk⟩; replace hA := hA.below hk (Nat.le_refl _); replace hb := hb1; clear hb1 hk; have s3 := True.intro)
    | (clear s3; go_at_call 24; refine (ux_ints hb (d2.below hb (Nat.le_refl _)) hR (by omega)).mono ?_; rintro e w1 ⟨pC, qC, rfl, hC, hb1, hk⟩; replace hA := hA.below hk (Nat.le_refl _); replace hB := hB.below hk (Nat.le_refl _); replace hb := hb1; clear hb1 hk; have s4 := True.intro)
    | (clear s4; go_at_call 26; refine (ux_strs hb (d3.below hb (Nat.le_refl _)) (by omega)).mono ?_; rintro e w1 ⟨pD, qD, rfl, hD, hb1, hk⟩; replace hA := hA.below hk (Nat.le_refl _); replace hB := hB.below hk (Nat.le_refl _); replace hC := hC.below hk (Nat.le_refl _); replace hb := hb1; clear hb1 hk; have s5 := True.intro)
    | (clear s5; go_at_call 28; refine (ux_digs hb (d4.below hb (Nat.le_refl _)) G (by omega)).mono ?_; rintro e w1 ⟨pE, qE, rfl, hE, hb1, hk⟩; replace hA := hA.below hk (Nat.le_refl _); replace hB := hB.below hk (Nat.le_refl _); replace hC := hC.below hk (Nat.le_refl _); replace hD := hD.below hk (Nat.le_refl _); replace hb := hb1; clear hb1 hk; have s6 := True.intro))
  obtain ⟨W1, hW1⟩ : ∃ W1, W1 = w1.alloc (.cells #[.slice pA (encInt x).length qA, .slice pB (encBytes s).length qB, .slice pC (encL encInt l2).length qC, .slice pD (encL encBytes l3).length qD, .slice pE (encL id l4).length qE] 28) := ⟨_, rfl⟩
  rw [← hW1]
  have hk := (Below.refl w1.heap.size w1).alloc (Nat.le_refl _) (.cells #[.slice pA (encInt x).length qA, .slice pB (encBytes s).length qB, .slice pC (encL encInt l2).length qC, .slice pD (encL encBytes l3).length qD, .slice pE (encL id l4).length qE] 28)
  rw [← hW1] at hk
  have hb2 : Below w.heap.size w W1 := hb.trans (hk.mono hb.size)
  have row := heap_alloc_new w1 (.cells #[.slice pA (encInt x).length qA, .slice pB (encBytes s).length qB, .slice pC (encL encInt l2).length qC, .slice pD (encL encBytes l3).length qD, .slice pE (encL id l4).length qE] 28)
  rw [← hW1] at row
  obtain ⟨P, hP⟩ : ∃ P, P = w1.heap.size := ⟨_, rfl⟩
  rw [← hP] at row ⊢
  have sel : ∀ k, k < 5 → Sel W1 P k := by
    intro k hk5
    match k, hk5 with
    | 0, _ => exact ⟨_, _, _, _, by rw [cell_of_row _ _ _ _ _ _ row]; rfl, hA.below hk (Nat.le_refl _), rfl, T0, B0⟩
    | 1, _ => exact ⟨_, _, _, _, by rw [cell_of_row _ _ _ _ _ _ row]; rfl, hB.below hk (Nat.le_refl _), rfl, T1, B1⟩
    | 2, _ => exact ⟨_, _, _, _, by rw [cell_of_row _ _ _ _ _ _ row]; rfl, hC.below hk (Nat.le_refl _), rfl, T2, B2⟩
    | 3, _ => exact ⟨_, _, _, _, by rw [cell_of_row _ _ _ _ _ _ row]; rfl, hD.below hk (Nat.le_refl _), rfl, T3, B3⟩
    | 4, _ => exact ⟨_, _, _, _, by rw [cell_of_row _ _ _ _ _ _ row]; rfl, hE.below hk (Nat.le_refl _), rfl, T4, B4⟩
  have SEL := Lib.hid sel
  clear sel row hP hk hA hB hC hD hE B0 B1 B2 B3 B4 T0 T1 T2 T3 T4 T1s hW1 hb d2 d3 d4 hR G hf
  go_loopw [11, 12, 13, 14, 49, 57] (fun _ _ _ _ i _ wr => ∃ k : Nat, k ≤ 5 ∧ i = .int .i64 k ∧ Below w.heap.size w wr ∧ Below W1.heap.size W1 wr) (fun _ _ _ _ i _ _ => 5 - (intOf i).toNat)
  case atStart => exact ⟨0, by omega, rfl, hb2, Below.refl _ _⟩
  case round =>
    clear hb2
    obtain ⟨k, hk, rfl, hb, hk1⟩ := hrel
    by_cases hlt : k < 5
    · obtain ⟨a, L, c, E, hc, hs, hE, hL, hbad⟩ := SEL.out k hlt
      replace hc := cell_later hk1 hc
      obtain ⟨M, hM⟩ : ∃ M, M = min L 500 := ⟨_, rfl⟩
      go_upto_region 6 with fail
      go_cut [56, 57] (fun v u wx => v = .int .i64 (M : Int) ∧ u = .int .i64 0 ∧ wx = wr)
      case first =>
        go_wp2_with fail
        all_goals (go_meet; exact ⟨by go_num, rfl, rfl⟩)
      case rest =>
        obtain ⟨rfl, rfl, rfl⟩ := hcut
        have hML : M ≤ L := by omega
        clear hM
        go_wp2
        go_loopw [13, 14, 57] (fun _ _ j wx => ∃ t : Nat, t ≤ M ∧ j = .int .i64 t ∧ Below w.heap.size w wx ∧ Below W1.heap.size W1 wx) (fun _ _ j _ => M - (intOf j).toNat)
        case atStart => exact ⟨0, by omega, rfl, hb, hk1⟩
        case round =>
          clear hb hk1 hc
          obtain ⟨t, ht, rfl, hb, hk1⟩ := hrel
          by_cases htl : t < M
          · have hks : k = 0 ∨ k = 1 ∨ k = 2 ∨ k = 3 ∨ k = 4 := by omega
            have hst := hs.below hk1 (Nat.le_refl _)
            clear hs SEL
            have h3 := hbad t (by omega)
            clear hbad
            rcases hks with hk0 | hk0 | hk0 | hk0 | hk0
            · obtain ⟨y, j, e, hd⟩ : ∃ y j e, decInt (E.take t) = (y, j, e) := ⟨_, _, _, rfl⟩
              have he : e = 3 := by subst hk0; rw [← h3]; show e = (decInt (E.take t)).2.2; rw [hd]
              clear h3
              subst he
              have e0 : ((k : Int) == 0) = true := by simp; omega
              clear hk0
              replace hd := Lib.hid hd
              have s0 := True.intro
              go_wp2_with (first
                | (clear s0; refine cut_to rfl 28 (.tmp 72) (.tmp 73) rfl 5 1 Try.underlying28 Try.size5 _ _ _ _ rfl hst t _ rfl rfl (by omega) ?_; intro ao5 hs5; have hs6 := sl_take hs5; clear hs5; have s1 := True.intro)
                | (clear s1; go_at_call 30; refine (ux_getint hb hs6 hd.out).mono ?_; rintro e w2 ⟨rfl, hb1, hk⟩; have hk2 := hk1.trans (hk.mono hk1.size); have s2 := True.intro))
              go_roundw
              case rel => exact ⟨t + 1, by omega, by go_num, hb1, hk2⟩
              case measure => simp [intOf]; omega
            · obtain ⟨y, j, e, hd⟩ : ∃ y j e, decBytes (E.take t) = (y, j, e) := ⟨_, _, _, rfl⟩
              have he : e = 3 := by subst hk0; rw [← h3]; show e = (decBytes (E.take t)).2.2; rw [hd]
              clear h3
              subst he
              have e0 : ((k : Int) == 0) = false := by simp; omega
              have e1 : ((k : Int) == 1) = true := by simp; omega
              clear hk0
              replace hd := Lib.hid hd
              have s0 := True.intro
              go_wp2_with (first
                | (clear s0; refine cut_to rfl 28 (.tmp 82) (.tmp 83) rfl 5 1 Try.underlying28 Try.size5 _ _ _ _ rfl hst t _ rfl rfl (by omega) ?_; intro ao5 hs5; have hs6 := sl_take hs5; clear hs5; have s1 := True.intro)
                | (clear s1; go_at_call 32; refine (ux_getbytes hb hs6 (by omega) hd.out).mono ?_; rintro e w2 ⟨rfl, hb1, hk⟩; have hk2 := hk1.trans (hk.mono hk1.size); have s2 := True.intro))
              go_roundw
              case rel => exact ⟨t + 1, by omega, by go_num, hb1, hk2⟩
              case measure => simp [intOf]; omega
            · obtain ⟨y, j, e, hd⟩ : ∃ y j e, decList 1 decInt (E.take t) = (y, j, e) := ⟨_, _, _, rfl⟩
              have he : e = 3 := by subst hk0; rw [← h3]; show e = (decList 1 decInt (E.take t)).2.2; rw [hd]
              clear h3
              subst he
              have e0 : ((k : Int) == 0) = false := by simp; omega
              have e1 : ((k : Int) == 1) = false := by simp; omega
              have e2 : ((k : Int) == 2) = true := by simp; omega
              clear hk0
              replace hd := Lib.hid hd
              have s0 := True.intro
              go_wp2_with (first
                | (clear s0; refine cut_to rfl 28 (.tmp 92) (.tmp 93) rfl 5 1 Try.underlying28 Try.size5 _ _ _ _ rfl hst t _ rfl rfl (by omega) ?_; intro ao5 hs5; have hs6 := sl_take hs5; clear hs5; have s1 := True.intro)
                | (clear s1; go_at_call 34; refine (ux_getints hb hs6 (by omega) hd.out).mono ?_; rintro e w2 ⟨ya, yc, rfl, hy, hb1, hk⟩; have hk2 := hk1.trans (hk.mono hk1.size); have s2 := True.intro))
              go_roundw
              case rel => exact ⟨t + 1, by omega, by go_num, hb1, hk2⟩
              case measure => simp [intOf]; omega
            · obtain ⟨y, j, e, hd⟩ : ∃ y j e, decList 1 decBytes (E.take t) = (y, j, e) := ⟨_, _, _, rfl⟩
              have he : e = 3 := by subst hk0; rw [← h3]; show e = (decList 1 decBytes (E.take t)).2.2; rw [hd]
              clear h3
              subst he
              have e0 : ((k : Int) == 0) = false := by simp; omega
              have e1 : ((k : Int) == 1) = false := by simp; omega
              have e2 : ((k : Int) == 2) = false := by simp; omega
              have e3 : ((k : Int) == 3) = true := by simp; omega
              clear hk0
              replace hd := Lib.hid hd
              have s0 := True.intro
              go_wp2_with (first
                | (clear s0; refine cut_to rfl 28 (.tmp 102) (.tmp 103) rfl 5 1 Try.underlying28 Try.size5 _ _ _ _ rfl hst t _ rfl rfl (by omega) ?_; intro ao5 hs5; have hs6 := sl_take hs5; clear hs5; have s1 := True.intro)
                | (clear s1; go_at_call 37; refine (ux_getstrs hb hs6 (by omega) hd.out).mono ?_; rintro e w2 ⟨ya, yc, rfl, hy, hb1, hk⟩; have hk2 := hk1.trans (hk.mono hk1.size); have s2 := True.intro))
              go_roundw
              case rel => exact ⟨t + 1, by omega, by go_num, hb1, hk2⟩
              case measure => simp [intOf]; omega
            · obtain ⟨y, j, e, hd⟩ : ∃ y j e, decList 16 decDig (E.take t) = (y, j, e) := ⟨_, _, _, rfl⟩
              have he : e = 3 := by subst hk0; rw [← h3]; show e = (decList 16 decDig (E.take t)).2.2; rw [hd]
              clear h3
              subst he
              have e0 : ((k : Int) == 0) = false := by simp; omega
              have e1 : ((k : Int) == 1) = false := by simp; omega
              have e2 : ((k : Int) == 2) = false := by simp; omega
              have e3 : ((k : Int) == 3) = false := by simp; omega
              clear hk0
              replace hd := Lib.hid hd
              have s0 := True.intro
              go_wp2_with (first
                | (clear s0; refine cut_to rfl 28 (.tmp 62) (.tmp 63) rfl 5 1 Try.underlying28 Try.size5 _ _ _ _ rfl hst t _ rfl rfl (by omega) ?_; intro ao5 hs5; have hs6 := sl_take hs5; clear hs5; have s1 := True.intro)
                | (clear s1; go_at_call 40; refine (ux_getdigs hb hs6 (by omega) hd.out).mono ?_; rintro e w2 ⟨ya, yc, rfl, hy, hb1, hk⟩; have hk2 := hk1.trans (hk.mono hk1.size); have s2 := True.intro))
              go_roundw
              case rel => exact ⟨t + 1, by omega, by go_num, hb1, hk2⟩
              case measure => simp [intOf]; omega
          · obtain rfl : t = M := by omega
            go_wp2
            go_roundw
            case rel => exact ⟨k + 1, by omega, by go_num, hb, hk1⟩
            case measure => simp [intOf]; omega
    · obtain rfl : k = 5 := by omega
      go_wp2_with (go_at_call 18; refine (ux_san hb).mono ?_; rintro e w1 ⟨rfl, hb1, hk⟩)
      go_ret
      exact ⟨rfl, hb1, hb1⟩

/-- WireTruncated returns true, and nothing that was there is changed. -/
theorem law11 (x : Int) (s : ByteArray) (a2 : Option Addr) (n2 c2 : Nat) (a3 : Option Addr) (n3 c3 : Nat) (a4 : Option Addr) (n4 c4 : Nat) (l2 : List Int) (l3 : List ByteArray) (l4 : List (List UInt8)) (w : World) (hx : InR x) (hs : s.size ≤ 140737488351232) (d2 : SlV w a2 n2 c2 1 (l2.map iv)) (hR : ∀ x ∈ l2, InR x) (h2 : n2 ≤ 140737488351232) (d3 : SlV w a3 n3 c3 1 (l3.map Value.string)) (y3 : ∀ s ∈ l3, s.size ≤ 140737488351232) (d4 : SlV w a4 n4 c4 16 (dvs l4)) (G : Digs l4) (h4 : n4 ≤ 140737488351232) :
    Calls Try.prog 11 #[.int .i64 x, .string s, .slice a2 n2 c2, .slice a3 n3 c3, .slice a4 n4 c4] w (Nx w w (.bool true)) := by
  by_cases hsum : s.size + 9 * n2 + 16 * n4 ≤ 400
  · by_cases h3 : n3 ≤ 40
    · have q3 : l3.length = n3 := by have := d3.len; simpa using this
      have hB := bulk_le l3 _ y3
      rw [q3] at hB
      replace hB : bulk l3 ≤ 9223372036854775807 := by
        have : n3 * 140737488351232 ≤ 40 * 140737488351232 := Nat.mul_le_mul_right _ h3
        omega
      by_cases hf : bulk l3 ≤ 2000
      · exact law11_small x s a2 n2 c2 a3 n3 c3 a4 n4 c4 l2 l3 l4 w hx d2 hR d3 d4 G hB hsum h3 (Lib.hid (by simpa using hf))
      · exact law11_few x s a2 n2 c2 a3 n3 c3 a4 n4 c4 l3 w d3 hB hsum h3 (Lib.hid (by simpa using hf))
    · exact law11_forty x s a2 n2 c2 a3 n3 c3 a4 n4 c4 w hsum (by omega)
  · exact law11_big x s a2 n2 c2 a3 n3 c3 a4 n4 c4 w hs h2 h4 (by omega)

end Go.Proofs.Ytcpemgfpiapaaaa
