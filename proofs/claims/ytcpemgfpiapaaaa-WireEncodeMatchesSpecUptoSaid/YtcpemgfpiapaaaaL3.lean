/- WireEncodeMatchesSpec: the walk. -/
import Derived.Test.YtcpemgfpiapaaaaUse
import Derived.Test.YtcpemgfpiapaaaaBnd
namespace Go.Proofs.Ytcpemgfpiapaaaa
open Go.RowKit

set_option maxRecDepth 100000 in
theorem law3_big (x : Int) (s : ByteArray) (a2 : Option Addr) (n2 c2 : Nat) (a3 : Option Addr) (n3 c3 : Nat) (a4 : Option Addr) (n4 c4 : Nat) (w : World) (hs : s.size ≤ 140737488351232) (h2 : n2 ≤ 140737488351232) (h4 : n4 ≤ 140737488351232) (hsum : 2000 < s.size + n2 + n4) :
    Calls Try.prog 3 #[.int .i64 x, .string s, .slice a2 n2 c2, .slice a3 n3 c3, .slice a4 n4 c4] w (Nx w w (.bool true)) := by
  have hb := Below.refl w.heap.size w
  have s0 := True.intro
  go_enter Try.func3, Try.ntmps3
  go_wp2_with (first
    | (clear s0; go_at_call 18; refine (ux_san hb).mono ?_; rintro e w1 ⟨rfl, hb1, hk⟩; have s1 := True.intro))
  go_ret
  exact ⟨rfl, hb1, hb1⟩

set_option maxRecDepth 100000 in
theorem law3_few (x : Int) (s : ByteArray) (a2 : Option Addr) (n2 c2 : Nat) (a3 : Option Addr) (n3 c3 : Nat) (a4 : Option Addr) (n4 c4 : Nat) (l3 : List ByteArray) (w : World) (d3 : SlV w a3 n3 c3 1 (l3.map Value.string)) (hB : bulk l3 ≤ 9223372036854775807) (hsum : s.size + n2 + n4 ≤ 2000) (hf : Hid (decide (bulk l3 ≤ 2000) = false)) :
    Calls Try.prog 3 #[.int .i64 x, .string s, .slice a2 n2 c2, .slice a3 n3 c3, .slice a4 n4 c4] w (Nx w w (.bool true)) := by
  have hb := Below.refl w.heap.size w
  have s0 := True.intro
  go_enter Try.func3, Try.ntmps3
  go_wp2_with (first
    | (clear s0; go_at_call 17; refine (ux_few hb d3 hB).mono ?_; rw [hf.out]; rintro e w1 ⟨rfl, hb1, hk⟩; replace hb := hb1; clear hb1 hk; have s1 := True.intro)
    | (clear s1; go_at_call 18; refine (ux_san hb).mono ?_; rintro e w1 ⟨rfl, hb1, hk⟩; have s2 := True.intro))
  go_ret
  exact ⟨rfl, hb1, hb1⟩

set_option maxRecDepth 100000 in
set_option maxHeartbeats 1000000 in
theorem law3_small (x : Int) (s : ByteArray) (a2 : Option Addr) (n2 c2 : Nat) (a3 : Option Addr) (n3 c3 : Nat) (a4 : Option Addr) (n4 c4 : Nat) (l2 : List Int) (l3 : List ByteArray) (l4 : List (List UInt8)) (w : World) (hx : InR x) (d2 : SlV w a2 n2 c2 1 (l2.map iv)) (hR : ∀ x ∈ l2, InR x) (d3 : SlV w a3 n3 c3 1 (l3.map Value.string)) (d4 : SlV w a4 n4 c4 16 (dvs l4)) (G : Digs l4)
    (hB : bulk l3 ≤ 9223372036854775807) (hsum : s.size + n2 + n4 ≤ 2000) (hf : Hid (decide (bulk l3 ≤ 2000) = true)) :
    Calls Try.prog 3 #[.int .i64 x, .string s, .slice a2 n2 c2, .slice a3 n3 c3, .slice a4 n4 c4] w (Nx w w (.bool true)) := by
  have q2 : l2.length = n2 := by have := d2.len; simpa using this
  have q4 : l4.length = n4 := by have := d4.len; rw [dvs_length G] at this; omega
  have q3 : bulk l3 ≤ 2000 := of_decide_eq_true hf.out
  have T2 := encInts_le l2
  have T3 := encStrs_le l3
  have T4 := encDigs_le G
  replace T2 : (encL encInt l2).length ≤ 1000000000000 := by omega
  replace T3 : (encL encBytes l3).length ≤ 1000000000000 := by omega
  replace T4 : (encL id l4).length ≤ 1000000000000 := by omega
  have T1 : s.size ≤ 1000000000000 := by omega
  clear q2 q3 q4
  have hb := Below.refl w.heap.size w
  have s0 := True.intro
  go_enter Try.func3, Try.ntmps3
  go_wp2_with (first
    | (clear s0; go_at_call 17; refine (ux_few hb d3 hB).mono ?_; rw [hf.out]; rintro e w1 ⟨rfl, hb1, hk⟩; replace hb := hb1; clear hb1 hk; have s1 := True.intro)
    | (clear s1; go_at_call 18; refine (ux_san hb).mono ?_; rintro e w1 ⟨rfl, hb1, hk⟩; replace hb := hb1; clear hb1 hk; have s2 := True.intro)
    | (clear s2; go_at_call 20; refine (ux_int hb hx).mono ?_; rintro e w1 ⟨ya, yc, rfl, hy, hb1, hk⟩; replace hb := hb1; clear hb1 hk; have s3 := True.intro)
    | (clear s3; go_at_call 21; refine (ux_rint hb hx).mono ?_; rintro e w1 ⟨za, zc, rfl, hz, hb1, hk⟩; replace hy := hy.below hk (Nat.le_refl _); replace hb := hb1; clear hb1 hk; have s4 := True.intro)
    | (clear s4; go_at_call 19; refine (ux_same hb hy hz rfl).mono ?_; rintro e w1 ⟨rfl, hb1, hk⟩; replace hb := hb1; clear hb1 hk; clear hy hz; have s5 := True.intro)
    | (clear s5; go_at_call 22; refine (ux_bytes hb T1).mono ?_; rintro e w1 ⟨ya, yc, rfl, hy, hb1, hk⟩; replace hb := hb1; clear hb1 hk; have s6 := True.intro)
    | (clear s6; go_at_call 23; refine (ux_rbytes hb T1).mono ?_; rintro e w1 ⟨za, zc, rfl, hz, hb1, hk⟩; replace hy := hy.below hk (Nat.le_refl _); replace hb := hb1; clear hb1 hk; have s7 := True.intro)
    | (clear s7; go_at_call 19; refine (ux_same hb hy hz rfl).mono ?_; rintro e w1 ⟨rfl, hb1, hk⟩; replace hb := hb1; clear hb1 hk; clear hy hz; have s8 := True.intro)
    | (clear s8; go_at_call 24; refine (ux_ints hb (d2.below hb (Nat.le_refl _)) hR T2).mono ?_; rintro e w1 ⟨ya, yc, rfl, hy, hb1, hk⟩; replace hb := hb1; clear hb1 hk; have s9 := True.intro)
    | (clear s9; go_at_call 25; refine (ux_rints hb (d2.below hb (Nat.le_refl _)) hR T2).mono ?_; rintro e w1 ⟨za, zc, rfl, hz, hb1, hk⟩; replace hy := hy.below hk (Nat.le_refl _); replace hb := hb1; clear hb1 hk; have s10 := True.intro)
    | (clear s10; go_at_call 19; refine (ux_same hb hy hz rfl).mono ?_; rintro e w1 ⟨rfl, hb1, hk⟩; replace hb := hb1; clear hb1 hk; clear hy hz; have s11 := True.intro)
    | (clear s11; go_at_call 26; refine (ux_strs hb (d3.below hb (Nat.le_refl _)) T3).mono ?_; rintro e w1 ⟨ya, yc, rfl, hy, hb1, hk⟩; replace hb := hb1; clear hb1 hk; have s12 := True.intro)
    | (clear s12; go_at_call 27; refine (ux_rstrs hb (d3.below hb (Nat.le_refl _)) T3).mono ?_; rintro e w1 ⟨za, zc, rfl, hz, hb1, hk⟩; replace hy := hy.below hk (Nat.le_refl _); replace hb := hb1; clear hb1 hk; have s13 := True.intro)
    | (clear s13; go_at_call 19; refine (ux_same hb hy hz rfl).mono ?_; rintro e w1 ⟨rfl, hb1, hk⟩; replace hb := hb1; clear hb1 hk; clear hy hz; have s14 := True.intro)
    | (clear s14; go_at_call 28; refine (ux_digs hb (d4.below hb (Nat.le_refl _)) G T4).mono ?_; rintro e w1 ⟨ya, yc, rfl, hy, hb1, hk⟩; replace hb := hb1; clear hb1 hk; have s15 := True.intro)
    | (clear s15; go_at_call 29; refine (ux_rdigs hb (d4.below hb (Nat.le_refl _)) G T4).mono ?_; rintro e w1 ⟨za, zc, rfl, hz, hb1, hk⟩; replace hy := hy.below hk (Nat.le_refl _); replace hb := hb1; clear hb1 hk; have s16 := True.intro)
    | (clear s16; go_at_call 19; refine (ux_same hb hy hz rfl).mono ?_; rintro e w1 ⟨rfl, hb1, hk⟩; replace hb := hb1; clear hb1 hk; clear hy hz; have s17 := True.intro))
  go_ret
  exact ⟨rfl, hb, hb⟩

/-- WireEncodeMatchesSpec returns true, and nothing that was there is changed. -/
theorem law3 (x : Int) (s : ByteArray) (a2 : Option Addr) (n2 c2 : Nat) (a3 : Option Addr) (n3 c3 : Nat) (a4 : Option Addr) (n4 c4 : Nat) (l2 : List Int) (l3 : List ByteArray) (l4 : List (List UInt8)) (w : World) (hx : InR x) (hs : s.size ≤ 140737488351232) (d2 : SlV w a2 n2 c2 1 (l2.map iv)) (hR : ∀ x ∈ l2, InR x) (h2 : n2 ≤ 140737488351232) (d3 : SlV w a3 n3 c3 1 (l3.map Value.string)) (hB : bulk l3 ≤ 9223372036854775807) (d4 : SlV w a4 n4 c4 16 (dvs l4)) (G : Digs l4) (h4 : n4 ≤ 140737488351232) :
    Calls Try.prog 3 #[.int .i64 x, .string s, .slice a2 n2 c2, .slice a3 n3 c3, .slice a4 n4 c4] w (Nx w w (.bool true)) := by
  by_cases hsum : s.size + n2 + n4 ≤ 2000
  · by_cases hf : bulk l3 ≤ 2000
    · exact law3_small x s a2 n2 c2 a3 n3 c3 a4 n4 c4 l2 l3 l4 w hx d2 hR d3 d4 G hB hsum (Lib.hid (by simpa using hf))
    · exact law3_few x s a2 n2 c2 a3 n3 c3 a4 n4 c4 l3 w d3 hB hsum (Lib.hid (by simpa using hf))
  · exact law3_big x s a2 n2 c2 a3 n3 c3 a4 n4 c4 w hs h2 h4 (by omega)

end Go.Proofs.Ytcpemgfpiapaaaa
