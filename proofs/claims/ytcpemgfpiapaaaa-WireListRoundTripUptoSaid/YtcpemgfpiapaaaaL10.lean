/- WireListRoundTrip: the walk. -/
import Derived.Test.YtcpemgfpiapaaaaApF
import Derived.Test.YtcpemgfpiapaaaaBnd
namespace Go.Proofs.Ytcpemgfpiapaaaa
open Go.RowKit

set_option maxRecDepth 100000 in
theorem law10_big (s : ByteArray) (a1 : Option Addr) (n1 c1 : Nat) (a2 : Option Addr) (n2 c2 : Nat) (a3 : Option Addr) (n3 c3 : Nat) (a4 : Option Addr) (n4 c4 : Nat) (w : World) (hs : s.size ≤ 140737488351232) (h1 : n1 ≤ 140737488351232) (h3 : n3 ≤ 140737488351232) (h4 : n4 ≤ 140737488351232) (hsum : 2000 < s.size + n1 + n3 + n4) :
    Calls Try.prog 10 #[.string s, .slice a1 n1 c1, .slice a2 n2 c2, .slice a3 n3 c3, .slice a4 n4 c4] w (Nx w w (.bool true)) := by
  have hb := Below.refl w.heap.size w
  have s0 := True.intro
  go_enter Try.func10, Try.ntmps10
  go_wp2_with (first
    | (clear s0; go_at_call 18; refine (ux_san hb).mono ?_; rintro e w1 ⟨rfl, hb1, hk⟩; have s1 := True.intro))
  go_ret
  exact ⟨rfl, hb1, hb1⟩

set_option maxRecDepth 100000 in
theorem law10_few (s : ByteArray) (a1 : Option Addr) (n1 c1 : Nat) (a2 : Option Addr) (n2 c2 : Nat) (a3 : Option Addr) (n3 c3 : Nat) (a4 : Option Addr) (n4 c4 : Nat) (l2 : List ByteArray) (w : World) (d2 : SlV w a2 n2 c2 1 (l2.map Value.string)) (hB : bulk l2 ≤ 9223372036854775807) (hsum : s.size + n1 + n3 + n4 ≤ 2000) (hf : Hid (decide (bulk l2 ≤ 2000) = false)) :
    Calls Try.prog 10 #[.string s, .slice a1 n1 c1, .slice a2 n2 c2, .slice a3 n3 c3, .slice a4 n4 c4] w (Nx w w (.bool true)) := by
  have hb := Below.refl w.heap.size w
  have s0 := True.intro
  go_enter Try.func10, Try.ntmps10
  go_wp2_with (first
    | (clear s0; go_at_call 17; refine (ux_few hb d2 hB).mono ?_; rw [hf.out]; rintro e w1 ⟨rfl, hb1, hk⟩; replace hb := hb1; clear hb1 hk; have s1 := True.intro)
    | (clear s1; go_at_call 18; refine (ux_san hb).mono ?_; rintro e w1 ⟨rfl, hb1, hk⟩; have s2 := True.intro))
  go_ret
  exact ⟨rfl, hb1, hb1⟩

set_option maxRecDepth 100000 in
set_option maxHeartbeats 2000000 in
theorem law10_small (s : ByteArray) (a1 : Option Addr) (n1 c1 : Nat) (a2 : Option Addr) (n2 c2 : Nat) (a3 : Option Addr) (n3 c3 : Nat) (a4 : Option Addr) (n4 c4 : Nat) (l1 : List Int) (l2 : List ByteArray) (l3 : List (List UInt8)) (t : List UInt8) (w : World) (d1 : SlV w a1 n1 c1 1 (l1.map iv)) (hR : ∀ x ∈ l1, InR x) (d2 : SlV w a2 n2 c2 1 (l2.map Value.string)) (d3 : SlV w a3 n3 c3 16 (dvs l3)) (G : Digs l3) (d4 : SlV w a4 n4 c4 1 (bvs t))
    (hB : bulk l2 ≤ 9223372036854775807) (hsum : s.size + n1 + n3 + n4 ≤ 2000) (hf : Hid (decide (bulk l2 ≤ 2000) = true)) :
    Calls Try.prog 10 #[.string s, .slice a1 n1 c1, .slice a2 n2 c2, .slice a3 n3 c3, .slice a4 n4 c4] w (Nx w w (.bool true)) := by
  have q1 : l1.length = n1 := by have := d1.len; simpa using this
  have q3 : l3.length = n3 := by have := d3.len; rw [dvs_length G] at this; omega
  have q2 : bulk l2 ≤ 2000 := of_decide_eq_true hf.out
  have q5 : l2.length ≤ bulk l2 := by unfold bulk; omega
  have B1 := encInts_le l1
  have B2 := encStrs_le l2
  have B3 := encDigs_le G
  have B0 := encBytes_len s
  have X0 := dec_enc_bytes (s := s) (by omega) t
  have X1 := decInts_enc hR (by omega) t
  have X2 := decStrs_enc (l := l2) (fun x hx => by have := bulk_mem hx; omega) (by omega) t
  have X3 := decDigs_enc G (by omega) t
  have T0 : s.size ≤ 1000000000000 := by omega
  have T1 : (encL encInt l1).length ≤ 1000000000000 := by omega
  have T2 : (encL encBytes l2).length ≤ 1000000000000 := by omega
  have T3 : (encL id l3).length ≤ 1000000000000 := by omega
  obtain ⟨E0, hE0⟩ : ∃ E, encBytes s = E := ⟨_, rfl⟩
  obtain ⟨E1, hE1⟩ : ∃ E, encL encInt l1 = E := ⟨_, rfl⟩
  obtain ⟨E2, hE2⟩ : ∃ E, encL encBytes l2 = E := ⟨_, rfl⟩
  obtain ⟨E3, hE3⟩ : ∃ E, encL id l3 = E := ⟨_, rfl⟩
  rw [hE0] at X0 B0
  rw [hE1] at X1 B1
  rw [hE2] at X2 B2
  rw [hE3] at X3 B3
  obtain ⟨L0, hL0⟩ : ∃ L, E0.length = L := ⟨_, rfl⟩
  obtain ⟨L1, hL1⟩ : ∃ L, E1.length = L := ⟨_, rfl⟩
  obtain ⟨L2, hL2⟩ : ∃ L, E2.length = L := ⟨_, rfl⟩
  obtain ⟨L3, hL3⟩ : ∃ L, E3.length = L := ⟨_, rfl⟩
  rw [hL0] at X0 B0
  rw [hL1] at X1 B1
  rw [hL2] at X2 B2
  rw [hL3] at X3 B3
  have n4b : n4 ≤ 2000 := by omega
  replace B0 : L0 ≤ 100000 := by omega
  replace B1 : L1 ≤ 100000 := by omega
  replace B2 : L2 ≤ 100000 := by omega
  replace B3 : L3 ≤ 100000 := by omega
  replace hE0 := Lib.hid hE0
  replace hE1 := Lib.hid hE1
  replace hE2 := Lib.hid hE2
  replace hE3 := Lib.hid hE3
  replace hL0 := Lib.hid hL0
  replace hL1 := Lib.hid hL1
  replace hL2 := Lib.hid hL2
  replace hL3 := Lib.hid hL3
  replace X0 := Lib.hid X0
  replace X1 := Lib.hid X1
  replace X2 := Lib.hid X2
  replace X3 := Lib.hid X3
  clear q1 q2 q3 q5
  have hb := Below.refl w.heap.size w
  have s0 := True.intro
  go_enter Try.func10, Try.ntmps10
  go_wp2_with (first
    | (clear s0; go_at_call 17; refine (ux_few hb d2 hB).mono ?_; rw [hf.out]; rintro e w1 ⟨rfl, hb1, hk⟩; replace hb := hb1; clear hb1 hk; have s1 := True.intro)
    | (clear s1; go_at_call 22; refine (ux_bytes hb T0).mono ?_; rw [hE0.out, hL0.out]; rintro e w1 ⟨pA, qA, rfl, hA, hb1, hk⟩; replace hb := hb1; clear hb1 hk; have s2 := True.intro)
    | (clear s2; go_at_call 24; refine (ux_ints hb (d1.below hb (Nat.le_refl _)) hR T1).mono ?_; rw [hE1.out, hL1.out]; rintro e w1 ⟨pB, qB, rfl, hB, hb1, hk⟩; replace hA := hA.below hk (Nat.le_refl _); replace hb := hb1; clear hb1 hk; have s3 := True.intro)
    | (clear s3; go_at_call 28; refine (ux_digs hb (d3.below hb (Nat.le_refl _)) G T3).mono ?_; rw [hE3.out, hL3.out]; rintro e w1 ⟨pC, qC, rfl, hC, hb1, hk⟩; replace hA := hA.below hk (Nat.le_refl _); replace hB := hB.below hk (Nat.le_refl _); replace hb := hb1; clear hb1 hk; have s4 := True.intro)
    | (clear s4; go_at_call 26; refine (ux_strs hb (d2.below hb (Nat.le_refl _)) T2).mono ?_; rw [hE2.out, hL2.out]; rintro e w1 ⟨pO, qO, rfl, hO, hb1, hk⟩; replace hA := hA.below hk (Nat.le_refl _); replace hB := hB.below hk (Nat.le_refl _); replace hC := hC.below hk (Nat.le_refl _); replace hb := hb1; clear hb1 hk; have s5 := True.intro)
    | (clear s5; refine cut_to3 rfl 28 (.tmp 54) (.tmp 56) (.tmp 58) rfl 5 1 Try.underlying28 Try.size5 _ _ _ _ rfl hA rfl rfl ?_; intro ao2 hs2; clear hA; have s6 := True.intro)
    | (clear s6; at_builtin; refine ap_full rfl (.tmp 59) (.tmp 60) rfl _ _ _ rfl hs2 _ _ _ _ rfl (d4.below hb (Nat.le_refl _)) (by omega) ?_; intro ao3 cap3 w2 hs3 hk; obtain ⟨hb1, -⟩ := below_on hb hk; replace hB := hB.below hk (Nat.le_refl _); replace hC := hC.below hk (Nat.le_refl _); replace hO := hO.below hk (Nat.le_refl _); replace hb := hb1; clear hb1 hk hs2; have s7 := True.intro)
    | (clear s7; go_at_call 32; refine (ux_getbytes hb hs3 (by omega) X0.out).mono ?_; rintro e w1 ⟨rfl, hb1, hk⟩; replace hB := hB.below hk (Nat.le_refl _); replace hC := hC.below hk (Nat.le_refl _); replace hO := hO.below hk (Nat.le_refl _); replace hb := hb1; clear hb1 hk; clear hs3; have s8 := True.intro)
    | (clear s8; refine cut_to3 rfl 28 (.tmp 67) (.tmp 69) (.tmp 71) rfl 5 1 Try.underlying28 Try.size5 _ _ _ _ rfl hB rfl rfl ?_; intro ao2 hs2; clear hB; have s9 := True.intro)
    | (clear s9; at_builtin; refine ap_full rfl (.tmp 72) (.tmp 73) rfl _ _ _ rfl hs2 _ _ _ _ rfl (d4.below hb (Nat.le_refl _)) (by omega) ?_; intro ao3 cap3 w2 hs3 hk; obtain ⟨hb1, -⟩ := below_on hb hk; replace hC := hC.below hk (Nat.le_refl _); replace hO := hO.below hk (Nat.le_refl _); replace hb := hb1; clear hb1 hk hs2; have s10 := True.intro)
    | (clear s10; go_at_call 34; refine (ux_getints hb hs3 (by omega) X1.out).mono ?_; rintro e w1 ⟨pK, qK, rfl, hK, hb1, hk⟩; replace hC := hC.below hk (Nat.le_refl _); replace hO := hO.below hk (Nat.le_refl _); replace hb := hb1; clear hb1 hk; clear hs3; have s11 := True.intro)
    | (clear s11; refine cut_to3 rfl 28 (.tmp 80) (.tmp 82) (.tmp 84) rfl 5 1 Try.underlying28 Try.size5 _ _ _ _ rfl hC rfl rfl ?_; intro ao2 hs2; clear hC; have s12 := True.intro)
    | (clear s12; at_builtin; refine ap_full rfl (.tmp 85) (.tmp 86) rfl _ _ _ rfl hs2 _ _ _ _ rfl (d4.below hb (Nat.le_refl _)) (by omega) ?_; intro ao3 cap3 w2 hs3 hk; obtain ⟨hb1, -⟩ := below_on hb hk; replace hO := hO.below hk (Nat.le_refl _); replace hK := hK.below hk (Nat.le_refl _); replace hb := hb1; clear hb1 hk hs2; have s13 := True.intro)
    | (clear s13; go_at_call 40; refine (ux_getdigs hb hs3 (by omega) X3.out).mono ?_; rintro e w1 ⟨pY, qY, rfl, hY, hb1, hk⟩; replace hO := hO.below hk (Nat.le_refl _); replace hK := hK.below hk (Nat.le_refl _); replace hb := hb1; clear hb1 hk; clear hs3; have s14 := True.intro)
    | (clear s14; refine cut_to3 rfl 28 (.tmp 93) (.tmp 95) (.tmp 97) rfl 5 1 Try.underlying28 Try.size5 _ _ _ _ rfl hO rfl rfl ?_; intro ao2 hs2; clear hO; have s15 := True.intro)
    | (clear s15; at_builtin; refine ap_full rfl (.tmp 98) (.tmp 99) rfl _ _ _ rfl hs2 _ _ _ _ rfl (d4.below hb (Nat.le_refl _)) (by omega) ?_; intro ao3 cap3 w2 hs3 hk; obtain ⟨hb1, -⟩ := below_on hb hk; replace hK := hK.below hk (Nat.le_refl _); replace hY := hY.below hk (Nat.le_refl _); replace hb := hb1; clear hb1 hk hs2; have s16 := True.intro)
    | (clear s16; go_at_call 37; refine (ux_getstrs hb hs3 (by omega) X2.out).mono ?_; rintro e w1 ⟨pZ, qZ, rfl, hZ, hb1, hk⟩; replace hK := hK.below hk (Nat.le_refl _); replace hY := hY.below hk (Nat.le_refl _); replace hb := hb1; clear hb1 hk; clear hs3; have s17 := True.intro)
    | (clear s17; go_at_call 18; refine (ux_san hb).mono ?_; rintro e w1 ⟨rfl, hb1, hk⟩; replace hK := hK.below hk (Nat.le_refl _); replace hY := hY.below hk (Nat.le_refl _); replace hZ := hZ.below hk (Nat.le_refl _); replace hb := hb1; clear hb1 hk; have s18 := True.intro)
    | (clear s18; go_at_call 39; refine (ux_sametexts hb hZ (d2.below hb (Nat.le_refl _)) rfl).mono ?_; rintro e w1 ⟨rfl, hb1, hk⟩; replace hK := hK.below hk (Nat.le_refl _); replace hY := hY.below hk (Nat.le_refl _); replace hZ := hZ.below hk (Nat.le_refl _); replace hb := hb1; clear hb1 hk; have s19 := True.intro)
    | (clear s19; go_at_call 36; refine (ux_sameints hb hK (d1.below hb (Nat.le_refl _)) rfl).mono ?_; rintro e w1 ⟨rfl, hb1, hk⟩; replace hK := hK.below hk (Nat.le_refl _); replace hY := hY.below hk (Nat.le_refl _); replace hZ := hZ.below hk (Nat.le_refl _); replace hb := hb1; clear hb1 hk; have s20 := True.intro)
    | (clear s20; go_at_call 42; refine (ux_samedigs hb hY (d3.below hb (Nat.le_refl _)) G rfl).mono ?_; rintro e w1 ⟨rfl, hb1, hk⟩; replace hK := hK.below hk (Nat.le_refl _); replace hY := hY.below hk (Nat.le_refl _); replace hZ := hZ.below hk (Nat.le_refl _); replace hb := hb1; clear hb1 hk; have s21 := True.intro))
  go_ret
  exact ⟨rfl, hb, hb⟩

/-- WireListRoundTrip returns true, and nothing that was there is changed. -/
theorem law10 (s : ByteArray) (a1 : Option Addr) (n1 c1 : Nat) (a2 : Option Addr) (n2 c2 : Nat) (a3 : Option Addr) (n3 c3 : Nat) (a4 : Option Addr) (n4 c4 : Nat) (l1 : List Int) (l2 : List ByteArray) (l3 : List (List UInt8)) (t : List UInt8) (w : World) (hs : s.size ≤ 140737488351232) (d1 : SlV w a1 n1 c1 1 (l1.map iv)) (hR : ∀ x ∈ l1, InR x) (h1 : n1 ≤ 140737488351232) (d2 : SlV w a2 n2 c2 1 (l2.map Value.string)) (hB : bulk l2 ≤ 9223372036854775807) (d3 : SlV w a3 n3 c3 16 (dvs l3)) (G : Digs l3) (h3 : n3 ≤ 140737488351232) (d4 : SlV w a4 n4 c4 1 (bvs t)) (h4 : n4 ≤ 140737488351232) :
    Calls Try.prog 10 #[.string s, .slice a1 n1 c1, .slice a2 n2 c2, .slice a3 n3 c3, .slice a4 n4 c4] w (Nx w w (.bool true)) := by
  by_cases hsum : s.size + n1 + n3 + n4 ≤ 2000
  · by_cases hf : bulk l2 ≤ 2000
    · exact law10_small s a1 n1 c1 a2 n2 c2 a3 n3 c3 a4 n4 c4 l1 l2 l3 t w d1 hR d2 d3 G d4 hB hsum (Lib.hid (by simpa using hf))
    · exact law10_few s a1 n1 c1 a2 n2 c2 a3 n3 c3 a4 n4 c4 l2 w d2 hB hsum (Lib.hid (by simpa using hf))
  · exact law10_big s a1 n1 c1 a2 n2 c2 a3 n3 c3 a4 n4 c4 w hs h1 h3 h4 (by omega)

end Go.Proofs.Ytcpemgfpiapaaaa
