/- WireCanonical: the walk. -/
import Derived.Test.YtcpemgfpiapaaaaUse
import Derived.Test.YtcpemgfpiapaaaaPure
import Derived.Test.YtcpemgfpiapaaaaGd
namespace Go.Proofs.Ytcpemgfpiapaaaa
open Go.RowKit

/-- What the closure is asked: an error, or the bytes that were consumed. -/
def IsOf (l m : List UInt8) (n k : Nat) (e : Int) : Prop := (e ≠ 0 ∧ (e != 0) = true) ∨ (e = 0 ∧ k ≤ n ∧ m = l.take k)

theorem isof {l m : List UInt8} {n k : Nat} {e : Int} (hn : l.length = n) (h : e = 0 → l.take k = m ∧ k ≤ l.length) : Hid (IsOf l m n k e) := by
  by_cases he : e = 0
  · obtain ⟨h1, h2⟩ := h he
    exact Lib.hid (.inr ⟨he, by omega, h1.symm⟩)
  · exact Lib.hid (.inl ⟨he, by simpa using he⟩)

theorem clo57_err {W wk : World} (hb : Below W.heap.size W wk) (v : Value) (k : Nat) (e : Int) (he : (e != 0) = true) (p : Addr) :
    Calls Try.prog 57 #[v, .int .i64 (k : Int), .int .i64 e, .pointer (some p)] wk (Nx W wk (.bool true)) := by
  go_enter Try.func57, Try.ntmps57
  go_wp2
  go_ret
  exact ⟨rfl, hb, Below.refl _ _⟩

theorem clo57_ok {W wk : World} (hb : Below W.heap.size W wk) {co : Option Addr} {L cc : Nat} (k : Nat) {p : Addr} {ao : Option Addr} {n c : Nat} {l : List UInt8} (hc : SlV wk co L cc 1 (bvs (l.take k))) (cp : wk.cell? p = some (.slice ao n c)) (hr : SlV wk ao n c 1 (bvs l)) (hk : k ≤ n) :
    Calls Try.prog 57 #[.slice co L cc, .int .i64 (k : Int), .int .i64 0, .pointer (some p)] wk (Nx W wk (.bool true)) := by
  have s0 := True.intro
  have m1 : min (k : Int) (n : Int) = (k : Int) := by omega
  have m2 : max (0 : Int) (k : Int) = (k : Int) := by omega
  go_enter Try.func57, Try.ntmps57
  go_wp2_with (first
    | (clear s0; refine wpList_unguard rfl ?_; refine cut_to rfl 28 (.tmp 21) (.tmp 26) rfl 5 1 Try.underlying28 Try.size5 _ _ _ _ rfl hr k _ rfl (by omega) hk ?_; intro ao5 hs5; have s1 := True.intro)
    | (clear s1; go_at_call 19; refine (ux_same hb hc (by simpa [bvs] using hs5) rfl).mono ?_; rintro e w1 ⟨rfl, hb1, hk1⟩; have s2 := True.intro))
  all_goals go_ret
  all_goals exact ⟨rfl, hb1, hk1⟩

theorem clo57_any {W wk : World} (hb : Below W.heap.size W wk) {co : Option Addr} {L cc : Nat} {m l : List UInt8} {k : Nat} {e : Int} {p : Addr} {ao : Option Addr} {n c : Nat} (hc : SlV wk co L cc 1 (bvs m)) (cp : wk.cell? p = some (.slice ao n c)) (hr : SlV wk ao n c 1 (bvs l)) (h : Hid (IsOf l m n k e)) :
    Calls Try.prog 57 #[.slice co L cc, .int .i64 (k : Int), .int .i64 e, .pointer (some p)] wk (Nx W wk (.bool true)) := by
  rcases h.out with ⟨_, he⟩ | ⟨rfl, hk, rfl⟩
  · exact clo57_err hb _ k e he p
  · exact clo57_ok hb k hc cp hr hk

theorem law9_big (ao : Option Addr) (n c : Nat) (w : World) (hn : 2000 < n) :
    Calls Try.prog 9 #[.slice ao n c] w (Nx w w (.bool true)) := by
  have hb := (Below.refl w.heap.size w).alloc (Nat.le_refl _) (.cells #[.slice ao n c] 28)
  have s0 := True.intro
  go_enter Try.func9, Try.ntmps9
  go_wp2_with (first
    | (clear s0; go_at_call 18; refine (ux_san hb).mono ?_; rintro e w1 ⟨rfl, hb1, hk⟩; have s1 := True.intro))
  go_ret
  exact ⟨rfl, hb1, hb1⟩

set_option maxRecDepth 100000 in
set_option maxHeartbeats 1000000 in
theorem law9_small (ao : Option Addr) (n c : Nat) (l : List UInt8) (w : World) (hr : SlV w ao n c 1 (bvs l)) (hn : n ≤ 2000) :
    Calls Try.prog 9 #[.slice ao n c] w (Nx w w (.bool true)) := by
  have hl : l.length = n := by have := hr.len; simpa using this
  obtain ⟨x1, k1, e1, h1⟩ : ∃ x k e, decInt l = (x, k, e) := ⟨_, _, _, rfl⟩
  obtain ⟨x2, k2, e2, h2⟩ : ∃ x k e, decBytes l = (x, k, e) := ⟨_, _, _, rfl⟩
  obtain ⟨x3, k3, e3, h3⟩ : ∃ x k e, decList 1 decInt l = (x, k, e) := ⟨_, _, _, rfl⟩
  obtain ⟨x4, k4, e4, h4⟩ : ∃ x k e, decList 1 decBytes l = (x, k, e) := ⟨_, _, _, rfl⟩
  obtain ⟨x5, k5, e5, h5⟩ : ∃ x k e, decList 16 decDig l = (x, k, e) := ⟨_, _, _, rfl⟩
  have R1 : InR x1 := by
    by_cases he : e1 = 0
    · subst he; exact (dec_canon h1).2.2.1
    · rw [((dec_err h1).2 he).1]; unfold InR; omega
  have R2 : x2.size ≤ 1000000000000 := by
    by_cases he : e2 = 0
    · subst he; have := (bytes_canon h2).2.2; omega
    · rw [decBytes_nil h2 he]; simp
  have R3 : (∀ x ∈ x3, InR x) ∧ (encL encInt x3).length ≤ 1000000000000 := by
    by_cases he : e3 = 0
    · subst he; obtain ⟨a, b, c⟩ := ints_canon h3; exact ⟨c, by rw [← a, List.length_take]; omega⟩
    · rw [(decList_nil h3 he).1]; refine ⟨(by intro x hx; cases hx), ?_⟩; have := encInt_len (([] : List Int).length : Int); simp [encL] at this ⊢; omega
  have R4 : (encL encBytes x4).length ≤ 1000000000000 := by
    by_cases he : e4 = 0
    · subst he; obtain ⟨a, b⟩ := strs_canon h4; rw [← a, List.length_take]; omega
    · rw [(decList_nil h4 he).1]; have := encInt_len (([] : List Int).length : Int); simp [encL] at this ⊢; omega
  have R5 : (encL id x5).length ≤ 1000000000000 := by
    by_cases he : e5 = 0
    · subst he; obtain ⟨a, b, c⟩ := digs_canon h5; rw [← a, List.length_take]; omega
    · rw [(decList_nil h5 he).1]; have := encInt_len (([] : List Int).length : Int); simp [encL] at this ⊢; omega
  obtain ⟨R3a, R3b⟩ := R3
  have G5 := digs_of h5
  have I1 : Hid (IsOf l (encInt x1) n k1 e1) := isof hl fun he => by subst he; have := dec_canon h1; exact ⟨this.1, this.2.1⟩
  have I2 : Hid (IsOf l (encBytes x2) n k2 e2) := isof hl fun he => by subst he; have := bytes_canon h2; exact ⟨this.1, this.2.1⟩
  have I3 : Hid (IsOf l (encL encInt x3) n k3 e3) := isof hl fun he => by subst he; have := ints_canon h3; exact ⟨this.1, this.2.1⟩
  have I4 : Hid (IsOf l (encL encBytes x4) n k4 e4) := isof hl fun he => by subst he; have := strs_canon h4; exact ⟨this.1, this.2⟩
  have I5 : Hid (IsOf l (encL id x5) n k5 e5) := isof hl fun he => by subst he; have := digs_canon h5; exact ⟨this.1, this.2.1⟩
  replace h1 := Lib.hid h1
  replace h2 := Lib.hid h2
  replace h3 := Lib.hid h3
  replace h4 := Lib.hid h4
  replace h5 := Lib.hid h5
  have hn' : n ≤ 1000000000000 := by omega
  clear hl
  have hmf : ∀ (fn : Fn) (first cap : Array Value) (w : World), (Instr.makeFunc fn first cap).run Try.prog w = .ok (.func fn first cap) w := fun _ _ _ _ => rfl
  have hb := (Below.refl w.heap.size w).alloc (Nat.le_refl _) (.cells #[.slice ao n c] 28)
  have hr0 := hr
  replace hr := hr.below hb (Nat.le_refl _)
  have cp : (w.alloc (.cells #[.slice ao n c] 28)).cell? ⟨w.heap.size, 0, none⟩ = some (.slice ao n c) := cell_of_one (heap_alloc_new w _)
  have s0 := True.intro
  go_enter Try.func9, Try.ntmps9
  go_wp2_with (first
    | (clear s0; go_at_call 30; refine (ux_getint hb hr h1.out).mono ?_; rintro e w1 ⟨rfl, hb1, hk⟩; replace cp := cell_later hk cp; replace hr := hr.below hk (Nat.le_refl _); replace hb := hb1; clear hb1 hk; have s1 := True.intro)
    | (clear s1; go_at_call 32; refine (ux_getbytes hb hr hn' h2.out).mono ?_; rintro e w1 ⟨rfl, hb1, hk⟩; replace cp := cell_later hk cp; replace hr := hr.below hk (Nat.le_refl _); replace hb := hb1; clear hb1 hk; have s2 := True.intro)
    | (clear s2; go_at_call 34; refine (ux_getints hb hr hn' h3.out).mono ?_; rintro e w1 ⟨ya, yc, rfl, hy, hb1, hk⟩; replace cp := cell_later hk cp; replace hr := hr.below hk (Nat.le_refl _); replace hb := hb1; clear hb1 hk; have s3 := True.intro)
    | (clear s3; go_at_call 37; refine (ux_getstrs hb hr hn' h4.out).mono ?_; rintro e w1 ⟨za, zc, rfl, hz, hb1, hk⟩; replace cp := cell_later hk cp; replace hr := hr.below hk (Nat.le_refl _); replace hy := hy.below hk (Nat.le_refl _); replace hb := hb1; clear hb1 hk; have s4 := True.intro)
    | (clear s4; go_at_call 40; refine (ux_getdigs hb hr hn' h5.out).mono ?_; rintro e w1 ⟨ua, uc, rfl, hu, hb1, hk⟩; replace cp := cell_later hk cp; replace hr := hr.below hk (Nat.le_refl _); replace hy := hy.below hk (Nat.le_refl _); replace hz := hz.below hk (Nat.le_refl _); replace hb := hb1; clear hb1 hk; have s5 := True.intro)
    | (clear s5; go_at_call 18; refine (ux_san hb).mono ?_; rintro e w1 ⟨rfl, hb1, hk⟩; replace cp := cell_later hk cp; replace hr := hr.below hk (Nat.le_refl _); replace hy := hy.below hk (Nat.le_refl _); replace hz := hz.below hk (Nat.le_refl _); replace hu := hu.below hk (Nat.le_refl _); replace hb := hb1; clear hb1 hk; have s6 := True.intro)
    | (clear s6; go_at_call 20; refine (ux_int hb R1).mono ?_; rintro e w1 ⟨sa, sc, rfl, hs, hb1, hk⟩; replace cp := cell_later hk cp; replace hr := hr.below hk (Nat.le_refl _); replace hy := hy.below hk (Nat.le_refl _); replace hz := hz.below hk (Nat.le_refl _); replace hu := hu.below hk (Nat.le_refl _); replace hb := hb1; clear hb1 hk; have s7 := True.intro)
    | (clear s7; go_at_call 57; refine (clo57_any hb hs cp hr I1).mono ?_; rintro e w1 ⟨rfl, hb1, hk⟩; replace cp := cell_later hk cp; replace hr := hr.below hk (Nat.le_refl _); replace hy := hy.below hk (Nat.le_refl _); replace hz := hz.below hk (Nat.le_refl _); replace hu := hu.below hk (Nat.le_refl _); replace hb := hb1; clear hb1 hk; have s8 := True.intro)
    | (clear s8; go_at_call 22; refine (ux_bytes hb R2).mono ?_; rintro e w1 ⟨sa, sc, rfl, hs, hb1, hk⟩; replace cp := cell_later hk cp; replace hr := hr.below hk (Nat.le_refl _); replace hy := hy.below hk (Nat.le_refl _); replace hz := hz.below hk (Nat.le_refl _); replace hu := hu.below hk (Nat.le_refl _); replace hb := hb1; clear hb1 hk; have s9 := True.intro)
    | (clear s9; go_at_call 57; refine (clo57_any hb hs cp hr I2).mono ?_; rintro e w1 ⟨rfl, hb1, hk⟩; replace cp := cell_later hk cp; replace hr := hr.below hk (Nat.le_refl _); replace hy := hy.below hk (Nat.le_refl _); replace hz := hz.below hk (Nat.le_refl _); replace hu := hu.below hk (Nat.le_refl _); replace hb := hb1; clear hb1 hk; have s10 := True.intro)
    | (clear s10; go_at_call 24; refine (ux_ints hb hy R3a R3b).mono ?_; rintro e w1 ⟨sa, sc, rfl, hs, hb1, hk⟩; replace cp := cell_later hk cp; replace hr := hr.below hk (Nat.le_refl _); replace hy := hy.below hk (Nat.le_refl _); replace hz := hz.below hk (Nat.le_refl _); replace hu := hu.below hk (Nat.le_refl _); replace hb := hb1; clear hb1 hk; have s11 := True.intro)
    | (clear s11; go_at_call 57; refine (clo57_any hb hs cp hr I3).mono ?_; rintro e w1 ⟨rfl, hb1, hk⟩; replace cp := cell_later hk cp; replace hr := hr.below hk (Nat.le_refl _); replace hy := hy.below hk (Nat.le_refl _); replace hz := hz.below hk (Nat.le_refl _); replace hu := hu.below hk (Nat.le_refl _); replace hb := hb1; clear hb1 hk; have s12 := True.intro)
    | (clear s12; go_at_call 26; refine (ux_strs hb hz R4).mono ?_; rintro e w1 ⟨sa, sc, rfl, hs, hb1, hk⟩; replace cp := cell_later hk cp; replace hr := hr.below hk (Nat.le_refl _); replace hy := hy.below hk (Nat.le_refl _); replace hz := hz.below hk (Nat.le_refl _); replace hu := hu.below hk (Nat.le_refl _); replace hb := hb1; clear hb1 hk; have s13 := True.intro)
    | (clear s13; go_at_call 57; refine (clo57_any hb hs cp hr I4).mono ?_; rintro e w1 ⟨rfl, hb1, hk⟩; replace cp := cell_later hk cp; replace hr := hr.below hk (Nat.le_refl _); replace hy := hy.below hk (Nat.le_refl _); replace hz := hz.below hk (Nat.le_refl _); replace hu := hu.below hk (Nat.le_refl _); replace hb := hb1; clear hb1 hk; have s14 := True.intro)
    | (clear s14; go_at_call 28; refine (ux_digs hb hu G5 R5).mono ?_; rintro e w1 ⟨sa, sc, rfl, hs, hb1, hk⟩; replace cp := cell_later hk cp; replace hr := hr.below hk (Nat.le_refl _); replace hy := hy.below hk (Nat.le_refl _); replace hz := hz.below hk (Nat.le_refl _); replace hu := hu.below hk (Nat.le_refl _); replace hb := hb1; clear hb1 hk; have s15 := True.intro)
    | (clear s15; go_at_call 57; refine (clo57_any hb hs cp hr I5).mono ?_; rintro e w1 ⟨rfl, hb1, hk⟩; replace cp := cell_later hk cp; replace hr := hr.below hk (Nat.le_refl _); replace hy := hy.below hk (Nat.le_refl _); replace hz := hz.below hk (Nat.le_refl _); replace hu := hu.below hk (Nat.le_refl _); replace hb := hb1; clear hb1 hk; have s16 := True.intro))
  go_ret
  exact ⟨rfl, hb, hb⟩

/-- WireCanonical returns true, and nothing that was there is changed. -/
theorem law9 (ao : Option Addr) (n c : Nat) (l : List UInt8) (w : World) (hr : SlV w ao n c 1 (bvs l)) : Calls Try.prog 9 #[.slice ao n c] w (Nx w w (.bool true)) := by
  by_cases hn : n ≤ 2000
  · exact law9_small ao n c l w hr hn
  · exact law9_big ao n c w (by omega)

end Go.Proofs.Ytcpemgfpiapaaaa
