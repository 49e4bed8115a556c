/- The two ends of a link, as the laws make them. -/
import Derived.Test.YtcpemgfpiapaaaaLw
import Derived.Test.YtcpemgfpiapaaaaLives
namespace Go.Proofs.Ytcpemgfpiapaaaa
open Go.RowKit

theorem inr_quo {x : Int} (h : InR x) : InR (x.tdiv 16) := by
  unfold InR at h ⊢
  rcases Int.le_total 0 x with h0 | h0
  · rw [Int.tdiv_eq_ediv_of_nonneg h0]; omega
  · have e : x.tdiv 16 = -((-x).tdiv 16) := by rw [Int.neg_tdiv]; omega
    rw [e, Int.tdiv_eq_ediv_of_nonneg (by omega)]; omega

set_option maxRecDepth 100000 in
set_option maxHeartbeats 1000000 in
/-- ends. -/
theorem ends_any (W : World) (win : Int) (hw : InR win) (key : Nat) (a0 a1 : Nat) (h0 : around win 16 = (a0 : Int)) (h1 : around (win.tdiv 16) 16 = (a1 : Int)) (l0 : a0 < 16) (l1 : a1 < 16) :
    Calls Try.prog 58 #[.int .i64 win, .int .u64 (key : Int)] W (fun e w' => ∃ c' eb p0 p1, e = .returned (.slice (some ⟨eb, 0, none⟩) 2 2) ∧ LS W w' c' ∧ EndV c' 1 w' p0 (newM (1 + a0) key) ∧ EndV c' 2 w' p1 (newM (1 + a1) key) ∧ c' eb = 0 ∧
      w'.heap[eb]? = some (.cells #[.pointer (some ⟨p0, 0, none⟩), .pointer (some ⟨p1, 0, none⟩)] 57 (0, 0))) := by
  have hL0 := LS.start W
  have e0 : IntKind.i64.wrap (1 + (a0 : Int)) = ((1 + a0 : Nat) : Int) := by rw [IntWalk.i64_in _ (by omega)]; omega
  have e1 : IntKind.i64.wrap (1 + (a1 : Int)) = ((1 + a1 : Nat) : Int) := by rw [IntWalk.i64_in _ (by omega)]; omega
  have hq := inr_quo hw
  have hw1 : -9223372036854775808 ≤ win := hw.1
  have hw2 : win ≤ 9223372036854775807 := hw.2
  have s0 := True.intro
  go_enter Try.func58, Try.ntmps58
  go_wp2_with (first
    | (clear s0; go_at_call 45; refine (around_any win 16 hw (by omega) _).mono ?_; rw [h0]; rintro e w1 ⟨rfl, rfl⟩; have s1 := True.intro)
    | (clear s1; go_at_call 47; refine (lx_new hL0 1 (1 + a0) key (by decide) (by omega) (by omega)).mono ?_; rintro e w2 ⟨c2, p0, rfl, hL2, st2, hA2⟩; have s2 := True.intro)
    | (clear s2; go_at_call 45; refine (around_any (win.tdiv 16) 16 hq (by omega) _).mono ?_; rw [h1]; rintro e w3 ⟨rfl, rfl⟩; have s3 := True.intro)
    | (clear s3; go_at_call 47; refine (lx_new hL2 2 (1 + a1) key (by decide) (by omega) (by omega)).mono ?_; rintro e w4 ⟨c4, p1, rfl, hL4, st4, hB4⟩; have hA4 := hA2.stp st4 (by decide) (by decide); have s4 := True.intro))
  go_ret
  have hb := (Below.refl w4.heap.size w4).alloc (Nat.le_refl _) (.cells #[.pointer (some ⟨p0, 0, none⟩), .pointer (some ⟨p1, 0, none⟩)] 57)
  exact ⟨c4, w4.heap.size, p0, p1, rfl, hL4.step hb, hA4.below hL4.fr hb, hB4.below hL4.fr hb, hL4.fr _ (Nat.le_refl _), heap_alloc_new w4 _⟩

end Go.Proofs.Ytcpemgfpiapaaaa
