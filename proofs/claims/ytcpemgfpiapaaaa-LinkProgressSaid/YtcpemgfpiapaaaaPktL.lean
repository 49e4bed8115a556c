/- The bytes of a packet, of the program. -/
import Derived.Test.YtcpemgfpiapaaaaPkt
import Derived.Deep.RegionHeld3
namespace Go.Proofs.Ytcpemgfpiapaaaa
open Go.RowKit

set_option maxHeartbeats 1000000 in
theorem lpkt_any (seq ack : Int) (h1 : InR seq) (h2 : InR ack) (ao : Option Addr) (n c : Nat) (l : List UInt8) (w : World) (hr : SlV w ao n c 1 (bvs l)) (hn : n ≤ 100000000000) :
    Calls Try.prog 73 #[.agg #[.int .i64 seq, .int .i64 ack, .slice ao n c]] w (GivesB w (pktB seq ack l)) := by
  have hln : l.length = n := by have := hr.len; simpa using this
  have hR := two_inr h1 h2
  have hT := two_len seq ack
  obtain ⟨E, hE⟩ : ∃ E, encL encInt [seq, ack] = E := ⟨_, rfl⟩
  obtain ⟨F, hF⟩ : ∃ F, encBytes ⟨l.toArray⟩ = F := ⟨_, rfl⟩
  have hsz : (⟨l.toArray⟩ : ByteArray).size = n := by show l.toArray.size = n; simpa using hln
  have hEb := encBytes_len ⟨l.toArray⟩
  rw [hsz, hF] at hEb
  have hT2 : (encL encInt [seq, ack]).length ≤ 1000000000000 := by omega
  rw [hE] at hT
  have HE := Lib.hid hE
  have HF := Lib.hid hF
  clear hE hF
  have hb01 : Below w.heap.size w ((w.alloc (.cells #[.int .i64 seq, .int .i64 ack, .slice ao n c] 103)).drew) := ((Below.refl w.heap.size w).alloc (Nat.le_refl _) _).drew
  have hb0 : Below w.heap.size w (((w.alloc (.cells #[.int .i64 seq, .int .i64 ack, .slice ao n c] 103)).alloc (.cells #[.int .i64 seq, .int .i64 ack] 3)).drew) := (((Below.refl w.heap.size w).alloc (Nat.le_refl _) _).alloc (by simp) _).drew
  obtain ⟨W1, hW1⟩ : ∃ W1, W1 = w.alloc (.cells #[.int .i64 seq, .int .i64 ack, .slice ao n c] 103) := ⟨_, rfl⟩
  have hS : ∀ w' : World, Below W1.heap.size W1 w' → w'.cell? ⟨w.heap.size, 0, none⟩ = some (.int .i64 seq) ∧ w'.cell? ⟨w.heap.size, 1, none⟩ = some (.int .i64 ack) ∧ w'.cell? ⟨w.heap.size, 2, none⟩ = some (.slice ao n c) ∧ (convert 28 9 (.slice ao n c)).run Try.prog w' = .ok (.string ⟨l.toArray⟩) w' := by
    intro w' hw'
    have hs1 : w.heap.size < W1.heap.size := by rw [hW1]; simp
    have hw1 : Below w.heap.size w W1 := by rw [hW1]; exact (Below.refl _ _).alloc (Nat.le_refl _) _
    refine ⟨?_, ?_, ?_, cv_run ((hr.below hw1 (Nat.le_refl _)).below hw' (Nat.le_refl _))⟩
    · rw [hw'.cell (p := ⟨w.heap.size, 0, none⟩) hs1, hW1]; simp
    · rw [hw'.cell (p := ⟨w.heap.size, 1, none⟩) hs1, hW1]; simp
    · rw [hw'.cell (p := ⟨w.heap.size, 2, none⟩) hs1, hW1]; simp
  rw [hW1] at hS
  clear hW1
  have k0 := (Below.refl (w.alloc (.cells #[.int .i64 seq, .int .i64 ack, .slice ao n c] 103)).heap.size (w.alloc (.cells #[.int .i64 seq, .int .i64 ack, .slice ao n c] 103))).drew
  have k1 := k0.alloc (Nat.le_refl _) (.cells #[.int .i64 seq, .int .i64 ack] 3)
  have hlit : SlV (((w.alloc (.cells #[.int .i64 seq, .int .i64 ack, .slice ao n c] 103)).alloc (.cells #[.int .i64 seq, .int .i64 ack] 3)).drew) (some ⟨w.heap.size + 1, 0, none⟩) 2 2 1 ([seq, ack].map iv) := by
    have := lit_sl (w.alloc (.cells #[.int .i64 seq, .int .i64 ack, .slice ao n c] 103)) 3 #[.int .i64 seq, .int .i64 ack] 2 1 ([seq, ack].map iv) rfl rfl (by unfold maxLen; omega)
    have h2 := this.drew
    simpa using h2
  have hcl : (((w.alloc (.cells #[.int .i64 seq, .int .i64 ack, .slice ao n c] 103)).alloc (.cells #[.int .i64 seq, .int .i64 ack] 3)).drew).cell? ⟨w.heap.size, 2, none⟩ = some (.slice ao n c) := by simp
  go_enter Try.func73, Try.ntmps73
  go_upto_region 1 with fail
  go_region_held3 (fun w' => w'.cell? ⟨w.heap.size, 0, none⟩ = some (.int .i64 seq) ∧ w'.cell? ⟨w.heap.size, 1, none⟩ = some (.int .i64 ack) ∧ w'.cell? ⟨w.heap.size, 2, none⟩ = some (.slice ao n c) ∧ (convert 28 9 (.slice ao n c)).run Try.prog w' = .ok (.string ⟨l.toArray⟩) w') (first | exact hS _ k0 | exact hS _ k1 | exact hS _ k2 | exact hS _ k3 | exact hS _ (k3.alloc k3.size _) | exact hS _ k4)
    (first
    | (go_at_call 24; refine (ints_any _ _ _ _ _ hlit hR hT2).mono ?_; rw [HE.out]; rintro e w1 ⟨sa, sc, rfl, ho1, hb1⟩; have hbw := hb0.trans (hb1.mono hb0.size); have k2 := k1.trans (hb1.mono k1.size))
    | (go_at_call 22; refine (bytes_any _ _ (by rw [hsz]; omega)).mono ?_; rw [HF.out]; rintro e w2 ⟨sb, sd, rfl, ho2, hb2⟩; have hbw2 := hbw.trans (hb2.mono hbw.size); have ho1' := (ho1.sl.below hb2 (Nat.le_refl _)); have k3 := k2.trans (hb2.mono k2.size))
    | (go_at_call 68; refine (concat_any _ 2 2 [E, F] _ (lit_rows (ho1'.row.cons2 ho2.sl.row) rfl rfl (by simp) rfl) (by simp; omega) (by decide)).mono ?_; rintro e w3 h3; have h4 := gives_from (hbw2.alloc hbw2.size _) h3; have h5 := gives_from (k3.alloc k3.size _) h3; obtain ⟨a3, c3, rfl, ho3, hb3⟩ := h4; obtain ⟨_, _, _, _, k4⟩ := h5))
  all_goals go_wp2_with fail
  all_goals go_ret
  have e : [E, F].flatten = pktB seq ack l := by unfold pktB; rw [HE.out, HF.out]; simp
  have e2 : (pktB seq ack l).length = [E, F].flatten.length := by rw [e]
  refine ⟨a3, c3, ?_, by rw [← e]; exact ho3, hb3⟩
  rw [e2]
  first | rfl | (simp; rfl) | simp

end Go.Proofs.Ytcpemgfpiapaaaa
