/- The bytes of a packet, of the reference and of the program. -/
import Derived.Test.YtcpemgfpiapaaaaLkB
import Derived.Test.YtcpemgfpiapaaaaBnd
import Derived.Test.YtcpemgfpiapaaaaCv
import Derived.Lib.QuietBelow
namespace Go.Proofs.Ytcpemgfpiapaaaa
open Go.RowKit

/-- The bytes of a packet, plainly. -/
def pktB (seq ack : Int) (l : List UInt8) : List UInt8 := encL encInt [seq, ack] ++ encBytes ⟨l.toArray⟩

theorem two_inr {a b : Int} (ha : InR a) (hb : InR b) : ∀ x ∈ [a, b], InR x := by
  intro x hx
  simp at hx
  rcases hx with rfl | rfl <;> assumption

theorem two_len (a b : Int) : (encL encInt [a, b]).length ≤ 27 := by
  have := encInts_le [a, b]
  simp at this ⊢
  omega

/-- dioramaref40.Bytes. -/
theorem rpkt_any (seq ack : Int) (h1 : InR seq) (h2 : InR ack) (ao : Option Addr) (n c : Nat) (l : List UInt8) (w : World) (hr : SlV w ao n c 1 (bvs l)) (hn : n ≤ 100000000000) :
    Calls Try.prog 49 #[.agg #[.int .i64 seq, .int .i64 ack, .slice ao n c]] w (GivesB w (pktB seq ack l)) := by
  have hln : l.length = n := by have := hr.len; simpa using this
  have hR := two_inr h1 h2
  have hT := two_len seq ack
  obtain ⟨E, hE⟩ : ∃ E, encL encInt [seq, ack] = E := ⟨_, rfl⟩
  have hsz : (⟨l.toArray⟩ : ByteArray).size = n := by show l.toArray.size = n; simpa using hln
  have hEb := encBytes_len ⟨l.toArray⟩
  rw [hsz] at hEb
  have hT2 : (encL encInt [seq, ack]).length ≤ 1000000000000 := by omega
  rw [hE] at hT
  have HE := Lib.hid hE
  clear hE
  obtain ⟨W2, hW2⟩ : ∃ W2, W2 = (w.alloc (.cells #[.int .i64 seq, .int .i64 ack, .slice ao n c] 62)).alloc (.cells #[.int .i64 seq, .int .i64 ack] 3) := ⟨_, rfl⟩
  have hlit : SlV W2 (some ⟨w.heap.size + 1, 0, none⟩) 2 2 1 ([seq, ack].map iv) := by
    have := lit_sl (w.alloc (.cells #[.int .i64 seq, .int .i64 ack, .slice ao n c] 62)) 3 #[.int .i64 seq, .int .i64 ack] 2 1 ([seq, ack].map iv) rfl rfl (by unfold maxLen; omega)
    rw [hW2]; simpa using this
  have hb0 : Below w.heap.size w W2 := by rw [hW2]; exact ((Below.refl w.heap.size w).alloc (Nat.le_refl _) _).alloc (by simp) _
  have hcl : W2.cell? ⟨w.heap.size, 2, none⟩ = some (.slice ao n c) := by rw [hW2]; simp
  have hsz2 : W2.heap.size = w.heap.size + 2 := by rw [hW2]; simp
  have hbs0 : w.heap.size ≤ W2.heap.size := by omega
  have HW := Lib.hid hW2
  clear hW2
  have s0 := True.intro
  go_enter Try.func49, Try.ntmps49
  go_wp2_with (first
    | (clear s0; go_at_call 25; rw [← HW.out]; refine (rints_any _ _ _ _ _ hlit hR hT2).mono ?_; rw [HE.out]; rintro e w1 ⟨sa, sc, rfl, ho1, hb1⟩; have hbw := hb0.trans (hb1.mono hbs0); have hcl1 := cell_later hb1 hcl; have hr1 := hr.below hbw (Nat.le_refl _); have hbs := hbw.size; have hbs3 := hb1.size; have s1 := True.intro)
    | (clear s1; refine cv_string rfl (.tmp 12) rfl ao n c l rfl hr1 ?_; have s2 := True.intro)
    | (clear s2; go_at_call 23; refine (rbytes_any _ _ (by rw [hsz]; omega)).mono ?_; rintro e w2 ⟨sb, sd, rfl, ho2, hb2⟩; have hbs2 := hb2.size; have ho1' := (ownsRow_below ho1 hb2 (Nat.le_refl _)); have s3 := True.intro)
    | (clear s3; at_builtin; refine ap_bytes rfl (.tmp 10) (.tmp 14) rfl W2.heap.size _ _ E _ _ rfl rfl ho1' _ _ _ rfl rfl ho2.sl (by omega) (by omega) ?_; intro a3 c3 w3 ho3 hb3; have s4 := True.intro))
  go_ret
  refine ⟨a3, c3, ?_, ?_, hbw.trans ((hb2.mono hbs).trans (hb3.mono hbs0))⟩
  · unfold pktB; rw [HE.out, List.length_append]; rfl
  · unfold pktB; rw [HE.out]; exact ho3.base hbs0

end Go.Proofs.Ytcpemgfpiapaaaa
