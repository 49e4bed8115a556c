/- The conversion of a string to bytes, as an equation. The plain reading of a packet, and that it reads what was written; no program in sight. packet.valid. -/
import Derived.Test.YtcpemgfpiapaaaaMem
import Derived.Test.YtcpemgfpiapaaaaPkt
namespace Go.Proofs.Ytcpemgfpiapaaaa
open Go.RowKit

theorem cv_run2 (w : World) (st : ByteArray) (hst : st.size ≤ 140737488355328) : ∃ ao cap w', (convert 9 28 (.string st)).run Try.prog w = .ok (.slice ao st.size cap) w' ∧ SlV w' ao st.size cap 1 (bvs st.data.toList) ∧ Below w.heap.size w w' ∧ ∀ a, ao = some a → w.heap.size ≤ a.block := by
  have hrun := run_bytes_of_string (P := Try.prog) w 9 28 5 st Try.underlying9 Try.underlying28 Try.underlying5
  have hm : st.size ≤ maxLen := by unfold maxLen; omega
  refine ⟨_, _, _, hrun, ?_, (Below.refl _ _).drew.alloc (Nat.le_refl _) _, fun a ha => by cases ha; exact Nat.le_refl _⟩
  refine ⟨by rw [bvs_length, Nat.mul_one]; rfl, grownCap_ge _ _ _ _, grownCap_le_maxLen _ _ _ _ hm, fun e => by (cases e), fun a ha j u hj => ?_⟩
  cases ha
  have hj' : j < st.data.size := by
    have := (List.getElem?_eq_some_iff.1 hj).1
    simpa using this
  have hb := heap_alloc_new w.drew (.cells (bytesRow st (grownCap w st.size 0 5)) 5 ((bytesRow st (grownCap w st.size 0 5)).size, (bytesRow st (grownCap w st.size 0 5)).size + 1))
  rw [Addr.add_lit, Nat.zero_add]
  refine (cell_of_row _ _ _ _ _ _ hb).trans ?_
  rw [bytesRow, Array.getElem?_append_left (by simpa using hj'), ← hj]
  simp [bvs]
  rfl

/-- A slice that lies elsewhere stands behind a store. -/
theorem SlV.set {w : World} {ao : Option Addr} {n c size : Nat} {xs : List Value} (h : SlV w ao n c size xs) {p : Addr} (hp : ∀ a, ao = some a → a.block ≠ p.block) (v : Value) : SlV (w.setCell p v) ao n c size xs :=
  ⟨h.len, h.le, h.top, h.nil, fun a ha j u hj => by
    have hb : (a.add j).block = a.block := by unfold Addr.add; split <;> rfl
    rw [World.cell?_setCell_other _ _ _ _ (by intro e; exact hp a ha (by rw [← hb, ← e]))]
    exact h.cell a ha j u hj⟩

end Go.Proofs.Ytcpemgfpiapaaaa

namespace Go.Proofs.Ytcpemgfpiapaaaa

/-- A packet can have been sent. -/
def validP (seq ack : Int) (l : List UInt8) : Prop := 0 ≤ seq ∧ 0 ≤ ack ∧ l.length ≤ 65536 ∧ (0 < seq ∨ l.length = 0)

instance (seq ack : Int) (l : List UInt8) : Decidable (validP seq ack l) := by unfold validP; infer_instance

/-- The packet with these bytes. -/
def readB (x : List UInt8) : Option (Int × Int × List UInt8) :=
  match decList 1 decInt x with
  | ([seq, ack], n, 0) => match decBytes (x.drop n) with
    | (s, m, 0) => if n + m = x.length ∧ validP seq ack s.data.toList then some (seq, ack, s.data.toList) else none
    | _ => none
  | _ => none

theorem read_pkt {seq ack : Int} (h1 : InR seq) (h2 : InR ack) {l : List UInt8} (hv : validP seq ack l) : readB (pktB seq ack l) = some (seq, ack, l) := by
  have hsz : (⟨l.toArray⟩ : ByteArray).size = l.length := by show l.toArray.size = _; simp
  have hl : l.length ≤ 65536 := hv.2.2.1
  have a := decInts_enc (l := [seq, ack]) (two_inr h1 h2) (by simp) (encBytes ⟨l.toArray⟩)
  have b := dec_enc_bytes (s := ⟨l.toArray⟩) (by rw [hsz]; omega) []
  rw [List.append_nil] at b
  unfold readB pktB
  rw [a]
  simp only [List.drop_left, b]
  rw [if_pos ⟨by rw [List.length_append], by simpa using hv⟩]

end Go.Proofs.Ytcpemgfpiapaaaa

namespace Go.Proofs.Ytcpemgfpiapaaaa
open Go.RowKit

def validN (seq ack : Int) (n : Nat) : Bool := decide (0 ≤ seq ∧ 0 ≤ ack ∧ n ≤ 65536 ∧ (0 < seq ∨ n = 0))

/-- packet.valid. -/
theorem valid_any (seq ack : Int) (ao : Option Addr) (n c : Nat) (w : World) (hn : n ≤ 1000000000000) :
    Calls Try.prog 79 #[.agg #[.int .i64 seq, .int .i64 ack, .slice ao n c]] w (fun e w' => e = .returned (.bool (validN seq ack n)) ∧ Below w.heap.size w w') := by
  have hb := (Below.refl w.heap.size w).alloc (Nat.le_refl _) (.cells #[.int .i64 seq, .int .i64 ack, .slice ao n c] 103)
  by_cases h1 : 0 ≤ seq
  · by_cases h2 : 0 ≤ ack
    · by_cases h3 : n ≤ 65536
      · by_cases h4 : 0 < seq
        · have e : validN seq ack n = true := by unfold validN; simp; omega
          rw [e]
          clear e
          go_enter Try.func79, Try.ntmps79
          go_wp2
          go_ret
          exact ⟨rfl, hb⟩
        · by_cases h5 : n = 0
          · have e : validN seq ack n = true := by unfold validN; simp; omega
            rw [e]
            clear e
            subst h5
            go_enter Try.func79, Try.ntmps79
            go_wp2
            go_ret
            exact ⟨rfl, hb⟩
          · have e : validN seq ack n = false := by unfold validN; simp; omega
            rw [e]
            clear e
            have e5 : ((n : Int) == 0) = false := by simp; omega
            go_enter Try.func79, Try.ntmps79
            go_wp2
            go_ret
            exact ⟨rfl, hb⟩
      · have e : validN seq ack n = false := by unfold validN; simp; omega
        rw [e]
        clear e
        go_enter Try.func79, Try.ntmps79
        go_wp2
        go_ret
        exact ⟨rfl, hb⟩
    · have e : validN seq ack n = false := by unfold validN; simp; omega
      rw [e]
      clear e
      go_enter Try.func79, Try.ntmps79
      go_wp2
      go_ret
      exact ⟨rfl, hb⟩
  · have e : validN seq ack n = false := by unfold validN; simp; omega
    rw [e]
    clear e
    go_enter Try.func79, Try.ntmps79
    go_wp2
    go_ret
    exact ⟨rfl, hb⟩

end Go.Proofs.Ytcpemgfpiapaaaa
