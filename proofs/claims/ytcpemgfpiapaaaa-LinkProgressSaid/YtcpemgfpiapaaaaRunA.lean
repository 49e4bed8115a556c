/- What a call leaves of an end's bounds, in plain Lean. -/
import Derived.Test.YtcpemgfpiapaaaaLw
namespace Go.Proofs.Ytcpemgfpiapaaaa

theorem deliv_none (D : Nat) : ∀ (f d : Nat) (hh : Int → Option (List UInt8)) (out : List (List UInt8)), d + f = D + 17 → (∀ q l, hh q = some l → q ≤ D + 16) →
    (delivF f d hh out).2.1 (((delivF f d hh out).1 : Int) + 1) = none
  | 0, d, hh, out, hd, h => by
    show hh ((d : Int) + 1) = none
    cases hq : hh ((d : Int) + 1) with
    | none => rfl
    | some l => have := h _ _ hq; omega
  | f + 1, d, hh, out, hd, h => by
    cases hq : hh ((d : Int) + 1) with
    | none => simp only [delivF, hq]
    | some l =>
      simp only [delivF, hq]
      refine deliv_none D f (d + 1) _ _ (by omega) (fun q l' hq' => ?_)
      by_cases e : q = (d : Int) + 1
      · subst e; rw [delH_same] at hq'; cases hq'
      · rw [delH_other _ e] at hq'; exact h q l' hq'

theorem ackM_bounds (M : EndM) {ack : Int} (h1 : ¬ (M.acked : Int) + M.waiting.length < ack) : M.acked ≤ (ackM M ack).acked ∧ (ackM M ack).acked + (ackM M ack).waiting.length = M.acked + M.waiting.length ∧ (ackM M ack).forged = M.forged ∧ (ackM M ack).window = M.window := by
  unfold ackM
  split
  · rename_i hp
    refine ⟨by show M.acked ≤ ack.toNat; omega, ?_, rfl, rfl⟩
    show ack.toNat + (M.waiting.drop (ack - M.acked).toNat).length = _
    rw [List.length_drop]
    omega
  · exact ⟨Nat.le_refl _, rfl, rfl, rfl⟩

/-- An end after i calls. -/
structure RunP (M : EndM) (key i : Nat) : Prop where
  wf : Wf M
  key : M.key = key
  gap : M.held ((M.delivered : Int) + 1) = none
  sum : M.acked + M.waiting.length ≤ i
  del : M.delivered ≤ 16 * i
  forg : M.forged ≤ i

theorem RunP.new {win key : Nat} (h1 : 1 ≤ win) (h2 : win ≤ 16) (h3 : key < 18446744073709551616) : RunP (newM win key) key 0 :=
  ⟨newM_wf h1 h2 h3, rfl, rfl, Nat.le_refl _, Nat.le_refl _, Nat.le_refl _⟩

theorem RunP.up {M : EndM} {key i : Nat} (h : RunP M key i) : RunP M key (i + 1) := ⟨h.wf, h.key, h.gap, by have := h.sum; omega, by have := h.del; omega, by have := h.forg; omega⟩

theorem RunP.small {M : EndM} {key i : Nat} (h : RunP M key i) (hi : i ≤ 100) : M.acked ≤ 999000000 ∧ M.delivered ≤ 999000000 := by
  have := h.sum; have := h.del; omega

theorem RunP.send {M : EndM} {key i : Nat} (h : RunP M key i) (b : List UInt8) : RunP (sendM M b).1 key (i + 1) := by
  have hw := sendM_wf h.wf b
  unfold sendM at hw ⊢
  split
  · exact h.up
  · rename_i hn
    rw [if_neg hn] at hw
    exact ⟨hw, h.key, h.gap, by have := h.sum; simp; omega, by have := h.del; show M.delivered ≤ _; omega, by have := h.forg; show M.forged ≤ _; omega⟩

theorem RunP.out {M : EndM} {key i : Nat} (h : RunP M key i) : RunP (outM M) key (i + 1) :=
  ⟨outM_wf h.wf, h.key, h.gap, by have := h.sum; show M.acked + M.waiting.length ≤ _; omega, by have := h.del; show M.delivered ≤ _; omega, by have := h.forg; show M.forged ≤ _; omega⟩

theorem RunP.in_ {M : EndM} {key i : Nat} (h : RunP M key i) (hi : i ≤ 100) (b : List UInt8) : RunP (inM M b).1 key (i + 1) := by
  have hs := h.sum
  have hd := h.del
  have hf := h.forg
  have hw := h.wf
  unfold inM
  split
  · split
    · exact ⟨⟨hw.win, hw.key, hw.wait, hw.rows, hw.ack, hw.del, by show M.forged + 1 ≤ _; omega, hw.hold⟩, h.key, h.gap, by show M.acked + M.waiting.length ≤ _; omega, by show M.delivered ≤ _; omega, by show M.forged + 1 ≤ _; omega⟩
    · exact h.up
  · split
    · exact h.up
    · rename_i seq ack l hrd
      have hva := read_valid hrd
      split
      · exact h.up
      · rename_i hfar
        have hA : ¬ (M.acked : Int) + M.waiting.length < ack := fun e => hfar (.inl e)
        have hB : ¬ (M.delivered : Int) + 16 < seq := fun e => hfar (.inr e)
        obtain ⟨a1, a2, a3, a4⟩ := ackM_bounds M hA
        obtain ⟨b1, b2, b3⟩ := ackM_fields M ack
        have hwA := ackM_wf hw (ack := ack) (by omega) (by omega)
        split
        · exact ⟨hwA, b3.trans h.key, by rw [b1, b2]; exact h.gap, by rw [a2]; omega, by rw [b1]; omega, by rw [a3]; omega⟩
        · have hwH := holdM_wf hwA (seq := seq) (l := l) (by rw [b1]; omega) hva.2.2.1
          have e1 : (holdM (ackM M ack) seq l).delivered = M.delivered := b1
          obtain ⟨c1, c2, c3, c4⟩ := delivM_wf hwH (by rw [e1]; omega)
          refine ⟨c1, b3.trans h.key, ?_, ?_, by rw [e1] at c4; show (delivM (holdM (ackM M ack) seq l)).delivered ≤ _; omega, by show (ackM M ack).forged ≤ _; rw [a3]; omega⟩
          · exact deliv_none _ 17 _ _ _ rfl (fun q l' hq => (hwH.hold q l' hq).2.1)
          · show (ackM M ack).acked + (ackM M ack).waiting.length ≤ _
            rw [a2]; omega

theorem pkt_low (a b : Int) (l : List UInt8) : 4 ≤ (pktB a b l).length := by
  unfold pktB encL encBytes
  simp only [List.map_cons, List.map_nil, List.flatten_cons, List.flatten_nil, List.length_append, List.length_cons, List.length_nil]
  have h1 := (encInt_len ((0 + 1 + 1 : Nat) : Int)).1
  have h2 := (encInt_len a).1
  have h3 := (encInt_len b).1
  have h4 := (encInt_len (((⟨l.toArray⟩ : ByteArray).size : Nat) : Int)).1
  omega

/-- Every packet that is sent has a packet's length. -/
theorem out_len {M : EndM} (h : Wf M) : ∀ l ∈ outP M, 12 ≤ l.length ∧ l.length ≤ 100000 := by
  intro l hl
  have hp : ∀ (a b : Int) (x : List UInt8), x.length ≤ 65536 → 12 ≤ (sealB M.key (pktB a b x)).length ∧ (sealB M.key (pktB a b x)).length ≤ 100000 := fun a b x hx => by
    have h1 := pkt_low a b x
    have h2 := pkt_len a b x
    rw [sealB_length]
    omega
  unfold outP at hl
  split at hl
  · simp only [List.mem_singleton] at hl
    subst hl
    exact hp _ _ _ (by simp)
  · unfold outL at hl
    obtain ⟨i, hi, rfl⟩ := List.mem_mapIdx.1 hl
    exact hp _ _ _ (h.rows _ (List.mem_of_mem_take (List.getElem_mem hi)))

theorem out_few {M : EndM} (h : Wf M) : (outP M).length ≤ 16 := by
  unfold outP
  split
  · simp
  · rw [outL_len]; have := h.win; omega

end Go.Proofs.Ytcpemgfpiapaaaa
