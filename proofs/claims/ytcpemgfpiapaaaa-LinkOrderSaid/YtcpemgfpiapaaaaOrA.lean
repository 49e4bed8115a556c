/- Order, in plain Lean: what two ends that get each other's packets alone deliver. -/
import Derived.Test.YtcpemgfpiapaaaaRunA
namespace Go.Proofs.Ytcpemgfpiapaaaa

def upd {α : Type} (f : Nat → α) (k : Nat) (v : α) : Nat → α := fun j => if j = k then v else f j
theorem upd_same {α : Type} (f : Nat → α) (k : Nat) (v : α) : upd f k v k = v := by simp [upd]
theorem upd_other {α : Type} (f : Nat → α) {k j : Nat} (h : j ≠ k) (v : α) : upd f k v j = f j := by simp [upd, h]

/-- A packet that an end can get: D messages are delivered at the other one, that has sent those of X. -/
def PkI (l : List UInt8) (key : Nat) (X : List (List UInt8)) (D : Nat) : Prop :=
  ∃ (seq ack : Int) (x : List UInt8), l = sealB key (pktB seq ack x) ∧ validP seq ack x ∧ ack ≤ D ∧ seq ≤ 1000 ∧ (seq = 0 ∨ ∃ n : Nat, seq = n + 1 ∧ X[n]? = some x)

theorem PkI.grow {l : List UInt8} {key : Nat} {X Y : List (List UInt8)} {D E : Nat} (h : PkI l key X D) (hDE : D ≤ E) : PkI l key (X ++ Y) E := by
  obtain ⟨seq, ack, x, h1, h2, h3, h4, h5⟩ := h
  refine ⟨seq, ack, x, h1, h2, by omega, h4, ?_⟩
  rcases h5 with h5 | ⟨n, h5, h6⟩
  · exact .inl h5
  · exact .inr ⟨n, h5, by rw [List.getElem?_append_left (List.getElem?_eq_some_iff.1 h6).1]; exact h6⟩

/-- An end of the order's law: what it has sent, what the other one has. -/
structure OE (M : EndM) (X Y : List (List UInt8)) (E key q : Nat) : Prop where
  run : RunP M key q
  wait : M.waiting = X.drop M.acked
  own : M.acked ≤ X.length
  few : X.length ≤ q
  ack : M.acked ≤ E
  del : M.delivered ≤ Y.length
  hold : ∀ s l, M.held s = some l → ∃ n : Nat, s = n + 1 ∧ Y[n]? = some l
  forg : M.forged = 0

theorem OE.new {win key : Nat} (h1 : 1 ≤ win) (h2 : win ≤ 16) (h3 : key < 18446744073709551616) : OE (newM win key) [] [] 0 key 0 :=
  ⟨RunP.new h1 h2 h3, rfl, Nat.le_refl _, Nat.le_refl _, Nat.le_refl _, Nat.le_refl _, fun s l h => (by cases h), rfl⟩

theorem OE.up {M : EndM} {X Y : List (List UInt8)} {E key q : Nat} (h : OE M X Y E key q) : OE M X Y E key (q + 1) :=
  ⟨h.run.up, h.wait, h.own, by have := h.few; omega, h.ack, h.del, h.hold, h.forg⟩

/-- The other end goes on. -/
theorem OE.peer {M : EndM} {X Y Z : List (List UInt8)} {E E' key q : Nat} (h : OE M X Y E key q) (hE : E ≤ E') : OE M X (Y ++ Z) E' key (q + 1) :=
  ⟨h.run.up, h.wait, h.own, by have := h.few; omega, by have := h.ack; omega, by have := h.del; rw [List.length_append]; omega, fun s l hs => by
    obtain ⟨n, e, hn⟩ := h.hold s l hs
    exact ⟨n, e, by rw [List.getElem?_append_left (List.getElem?_eq_some_iff.1 hn).1]; exact hn⟩, h.forg⟩

theorem OE.send {M : EndM} {X Y : List (List UInt8)} {E key q : Nat} (h : OE M X Y E key q) (hq : q ≤ 100) {b : List UInt8} (hb : b.length ≤ 65536) : (sendM M b).2 = 0 ∧ OE (sendM M b).1 (X ++ [b]) Y E key (q + 1) ∧ (sendM M b).1.delivered = M.delivered := by
  have hs := h.run.sum
  have hr := h.run.send b
  rw [send_ok M b hb (by omega)] at hr ⊢
  refine ⟨rfl, ⟨hr, ?_, ?_, ?_, h.ack, h.del, h.hold, h.forg⟩, rfl⟩
  · show M.waiting ++ [b] = (X ++ [b]).drop M.acked
    rw [List.drop_append_of_le_length h.own, h.wait]
  · show M.acked ≤ (X ++ [b]).length
    have := h.own
    rw [List.length_append]; omega
  · have := h.few
    rw [List.length_append]; simp; omega

theorem OE.out {M : EndM} {X Y : List (List UInt8)} {E key q : Nat} (h : OE M X Y E key q) (hq : q ≤ 100) : OE (outM M) X Y E key (q + 1) ∧ ∀ l ∈ outP M, PkI l key X M.delivered := by
  refine ⟨⟨h.run.out, h.wait, h.own, by have := h.few; omega, h.ack, h.del, h.hold, h.forg⟩, fun l hl => ?_⟩
  have hd := h.run.del
  have hk := h.run.key
  unfold outP at hl
  split at hl
  · simp only [List.mem_singleton] at hl
    subst hl
    unfold outAck
    rw [hk]
    exact ⟨0, _, [], rfl, ⟨by omega, by omega, by decide, .inr rfl⟩, by omega, by omega, .inl rfl⟩
  · unfold outL at hl
    obtain ⟨i, hi, rfl⟩ := List.mem_mapIdx.1 hl
    have hiw : i < M.waiting.length := by rw [List.length_take] at hi; omega
    have hx : (M.waiting.take M.window)[i] = M.waiting[i] := by rw [List.getElem_take]
    rw [hx]
    have hX : X[M.acked + i]? = some M.waiting[i] := by
      have e2 : M.waiting[i]? = X[M.acked + i]? := by rw [h.wait, List.getElem?_drop]
      exact e2.symm.trans (List.getElem?_eq_getElem hiw)
    have hXl := (List.getElem?_eq_some_iff.1 hX).1
    have hfe := h.few
    unfold outW
    rw [hk]
    exact ⟨_, _, _, rfl, ⟨by omega, by omega, h.run.wf.rows _ (List.getElem_mem hiw), .inl (by omega)⟩, by omega, by omega, .inr ⟨M.acked + i, by omega, hX⟩⟩

theorem deliv_order (Y : List (List UInt8)) : ∀ (f d : Nat) (hh : Int → Option (List UInt8)) (out : List (List UInt8)), (∀ s l, hh s = some l → ∃ n : Nat, s = n + 1 ∧ Y[n]? = some l) → d ≤ Y.length →
    d ≤ (delivF f d hh out).1 ∧ (delivF f d hh out).1 ≤ Y.length ∧ (delivF f d hh out).2.2 = out ++ (Y.drop d).take ((delivF f d hh out).1 - d) ∧ (∀ s l, (delivF f d hh out).2.1 s = some l → ∃ n : Nat, s = n + 1 ∧ Y[n]? = some l)
  | 0, d, hh, out, h, hd => by simp [delivF, hd]; exact h
  | f + 1, d, hh, out, h, hd => by
    cases hq : hh ((d : Int) + 1) with
    | none => simp only [delivF, hq]; exact ⟨Nat.le_refl _, hd, by simp, h⟩
    | some l =>
      simp only [delivF, hq]
      obtain ⟨n, e, hn⟩ := h _ _ hq
      obtain rfl : n = d := by omega
      have hlt := (List.getElem?_eq_some_iff.1 hn).1
      obtain ⟨a, b, c, g⟩ := deliv_order Y f (n + 1) (delH hh ((n : Int) + 1)) (out ++ [l]) (fun s l' hs => by
        by_cases e : s = (n : Int) + 1
        · subst e; rw [delH_same] at hs; cases hs
        · rw [delH_other _ e] at hs; exact h s l' hs) hlt
      refine ⟨by omega, b, ?_, g⟩
      rw [c, List.append_assoc]
      congr 1
      obtain ⟨m, hm⟩ : ∃ m, (delivF f (n + 1) (delH hh ((n : Int) + 1)) (out ++ [l])).1 = n + 1 + m := ⟨(delivF f (n + 1) (delH hh ((n : Int) + 1)) (out ++ [l])).1 - (n + 1), by omega⟩
      rw [hm, show n + 1 + m - (n + 1) = m by omega, show n + 1 + m - n = m + 1 by omega]
      have hdr : Y.drop n = l :: Y.drop (n + 1) := by
        rw [List.drop_eq_getElem_cons hlt]
        congr 1
        have := (List.getElem?_eq_some_iff.1 hn).2
        exact this
      rw [hdr, List.take_succ_cons]
      rfl

theorem OE.in_ {M : EndM} {X Y : List (List UInt8)} {E key q : Nat} (h : OE M X Y E key q) (hq : q ≤ 100) (hE : E ≤ X.length) {l : List UInt8} (hp : PkI l key Y E) :
    ∃ M' xs, inM M l = (M', xs, 0) ∧ OE M' X Y E key (q + 1) ∧ M'.delivered = M.delivered + xs.length ∧ ∀ (i : Nat) x, xs[i]? = some x → Y[M.delivered + i]? = some x := by
  obtain ⟨seq, ack, x, rfl, hv, h3, h4, h5⟩ := hp
  have hk := h.run.key
  have hr := h.run.in_ hq (sealB key (pktB seq ack x))
  have hfe := h.few
  have hv0 := hv.1
  have hv1 := hv.2.1
  have e := in_pkt M (seq := seq) (ack := ack) (l := x) (by unfold InR; omega) (by unfold InR; omega) hv
  rw [hk] at e
  rw [e] at hr ⊢
  have hsum : (M.acked : Int) + M.waiting.length = X.length := by have := h.own; rw [h.wait, List.length_drop]; omega
  by_cases hfar : (M.acked : Int) + M.waiting.length < ack ∨ (M.delivered : Int) + 16 < seq
  · rw [if_pos hfar] at hr ⊢
    exact ⟨M, [], rfl, h.up, rfl, fun i x hx => by simp at hx⟩
  · rw [if_neg hfar] at hr ⊢
    have hA : ¬ (M.acked : Int) + M.waiting.length < ack := fun e => hfar (.inl e)
    obtain ⟨b1, b2, b3⟩ := ackM_fields M ack
    obtain ⟨a1, a2, a3, a4⟩ := ackM_bounds M hA
    have hw : (ackM M ack).waiting = X.drop (ackM M ack).acked ∧ (ackM M ack).acked ≤ X.length ∧ (ackM M ack).acked ≤ E := by
      have hown := h.own
      have hac := h.ack
      unfold ackM
      split
      · rename_i hpos
        refine ⟨?_, by show ack.toNat ≤ _; omega, by show ack.toNat ≤ _; omega⟩
        show M.waiting.drop (ack - M.acked).toNat = X.drop ack.toNat
        rw [h.wait, List.drop_drop]
        congr 1
        omega
      · exact ⟨h.wait, hown, hac⟩
    by_cases h0 : seq = 0
    · rw [if_pos h0] at hr ⊢
      exact ⟨_, [], rfl, ⟨hr, hw.1, hw.2.1, by omega, hw.2.2, by rw [b1]; exact h.del, by rw [b2]; exact h.hold, by rw [a3]; exact h.forg⟩, b1, fun i x hx => by simp at hx⟩
    · rw [if_neg h0] at hr ⊢
      obtain ⟨n, rfl, hn⟩ : ∃ n : Nat, seq = n + 1 ∧ Y[n]? = some x := by
        rcases h5 with h5 | h5
        · exact absurd h5 h0
        · exact h5
      have hH : ∀ s l, (holdM (ackM M ack) ((n : Int) + 1) x).held s = some l → ∃ n : Nat, s = n + 1 ∧ Y[n]? = some l := by
        intro s l hs
        unfold holdM at hs
        dsimp only at hs
        split at hs
        · by_cases e : s = (n : Int) + 1
          · subst e
            rw [putH_same] at hs
            cases hs
            exact ⟨n, rfl, hn⟩
          · rw [putH_other _ e, b2] at hs; exact h.hold s l hs
        · rw [b2] at hs; exact h.hold s l hs
      have hdel : (holdM (ackM M ack) ((n : Int) + 1) x).delivered = M.delivered := b1
      obtain ⟨d1, d2, d3, d4⟩ := deliv_order Y 17 (holdM (ackM M ack) ((n : Int) + 1) x).delivered (holdM (ackM M ack) ((n : Int) + 1) x).held [] hH (by rw [hdel]; exact h.del)
      have hxs : delivL (holdM (ackM M ack) ((n : Int) + 1) x) = (Y.drop M.delivered).take ((delivM (holdM (ackM M ack) ((n : Int) + 1) x)).delivered - M.delivered) := by
        unfold delivL
        rw [d3, List.nil_append]
        show (Y.drop (ackM M ack).delivered).take ((delivF 17 (ackM M ack).delivered _ []).1 - (ackM M ack).delivered) = _
        rw [b1]
        unfold delivM holdM
        dsimp only
        rw [b1]
      have d1' : (holdM (ackM M ack) ((n : Int) + 1) x).delivered ≤ (delivM (holdM (ackM M ack) ((n : Int) + 1) x)).delivered := d1
      rw [hdel] at d1'
      have d2' : (delivM (holdM (ackM M ack) ((n : Int) + 1) x)).delivered ≤ Y.length := d2
      refine ⟨_, _, rfl, ⟨hr, hw.1, hw.2.1, by omega, hw.2.2, d2', d4, by show (ackM M ack).forged = 0; rw [a3]; exact h.forg⟩, ?_, fun i y hy => ?_⟩
      · rw [hxs, List.length_take, List.length_drop]
        omega
      · rw [hxs] at hy
        have hi := (List.getElem?_eq_some_iff.1 hy).1
        rw [List.length_take] at hi
        rw [List.getElem?_take_of_lt (by omega), List.getElem?_drop] at hy
        exact hy

end Go.Proofs.Ytcpemgfpiapaaaa
