/- LinkProgress: a round, in plain Lean. -/
import Derived.Test.YtcpemgfpiapaaaaPrB
namespace Go.Proofs.Ytcpemgfpiapaaaa
open Go.RowKit

theorem PrS.congr {W w : World} {c : Nat → Nat} {eb mb : Nat} {p : Nat → Nat} {M M' : Nat → EndM} {Q : Nat → Nat} (h : PrS W w c eb mb p M Q) (hM : ∀ j, j < 2 → M j = M' j) : PrS W w c eb mb p M' Q :=
  ⟨h.law, fun j hj => by rw [← hM j hj]; exact h.ends j hj, h.ebc, h.ebh, h.mbc, h.mbh⟩

theorem GotS.congr {c : Nat → Nat} {gb : Nat} {w : World} {G G' : Nat → Nat} (h : GotS c w gb G) (hG : ∀ j, j < 2 → G j = G' j) : GotS c w gb G' := by
  refine ⟨h.col, ?_⟩
  have e : twoN G' = twoN G := by unfold twoN; rw [hG 0 (by omega), hG 1 (by omega)]
  rw [e]
  exact h.hp

/-- Ahead of round t. -/
def RndP (E : Nat → PE) (Q : Nat → Nat) (t : Nat) : Prop :=
  PEx (E 0) (E 1) ∧ (E 0).n = Q 0 ∧ (E 1).n = Q 1 ∧ min (Q 0) t ≤ (E 1).d ∧ min (Q 1) t ≤ (E 0).d ∧ min (Q 1) (t - 1) ≤ (E 1).a

/-- Ahead of phase x of round t. -/
def PhP (E : Nat → PE) (Q : Nat → Nat) (t x : Nat) : Prop :=
  if x = 0 then RndP E Q t
  else if x = 1 then PEx (E 1) (E 0) ∧ (E 0).n = Q 0 ∧ (E 1).n = Q 1 ∧ min (Q 0) (t + 1) ≤ (E 1).d ∧ min (Q 1) t ≤ (E 0).d ∧ min (Q 1) t ≤ (E 1).a
  else RndP E Q (t + 1)

theorem PhP.pex {E : Nat → PE} {Q : Nat → Nat} {t x : Nat} (hx : x < 2) (h : PhP E Q t x) : PEx (E x) (E (1 - x)) := by
  unfold PhP at h
  match x, hx with
  | 0, _ => rw [if_pos rfl] at h; exact h.1
  | 1, _ => rw [if_neg (by omega), if_pos rfl] at h; exact h.1

/-- The ends behind i packets of X. -/
def Ei (E : Nat → PE) (x i : Nat) : Nat → PE := upd (upd E x { E x with o := false }) (1 - x) ((E x).got (E (1 - x)) i)

theorem Ei_y (E : Nat → PE) (x i : Nat) : Ei E x i (1 - x) = (E x).got (E (1 - x)) i := upd_same _ _ _
theorem Ei_x (E : Nat → PE) {x : Nat} (hx : x < 2) (i : Nat) : Ei E x i x = { E x with o := false } := by
  unfold Ei
  rw [upd_other _ (by omega), upd_same]

theorem PhP.next {E : Nat → PE} {Q : Nat → Nat} {t x : Nat} (hx : x < 2) (h : PhP E Q t x) (key : Nat) : PhP (Ei E x (outP ((E x).m key)).length) Q t (x + 1) := by
  obtain ⟨d1, d2, d3, d4, d5, d6⟩ := (h.pex hx).done key
  have hy := Ei_y E x (outP ((E x).m key)).length
  have hxx := Ei_x E hx (outP ((E x).m key)).length
  generalize Ei E x (outP ((E x).m key)).length = F at hy hxx ⊢
  rw [← hy] at d1 d2 d3 d4 d5 d6
  rw [← hxx] at d1
  have f1 : (F x).n = (E x).n := by rw [hxx]
  have f2 : (F x).d = (E x).d := by rw [hxx]
  have f3 : (F x).a = (E x).a := by rw [hxx]
  unfold PhP at h ⊢
  match x, hx with
  | 0, _ =>
    rw [if_pos rfl] at h
    obtain ⟨h1, h2, h3, h4, h5, h6⟩ := h
    rw [if_neg (by omega), if_pos rfl]
    refine ⟨d1, by rw [f1, h2], by rw [d5, h3], ?_, by rw [f2]; exact h5, by rw [d2]; exact h5⟩
    rw [h2] at d3
    show min (Q 0) (t + 1) ≤ (F 1).d
    have e : (F (1 - 0)).d = (F 1).d := rfl
    have e' : (E (1 - 0)).d = (E 1).d := rfl
    omega
  | 1, _ =>
    rw [if_neg (by omega), if_pos rfl] at h
    obtain ⟨h1, h2, h3, h4, h5, h6⟩ := h
    rw [if_neg (by omega), if_neg (by omega)]
    refine ⟨d1, by rw [← h2]; exact d5, by rw [f1, h3], by rw [f2]; exact h4, ?_, by rw [f3]; exact h6⟩
    rw [h3] at d3
    show min (Q 1) (t + 1) ≤ (F 0).d
    have e : (F (1 - 1)).d = (F 0).d := rfl
    have e' : (E (1 - 1)).d = (E 0).d := rfl
    omega

theorem RndP.done {E : Nat → PE} {Q : Nat → Nat} {t : Nat} (h : RndP E Q t) (ht : t = max (Q 0) (Q 1) + 1) : (E 0).d = Q 1 ∧ (E 1).d = Q 0 ∧ (E 0).n - (E 0).a = 0 ∧ (E 1).n - (E 1).a = 0 := by
  obtain ⟨h1, h2, h3, h4, h5, h6⟩ := h
  have e1 := h1.sync
  have e2 := h1.xa
  have e3 := h1.yd
  have e4 := h1.xd
  omega

theorem RndP.start {E : Nat → PE} {Q : Nat → Nat} (hE : ∀ j, j < 2 → (E j).n = Q j ∧ (E j).a = 0 ∧ (E j).d = 0 ∧ 1 ≤ (E j).win ∧ (E j).win ≤ 16) (hQ : ∀ j, j < 2 → Q j ≤ 31) : RndP E Q 0 := by
  obtain ⟨a1, a2, a3, a4⟩ := hE 0 (by omega)
  obtain ⟨b1, b2, b3, b4⟩ := hE 1 (by omega)
  have q0 := hQ 0 (by omega)
  have q1 := hQ 1 (by omega)
  exact ⟨⟨a4, b4, by omega, by omega, by omega, by omega, by omega, by omega, .inl (by omega)⟩, a1, b1, by omega, by omega, by omega⟩

theorem got_zero (X Y : PE) : X.got Y 0 = Y := by unfold PE.got; rw [if_pos rfl]

theorem PEx.wfx {X Y : PE} (h : PEx X Y) {key : Nat} (hk : key < 18446744073709551616) : Wf (X.m key) := by
  have e1 := h.xa
  have e2 := h.xn
  have e3 := h.xd
  have e4 := h.yn
  exact pM_wf h.xw.1 h.xw.2 hk (by omega) (by omega) (by omega)

theorem PEx.wfy {X Y : PE} (h : PEx X Y) {key : Nat} (hk : key < 18446744073709551616) {i : Nat} (hi : i ≤ 16) : Wf ((X.got Y i).m key) ∧ ((X.got Y i).m key).acked ≤ 100 ∧ ((X.got Y i).m key).delivered ≤ 100 := by
  have e1 := h.xa
  have e2 := h.xn
  have e3 := h.xd
  have e4 := h.yn
  have e5 := h.yd
  have e6 := h.sync
  unfold PE.got
  split
  · exact ⟨pM_wf h.yw.1 h.yw.2 hk (by omega) (by omega) (by omega), by show Y.a ≤ 100; omega, by show Y.d ≤ 100; omega⟩
  · split
    · exact ⟨pM_wf h.yw.1 h.yw.2 hk (by show Y.n ≤ 100; omega) (by show X.d ≤ 100; omega) (by show Y.d + i ≤ 100; omega), by show X.d ≤ 100; omega, by show Y.d + i ≤ 100; omega⟩
    · exact ⟨pM_wf h.yw.1 h.yw.2 hk (by show Y.n ≤ 100; omega) (by show X.d ≤ 100; omega) (by show Y.d ≤ 100; omega), by show X.d ≤ 100; omega, by show Y.d ≤ 100; omega⟩

end Go.Proofs.Ytcpemgfpiapaaaa
