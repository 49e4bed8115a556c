/- Progress, in plain Lean: what two ends do whose packets come in order. -/
import Derived.Test.YtcpemgfpiapaaaaRunA
namespace Go.Proofs.Ytcpemgfpiapaaaa

def upd {α : Type} (f : Nat → α) (k : Nat) (v : α) : Nat → α := fun j => if j = k then v else f j
theorem upd_same {α : Type} (f : Nat → α) (k : Nat) (v : α) : upd f k v k = v := by simp [upd]
theorem upd_other {α : Type} (f : Nat → α) {k j : Nat} (h : j ≠ k) (v : α) : upd f k v j = f j := by simp [upd, h]
theorem upd_upd {α : Type} (f : Nat → α) (k : Nat) (a b : α) : upd (upd f k a) k b = upd f k b := by
  funext j; unfold upd; split <;> rfl
theorem upd_self {α : Type} (f : Nat → α) (k : Nat) : upd f k (f k) = f := by
  funext j; unfold upd; split
  · rename_i e; rw [e]
  · rfl

/-- The end with the messages 0, 1, .. n - 1, of which a are acknowledged, d of the other one's delivered. -/
def pM (win key n a d : Nat) (o : Bool) : EndM := ⟨win, key, ((List.range n).map (fun i => [UInt8.ofNat i])).drop a, a, d, fun _ => none, o, 0⟩

theorem pM_start (win key n : Nat) : pM win key n 0 0 false = wM win key n := rfl

theorem pM_wf {win key n a d : Nat} {o : Bool} (h1 : 1 ≤ win) (h2 : win ≤ 16) (hk : key < 18446744073709551616) (hn : n ≤ 100) (ha : a ≤ 100) (hd : d ≤ 100) : Wf (pM win key n a d o) :=
  ⟨⟨h1, h2⟩, hk, by simp [pM]; omega, fun l hl => by
    have := List.mem_of_mem_drop hl
    simp only [List.mem_map] at this
    obtain ⟨i, _, rfl⟩ := this
    simp, by simp [pM]; omega, by simp [pM]; omega, by simp [pM], fun q l h => by simp [pM] at h⟩

theorem pM_len (win key n a d : Nat) (o : Bool) : (pM win key n a d o).waiting.length = n - a := by simp [pM]

theorem pM_wait {win key n a d : Nat} {o : Bool} {i : Nat} (h : a + i < n) : (pM win key n a d o).waiting[i]? = some [UInt8.ofNat (a + i)] := by
  show (((List.range n).map (fun i => [UInt8.ofNat i])).drop a)[i]? = _
  rw [List.getElem?_drop, List.getElem?_map, List.getElem?_range h]
  rfl

/-- The packets: data, if some wait. -/
theorem pM_outD {win key n a d : Nat} {o : Bool} (hw : 1 ≤ win) (h : a < n) : (outP (pM win key n a d o)).length = min win (n - a) ∧ ∀ i, i < min win (n - a) → (outP (pM win key n a d o))[i]? = some (sealB key (pktB ((a : Int) + i + 1) (d : Int) [UInt8.ofNat (a + i)])) := by
  have hl : (outL (pM win key n a d o)).length = min win (n - a) := by rw [outL_len, pM_len]; rfl
  have e : outP (pM win key n a d o) = outL (pM win key n a d o) := by
    unfold outP
    rw [if_neg (fun hh => by have := hh.1; rw [this] at hl; simp at hl; omega)]
  rw [e]
  refine ⟨hl, fun i hi => ?_⟩
  unfold outL
  rw [List.getElem?_mapIdx, List.getElem?_take_of_lt (by show i < win; omega), pM_wait (by omega)]
  rfl

theorem pM_outA {win key n a d : Nat} (h : n ≤ a) : outP (pM win key n a d true) = [sealB key (pktB 0 (d : Int) [])] := by
  have hl : outL (pM win key n a d true) = [] := List.eq_nil_of_length_eq_zero (by rw [outL_len, pM_len]; omega)
  unfold outP
  rw [if_pos ⟨hl, rfl⟩]
  rfl

theorem pM_outN {win key n a d : Nat} (h : n ≤ a) : outP (pM win key n a d false) = [] := by
  have hl : outL (pM win key n a d false) = [] := List.eq_nil_of_length_eq_zero (by rw [outL_len, pM_len]; omega)
  unfold outP
  rw [hl]
  simp [pM]

theorem pM_outM (win key n a d : Nat) (o : Bool) : outM (pM win key n a d o) = pM win key n a d false := rfl

theorem pM_ack {win key n a d b : Nat} {o : Bool} : ackM (pM win key n a d o) (b : Int) = pM win key n (max a b) d o := by
  unfold ackM
  split
  · rename_i hp
    have hp' : a < b := by have : (0 : Int) < (b : Int) - (a : Int) := hp; omega
    have e : max a b = b := by omega
    rw [e]
    show EndM.mk _ _ (((((List.range n).map (fun i => [UInt8.ofNat i])).drop a)).drop ((b : Int) - (a : Int)).toNat) ((b : Int).toNat) _ _ _ _ = _
    rw [List.drop_drop]
    unfold pM
    congr 1
    congr 1
    omega
  · rename_i hp
    have hp' : b ≤ a := by have : ¬ (0 : Int) < (b : Int) - (a : Int) := hp; omega
    have e : max a b = a := by omega
    rw [e]

theorem held_back (q : Int) (l : List UInt8) : delH (putH (fun _ => none) q l) q = fun _ => none := by
  funext x
  unfold delH putH
  split <;> rfl

theorem pM_inD {win key n a d b : Nat} {o : Bool} (hd : d ≤ 100) (hb : b ≤ n) (hn : n ≤ 100) (ha : a ≤ n) :
    inM (pM win key n a d o) (sealB key (pktB ((d : Int) + 1) (b : Int) [UInt8.ofNat d])) = (pM win key n (max a b) (d + 1) true, [[UInt8.ofNat d]], 0) := by
  refine (in_pkt (pM win key n a d o) (seq := (d : Int) + 1) (ack := (b : Int)) (l := [UInt8.ofNat d]) (by unfold InR; omega) (by unfold InR; omega) ⟨by omega, by omega, by simp, .inl (by omega)⟩).trans ?_
  rw [if_neg, if_neg (by omega), pM_ack]
  · have eH : holdM (pM win key n (max a b) d o) ((d : Int) + 1) [UInt8.ofNat d] = { pM win key n (max a b) d true with held := putH (fun _ => none) ((d : Int) + 1) [UInt8.ofNat d] } := by
      unfold holdM
      rw [if_pos ⟨by show ((d : Nat) : Int) < (d : Int) + 1; omega, rfl⟩]
      rfl
    rw [eH]
    have eD : delivF 17 d (putH (fun _ => none) ((d : Int) + 1) [UInt8.ofNat d]) [] = (d + 1, fun _ => none, [[UInt8.ofNat d]]) := by
      show delivF (16 + 1) _ _ _ = _
      simp only [delivF, putH_same, held_back]
      rfl
    obtain ⟨H, hH⟩ : ∃ H : EndM, { pM win key n (max a b) d true with held := putH (fun _ => none) ((d : Int) + 1) [UInt8.ofNat d] } = H := ⟨_, rfl⟩
    have h1 : H.delivered = d := by rw [← hH]; rfl
    have h2 : H.held = putH (fun _ => none) ((d : Int) + 1) [UInt8.ofNat d] := by rw [← hH]
    rw [hH]
    unfold delivM delivL
    rw [h1, h2, eD, ← hH]
    rfl
  · rw [pM_len]
    show ¬ ((a : Int) + ((n - a : Nat) : Int) < (b : Int) ∨ (d : Int) + 16 < (d : Int) + 1)
    omega

theorem pM_inA {win key n a d b : Nat} {o : Bool} (hd : d ≤ 100) (hb : b ≤ n) (hn : n ≤ 100) (ha : a ≤ n) :
    inM (pM win key n a d o) (sealB key (pktB 0 (b : Int) [])) = (pM win key n (max a b) d o, [], 0) := by
  refine (in_pkt (pM win key n a d o) (seq := 0) (ack := (b : Int)) (l := []) (by unfold InR; omega) (by unfold InR; omega) ⟨by omega, by omega, by decide, .inr rfl⟩).trans ?_
  rw [if_neg, if_pos rfl, pM_ack]
  rw [pM_len]
  show ¬ ((a : Int) + ((n - a : Nat) : Int) < (b : Int) ∨ (d : Int) + 16 < 0)
  omega

/-- One of the two ends. -/
structure PE where
  win : Nat
  n : Nat
  a : Nat
  d : Nat
  o : Bool

def PE.m (e : PE) (key : Nat) : EndM := pM e.win key e.n e.a e.d e.o

/-- Behind i packets of X, Y: what Y is. -/
def PE.got (X Y : PE) (i : Nat) : PE :=
  if i = 0 then Y else if X.a < X.n then ⟨Y.win, Y.n, X.d, Y.d + i, true⟩ else ⟨Y.win, Y.n, X.d, Y.d, Y.o⟩

/-- X is about to send to Y. -/
structure PEx (X Y : PE) : Prop where
  xw : 1 ≤ X.win ∧ X.win ≤ 16
  yw : 1 ≤ Y.win ∧ Y.win ≤ 16
  xn : X.n ≤ 31
  yn : Y.n ≤ 31
  sync : X.a = Y.d
  xa : X.a ≤ X.n
  yd : Y.a ≤ X.d
  xd : X.d ≤ Y.n
  owe : Y.a = X.d ∨ X.o = true ∨ X.a < X.n

theorem PEx.step {X Y : PE} (h : PEx X Y) (key i : Nat) (hi : i < (outP (X.m key)).length) :
    ∃ pk xs, (outP (X.m key))[i]? = some pk ∧ inM ((X.got Y i).m key) pk = ((X.got Y (i + 1)).m key, xs, 0) ∧ pk.length ≤ 1000 ∧
      ((xs = [] ∧ (X.got Y (i + 1)).d = (X.got Y i).d) ∨ (xs = [[UInt8.ofNat (X.got Y i).d]] ∧ (X.got Y (i + 1)).d = (X.got Y i).d + 1 ∧ (X.got Y i).d < 31)) := by
  have e1 := h.sync
  have e2 := h.xa
  have e3 := h.yd
  have e4 := h.xd
  have e5 := h.xn
  have e6 := h.yn
  by_cases hx : X.a < X.n
  · obtain ⟨hl, hat⟩ := pM_outD (win := X.win) (key := key) (n := X.n) (a := X.a) (d := X.d) (o := X.o) h.xw.1 hx
    have hi' : i < min X.win (X.n - X.a) := by rw [← hl]; exact hi
    have hd : (X.got Y i).d = Y.d + i := by
      unfold PE.got
      by_cases hz : i = 0
      · subst hz; rw [if_pos rfl]; rfl
      · rw [if_neg hz, if_pos hx]
    have hd1 : (X.got Y (i + 1)) = ⟨Y.win, Y.n, X.d, Y.d + (i + 1), true⟩ := by
      unfold PE.got
      rw [if_neg (by omega), if_pos hx]
    have hin : inM ((X.got Y i).m key) (sealB key (pktB ((X.a : Int) + i + 1) (X.d : Int) [UInt8.ofNat (X.a + i)])) = ((X.got Y (i + 1)).m key, [[UInt8.ofNat (X.got Y i).d]], 0) := by
      rw [hd, hd1]
      have e7 : (X.a : Int) + i + 1 = ((Y.d + i : Nat) : Int) + 1 := by omega
      have e8 : X.a + i = Y.d + i := by omega
      rw [e7, e8]
      unfold PE.got PE.m
      by_cases hz : i = 0
      · subst hz
        rw [if_pos rfl]
        have := pM_inD (win := Y.win) (key := key) (n := Y.n) (a := Y.a) (d := Y.d) (b := X.d) (o := Y.o) (by omega) h.xd (by omega) (by omega)
        rw [show max Y.a X.d = X.d by omega] at this
        exact this
      · rw [if_neg hz, if_pos hx]
        have := pM_inD (win := Y.win) (key := key) (n := Y.n) (a := X.d) (d := Y.d + i) (b := X.d) (o := true) (by omega) h.xd (by omega) h.xd
        rw [show max X.d X.d = X.d by omega] at this
        exact this
    refine ⟨_, _, hat i hi', hin, ?_, .inr ⟨rfl, by rw [hd1, hd]; rfl, by rw [hd]; omega⟩⟩
    have := pkt_len ((X.a : Int) + i + 1) (X.d : Int) [UInt8.ofNat (X.a + i)]
    have h1 : [UInt8.ofNat (X.a + i)].length = 1 := rfl
    rw [h1] at this
    rw [sealB_length]
    omega
  · cases ho : X.o with
    | false =>
      exfalso
      have : outP (X.m key) = [] := by unfold PE.m; rw [ho]; exact pM_outN (by omega)
      rw [this] at hi
      simp at hi
    | true =>
      have e : outP (X.m key) = [sealB key (pktB 0 (X.d : Int) [])] := by unfold PE.m; rw [ho]; exact pM_outA (by omega)
      rw [e] at hi ⊢
      obtain rfl : i = 0 := by simp at hi; omega
      have hg0 : X.got Y 0 = Y := by unfold PE.got; rw [if_pos rfl]
      have hg1 : X.got Y 1 = ⟨Y.win, Y.n, X.d, Y.d, Y.o⟩ := by unfold PE.got; rw [if_neg (by omega), if_neg hx]
      refine ⟨_, [], rfl, ?_, ?_, .inl ⟨rfl, by rw [hg0, hg1]⟩⟩
      · rw [hg0, hg1]
        have := pM_inA (win := Y.win) (key := key) (n := Y.n) (a := Y.a) (d := Y.d) (b := X.d) (o := Y.o) (by omega) h.xd (by omega) (by omega)
        rw [show max Y.a X.d = X.d by omega] at this
        exact this
      · have := pkt_len 0 (X.d : Int) []
        have h1 : ([] : List UInt8).length = 0 := rfl
        rw [h1] at this
        rw [sealB_length]
        omega

/-- Behind the phase. -/
theorem PEx.done {X Y : PE} (h : PEx X Y) (key : Nat) : PEx (X.got Y (outP (X.m key)).length) { X with o := false } ∧ (X.got Y (outP (X.m key)).length).a = X.d ∧ min X.n (Y.d + 1) ≤ (X.got Y (outP (X.m key)).length).d ∧ Y.d ≤ (X.got Y (outP (X.m key)).length).d ∧
    (X.got Y (outP (X.m key)).length).n = Y.n ∧ (X.got Y (outP (X.m key)).length).win = Y.win := by
  have e1 := h.sync
  have e2 := h.xa
  have e3 := h.yd
  have e4 := h.xd
  have e5 := h.xw
  by_cases hx : X.a < X.n
  · obtain ⟨hl, hat⟩ := pM_outD (win := X.win) (key := key) (n := X.n) (a := X.a) (d := X.d) (o := X.o) h.xw.1 hx
    have hl' : (outP (X.m key)).length = min X.win (X.n - X.a) := hl
    have hg : X.got Y (outP (X.m key)).length = ⟨Y.win, Y.n, X.d, Y.d + min X.win (X.n - X.a), true⟩ := by
      unfold PE.got
      rw [hl', if_neg (by omega), if_pos hx]
    rw [hg]
    exact ⟨⟨h.yw, h.xw, h.yn, h.xn, rfl, h.xd, by show X.a ≤ Y.d + _; omega, by show Y.d + _ ≤ X.n; omega, .inr (.inl rfl)⟩, rfl, by show min X.n (Y.d + 1) ≤ Y.d + _; omega, by show Y.d ≤ Y.d + _; omega, rfl, rfl⟩
  · cases ho : X.o with
    | false =>
      have e : outP (X.m key) = [] := by unfold PE.m; rw [ho]; exact pM_outN (by omega)
      have hg : X.got Y (outP (X.m key)).length = Y := by rw [e]; show PE.got X Y 0 = Y; unfold PE.got; rw [if_pos rfl]
      rw [hg]
      have hya : Y.a = X.d := by
        rcases h.owe with h | h | h
        · exact h
        · rw [ho] at h; cases h
        · omega
      exact ⟨⟨h.yw, h.xw, h.yn, h.xn, hya, by omega, by show X.a ≤ Y.d; omega, by show Y.d ≤ X.n; omega, .inl e1⟩, hya, by omega, Nat.le_refl _, rfl, rfl⟩
    | true =>
      have e : outP (X.m key) = [sealB key (pktB 0 (X.d : Int) [])] := by unfold PE.m; rw [ho]; exact pM_outA (by omega)
      have hg : X.got Y (outP (X.m key)).length = ⟨Y.win, Y.n, X.d, Y.d, Y.o⟩ := by
        rw [e]
        show PE.got X Y 1 = _
        unfold PE.got
        rw [if_neg (by omega), if_neg hx]
      rw [hg]
      exact ⟨⟨h.yw, h.xw, h.yn, h.xn, rfl, h.xd, by show X.a ≤ Y.d; omega, by show Y.d ≤ X.n; omega, .inl e1⟩, rfl, by show min X.n (Y.d + 1) ≤ Y.d; omega, Nat.le_refl _, rfl, rfl⟩

end Go.Proofs.Ytcpemgfpiapaaaa
