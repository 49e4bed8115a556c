/- The state of LinkOrder in memory: two ends, what each has sent, how much each has got, the packets and where to. -/
import Derived.Test.YtcpemgfpiapaaaaOrA
import Derived.Test.YtcpemgfpiapaaaaEnds
namespace Go.Proofs.Ytcpemgfpiapaaaa
open Go.RowKit

/-- A numbers' row. -/
def nvs (ts : List Nat) : List Value := ts.map fun (t : Nat) => Value.int .i64 (t : Int)

theorem grow_stp2 {c : Nat → Nat} {k g : Nat} {w W w1 : World} {row : Option Nat} (hf : Fr c w) (hrow : ∀ x, row = some x → x < w.heap.size ∧ c x = k) (hb : Below w.heap.size w W) (hgrow : W.grownBy w1 row) (hat : row = some g ∨ g = W.heap.size) (hlt : g < w1.heap.size) :
    ∃ c2, Stp c c2 k w w1 ∧ Stp c c2 k W w1 ∧ c2 g = k ∧ ∀ b, b ≠ g → c2 b = c b := by
  have hsz := hb.size
  have mk : ∀ w0 : World, w.heap.size ≤ w0.heap.size → w0.heap.size ≤ W.heap.size → w0.os = W.os → w0.tape = W.tape → w0.output = W.output → (∀ x, x < w0.heap.size → W.heap[x]? = w0.heap[x]?) → Stp c (fun x => if x = g then k else c x) k w0 w1 := by
    intro w0 hw0 hw1 e1 e2 e3 e4
    refine ⟨hgrow.os.trans e1.symm, hgrow.tape.trans e2.symm, hgrow.output.trans e3.symm, Nat.le_trans hw1 hgrow.size, fun x hx => ?_, fun x hx hc => ?_, fun x hx => ?_⟩
    · by_cases hxg : x = g
      · subst hxg
        rw [if_pos rfl]
        rcases hat with h | h
        · exact (hrow _ h).2.symm
        · omega
      · rw [if_neg hxg]
    · rw [hgrow.block x (by omega) (fun e => hc (hrow x e.symm).2)]
      exact e4 x hx
    · rw [if_neg (by omega)]
      exact hf x (by have := hgrow.size; omega)
  exact ⟨_, mk w (Nat.le_refl _) hsz hb.os.symm hb.tape.symm hb.output.symm (fun x hx => hb.block x hx), mk W hsz (Nat.le_refl _) rfl rfl rfl (fun x _ => rfl), by simp, fun b hb => by simp [hb]⟩

theorem own_in {w : World} {e : TypeId} {size n cap B : Nat} {ao : Option Addr} {xs : List Value} (h : w.ownsRow B e size (.slice ao n cap) n xs) : ∀ a, ao = some a → a.block < w.heap.size := fun a ha => (h.lt a.block (by rw [ha]; rfl)).2

/-- An owned row of its own colour. -/
structure Rw (c : Nat → Nat) (kk : Nat) (w : World) (B : Nat) (e : TypeId) (ao : Option Addr) (n cap : Nat) (xs : List Value) : Prop where
  own : w.ownsRow B e 1 (.slice ao n cap) n xs
  col : ∀ a, ao = some a → c a.block = kk

theorem Rw.stp {c c' : Nat → Nat} {kk k : Nat} {w w' : World} {B : Nat} {e : TypeId} {ao : Option Addr} {n cap : Nat} {xs : List Value} (h : Rw c kk w B e ao n cap xs) (hs : Stp c c' k w w') (hk : kk ≠ k) : Rw c' kk w' B e ao n cap xs := by
  refine ⟨ownsRow_of h.own (fun g hg => ?_), fun a ha => (hs.col _ (own_in h.own a ha)).trans (h.col a ha)⟩
  cases ao with
  | none => cases hg
  | some a => injection hg with hg; subst hg; exact hs.keep _ (own_in h.own a rfl) (by rw [h.col a rfl]; exact hk)

theorem Rw.sl {c : Nat → Nat} {kk : Nat} {w : World} {B : Nat} {e : TypeId} {ao : Option Addr} {n cap : Nat} {xs : List Value} (h : Rw c kk w B e ao n cap xs) : SlV w ao n cap 1 xs := ownsRow_sl h.own

theorem Rw.nil (c : Nat → Nat) (kk : Nat) (w : World) (B : Nat) (e : TypeId) : Rw c kk w B e none 0 0 [] := ⟨World.ownsRow_nil _ _ _ _, fun a ha => by cases ha⟩

/-- The law's two slices of what was sent. -/
def sentObj (so : Nat → Option Addr) (sn sc : Nat → Nat) : Obj := .cells #[.slice (so 0) (sn 0) (sc 0), .slice (so 1) (sn 1) (sc 1)] 63 (0, 0)
/-- How much is got. -/
def gotObj (G : Nat → Nat) : Obj := .cells #[.int .i64 (G 0 : Int), .int .i64 (G 1 : Int)] 3 (0, 0)
/-- A block of two pointers. -/
def twoP (t : TypeId) (p : Nat → Nat) : Obj := .cells #[.pointer (some ⟨p 0, 0, none⟩), .pointer (some ⟨p 1, 0, none⟩)] t (0, 0)

/-- The state of LinkOrder. -/
structure OrS (W w : World) (c : Nat → Nat) (eb sb gb : Nat) (p : Nat → Nat) (M : Nat → EndM) (S : Nat → List (List UInt8)) (so : Nat → Option Addr) (sc : Nat → Nat) (sv : Nat → List Value) (G : Nat → Nat) (po : Option Addr) (n pc : Nat) (vs : List Value) (ls : List (List UInt8)) (tao : Option Addr) (tc : Nat) (ts : List Nat) : Prop where
  law : LS W w c
  ends : ∀ j, j < 2 → EndV c (j + 1) w (p j) (M j)
  ebc : c eb = 0
  ebh : w.heap[eb]? = some (twoP 57 p)
  sbc : c sb = 7
  sbh : w.heap[sb]? = some (sentObj so (fun j => (S j).length) sc)
  gbc : c gb = 8
  gbh : w.heap[gb]? = some (gotObj G)
  sent : ∀ j, j < 2 → Rw c (j + 9) w W.heap.size 28 (so j) (S j).length (sc j) (sv j)
  rows : ∀ j, j < 2 → RowsC c w (sv j) (S j)
  pk : Rw c 5 w W.heap.size 28 po n pc vs
  pkr : RowsC c w vs ls
  tw : Rw c 6 w W.heap.size 3 tao n tc (nvs ts)

section
variable {W w : World} {c : Nat → Nat} {eb sb gb : Nat} {p : Nat → Nat} {M : Nat → EndM} {S : Nat → List (List UInt8)} {so : Nat → Option Addr} {sc : Nat → Nat} {sv : Nat → List Value} {G : Nat → Nat} {po : Option Addr} {n pc : Nat} {vs : List Value} {ls : List (List UInt8)} {tao : Option Addr} {tc : Nat} {ts : List Nat} (h : OrS W w c eb sb gb p M S so sc sv G po n pc vs ls tao tc ts)
include h

theorem OrS.lts : eb < w.heap.size ∧ sb < w.heap.size ∧ gb < w.heap.size := ⟨(Array.getElem?_eq_some_iff.1 h.ebh).1, (Array.getElem?_eq_some_iff.1 h.sbh).1, (Array.getElem?_eq_some_iff.1 h.gbh).1⟩

/-- A call at an end. -/
theorem OrS.endStep {w' : World} {c' : Nat → Nat} {k : Nat} (hk : k < 2) (hs : Stp c c' (k + 1) w w') {M' : EndM} (hE : EndV c' (k + 1) w' (p k) M') : OrS W w' c' eb sb gb p (upd M k M') S so sc sv G po n pc vs ls tao tc ts := by
  obtain ⟨e1, e2, e3⟩ := h.lts
  refine ⟨h.law.stp hs (by omega), fun j hj => ?_, (hs.col _ e1).trans h.ebc, (hs.keep _ e1 (by rw [h.ebc]; omega)).trans h.ebh, (hs.col _ e2).trans h.sbc, (hs.keep _ e2 (by rw [h.sbc]; omega)).trans h.sbh, (hs.col _ e3).trans h.gbc, (hs.keep _ e3 (by rw [h.gbc]; omega)).trans h.gbh, fun j hj => (h.sent j hj).stp hs (by omega), fun j hj => (h.rows j hj).stp hs (by omega), h.pk.stp hs (by omega), h.pkr.stp hs (by omega), h.tw.stp hs (by omega)⟩
  by_cases e : j = k
  · subst e; rw [upd_same]; exact hE
  · rw [upd_other _ e]; exact (h.ends j hj).stp hs (by omega) (by omega)

/-- New blocks. -/
theorem OrS.step {w' : World} (hb : Below w.heap.size w w') : OrS W w' c eb sb gb p M S so sc sv G po n pc vs ls tao tc ts := by
  obtain ⟨e1, e2, e3⟩ := h.lts
  have hs := Stp.of_below (k := 17) h.law.fr hb
  exact ⟨h.law.step hb, fun j hj => (h.ends j hj).stp hs (by omega) (by omega), h.ebc, (hb.block _ e1).trans h.ebh, h.sbc, (hb.block _ e2).trans h.sbh, h.gbc, (hb.block _ e3).trans h.gbh, fun j hj => (h.sent j hj).stp hs (by omega), fun j hj => (h.rows j hj).stp hs (by omega), h.pk.stp hs (by omega), h.pkr.stp hs (by omega), h.tw.stp hs (by omega)⟩

theorem OrS.drewN (d : Nat) : OrS W (w.drewN d) c eb sb gb p M S so sc sv G po n pc vs ls tao tc ts := h.step (below_drewN (Below.refl _ _) d)

theorem OrS.atE {j : Nat} (hj : j < 2) : w.cell? ⟨eb, j, none⟩ = some (.pointer (some ⟨p j, 0, none⟩)) := by
  rw [(cells_of h.ebh j).1]
  match j, hj with
  | 0, _ => rfl
  | 1, _ => rfl
theorem OrS.atS {j : Nat} (hj : j < 2) : w.cell? ⟨sb, j, none⟩ = some (.slice (so j) (S j).length (sc j)) ∧ w.frozen? ⟨sb, j, none⟩ = false := by
  refine ⟨?_, (cells_of h.sbh j).2⟩
  rw [(cells_of h.sbh j).1]
  match j, hj with
  | 0, _ => rfl
  | 1, _ => rfl
theorem OrS.atG {j : Nat} (hj : j < 2) : w.cell? ⟨gb, j, none⟩ = some (.int .i64 (G j : Int)) ∧ w.frozen? ⟨gb, j, none⟩ = false := by
  refine ⟨?_, (cells_of h.gbh j).2⟩
  rw [(cells_of h.gbh j).1]
  match j, hj with
  | 0, _ => rfl
  | 1, _ => rfl
theorem OrS.atT {a : Addr} {J t : Nat} (ht : ts[J]? = some t) (ha : tao = some a) : w.cell? (a.add J) = some (.int .i64 (t : Int)) := by
  refine h.tw.sl.cell a ha J _ ?_
  unfold nvs
  rw [List.getElem?_map, ht]
  rfl
theorem OrS.atP {a : Addr} {J : Nat} {l : List UInt8} (hl : ls[J]? = some l) (ha : po = some a) : ∃ b cb, w.cell? (a.add J) = some (.slice b l.length cb) ∧ RowC c w (.slice b l.length cb) l := by
  obtain ⟨v, hv⟩ : ∃ v, vs[J]? = some v := ⟨_, List.getElem?_eq_getElem (by rw [h.pkr.1]; exact (List.getElem?_eq_some_iff.1 hl).1)⟩
  have hr := h.pkr.2 J v l hv hl
  obtain ⟨b, cb, rfl, _, _⟩ := id hr
  exact ⟨b, cb, h.pk.sl.cell a ha J _ hv, hr⟩
theorem OrS.atM {j : Nat} (hj : j < 2) {a : Addr} {i : Nat} {l : List UInt8} (hl : (S j)[i]? = some l) (ha : so j = some a) : ∃ b cb, w.cell? (a.add i) = some (.slice b l.length cb) ∧ RowC c w (.slice b l.length cb) l := by
  have hrr := h.rows j hj
  obtain ⟨v, hv⟩ : ∃ v, (sv j)[i]? = some v := ⟨_, List.getElem?_eq_getElem (by rw [hrr.1]; exact (List.getElem?_eq_some_iff.1 hl).1)⟩
  have hr := hrr.2 i v l hv hl
  obtain ⟨b, cb, rfl, _, _⟩ := id hr
  exact ⟨b, cb, (h.sent j hj).sl.cell a ha i _ hv, hr⟩

/-- One more is got. -/
theorem OrS.got {t : Nat} (ht : t < 2) {g : Nat} : OrS W (w.setCell ⟨gb, t, none⟩ (.int .i64 (g : Int))) c eb sb gb p M S so sc sv (upd G t g) po n pc vs ls tao tc ts ∧ Stp c c 8 w (w.setCell ⟨gb, t, none⟩ (.int .i64 (g : Int))) := by
  obtain ⟨e1, e2, e3⟩ := h.lts
  have hs : Stp c c 8 w (w.setCell ⟨gb, t, none⟩ (.int .i64 (g : Int))) := (Stp.refl h.law.fr).setCell h.gbc e3 _
  have hne : ∀ b, c b ≠ 8 → (w.setCell ⟨gb, t, none⟩ (.int .i64 (g : Int))).heap[b]? = w.heap[b]? := fun b hb => heap_setCell_other _ _ _ _ (fun e => hb (by rw [e]; exact h.gbc))
  refine ⟨⟨h.law.stp hs (by omega), fun j hj => (h.ends j hj).stp hs (by omega) (by omega), h.ebc, (hne _ (by rw [h.ebc]; omega)).trans h.ebh, h.sbc, (hne _ (by rw [h.sbc]; omega)).trans h.sbh, h.gbc, ?_, fun j hj => (h.sent j hj).stp hs (by omega), fun j hj => (h.rows j hj).stp hs (by omega), h.pk.stp hs (by omega), h.pkr.stp hs (by omega), h.tw.stp hs (by omega)⟩, hs⟩
  rw [heap_setCell_same w gb t _ 3 _ h.gbh]
  unfold gotObj
  match t, ht with
  | 0, _ => simp [upd]
  | 1, _ => simp [upd]

/-- A message more is sent: the row grows, its slice is stored. -/
theorem OrS.sentMore {k : Nat} (hk : k < 2) {W' w1 : World} {v : Value} {l : List UInt8} {g cap : Nat} {row : Option Nat} (hb : Below w.heap.size w W') (hv : RowC c W' v l)
    (hrow : row = (Value.slice (so k) (S k).length (sc k)).ownBlock) (hown : w1.ownsRow W.heap.size 28 1 (.slice (some ⟨g, 0, none⟩) ((S k).length + 1) cap) ((S k).length + 1) (sv k ++ [v])) (hgrow : W'.grownBy w1 row) (hat : row = some g ∨ g = W'.heap.size) (hlt : g < w1.heap.size) :
    ∃ c', OrS W (w1.setCell ⟨sb, k, none⟩ (.slice (some ⟨g, 0, none⟩) ((S k).length + 1) cap)) c' eb sb gb p M (upd S k (S k ++ [l])) (upd so k (some ⟨g, 0, none⟩)) (upd sc k cap) (upd sv k (sv k ++ [v])) G po n pc vs ls tao tc ts := by
  obtain ⟨e1, e2, e3⟩ := h.lts
  subst hrow
  obtain ⟨c1, s1, s2, f3, f4⟩ := grow_stp2 (k := k + 9) h.law.fr (fun x hx => by
    cases hso : so k with
    | none => rw [hso] at hx; cases hx
    | some a => rw [hso] at hx; injection hx with hx; subst hx; exact ⟨own_in (h.sent k hk).own a hso, (h.sent k hk).col a hso⟩) hb hgrow hat hlt
  have hsb1 : c1 sb = 7 := (s1.col _ e2).trans h.sbc
  have hbl1 : sb < w1.heap.size := Nat.lt_of_lt_of_le e2 s1.size
  have t1 : Stp c1 c1 7 w1 (w1.setCell ⟨sb, k, none⟩ (.slice (some ⟨g, 0, none⟩) ((S k).length + 1) cap)) := (Stp.refl s1.fr).setCell hsb1 hbl1 _
  have hne : ∀ b, c1 b ≠ 7 → (w1.setCell ⟨sb, k, none⟩ (.slice (some ⟨g, 0, none⟩) ((S k).length + 1) cap)).heap[b]? = w1.heap[b]? := fun b hb => heap_setCell_other _ _ _ _ (fun e => hb (by rw [e]; exact hsb1))
  refine ⟨c1, (h.law.stp s1 (by omega)).stp t1 (by omega), fun j hj => ((h.ends j hj).stp s1 (by omega) (by omega)).stp t1 (by omega) (by omega), (s1.col _ e1).trans h.ebc, ?_, hsb1, ?_, (s1.col _ e3).trans h.gbc, ?_, fun j hj => ?_, fun j hj => ?_, (h.pk.stp s1 (by omega)).stp t1 (by omega), (h.pkr.stp s1 (by omega)).stp t1 (by omega), (h.tw.stp s1 (by omega)).stp t1 (by omega)⟩
  · exact (hne _ (by rw [s1.col _ e1, h.ebc]; omega)).trans ((s1.keep _ e1 (by rw [h.ebc]; omega)).trans h.ebh)
  · rw [heap_setCell_same w1 sb k _ 63 _ ((s1.keep _ e2 (by rw [h.sbc]; omega)).trans h.sbh)]
    unfold sentObj
    match k, hk with
    | 0, _ => simp [upd]
    | 1, _ => simp [upd]
  · exact (hne _ (by rw [s1.col _ e3, h.gbc]; omega)).trans ((s1.keep _ e3 (by rw [h.gbc]; omega)).trans h.gbh)
  · by_cases e : j = k
    · subst e
      simp only [upd_same]
      have hr : Rw c1 (j + 9) w1 W.heap.size 28 (some ⟨g, 0, none⟩) ((S j).length + 1) cap (sv j ++ [v]) := ⟨hown, fun a ha => by cases ha; exact f3⟩
      have := hr.stp t1 (by omega)
      rw [List.length_append]
      exact this
    · simp only [upd_other _ e]
      exact ((h.sent j hj).stp s1 (by omega)).stp t1 (by omega)
  · by_cases e : j = k
    · subst e
      simp only [upd_same]
      exact (((h.rows j hj).stp s1 (by omega)).snoc (hv.stp s2 (by omega))).stp t1 (by omega)
    · simp only [upd_other _ e]
      exact ((h.rows j hj).stp s1 (by omega)).stp t1 (by omega)

/-- The list of numbers, behind the growth of the packets' row. -/
theorem OrS.town_after {W' w1 : World} {row : Option Nat} (hb : Below w.heap.size w W') (hgrow : W'.grownBy w1 row) (hrow : row = (Value.slice po n pc).ownBlock) : w1.ownsRow W.heap.size 3 1 (.slice tao n tc) n (nvs ts) ∧ W.heap.size ≤ w1.heap.size := by
  subst hrow
  have hsz := hb.size
  refine ⟨ownsRow_of h.tw.own (fun g hg => ?_), by have := h.law.below.size; have := hgrow.size; omega⟩
  cases tao with
  | none => cases hg
  | some a =>
    injection hg with hg
    subst hg
    have hl := own_in h.tw.own a rfl
    refine (hgrow.block _ (by omega) (fun e => ?_)).trans (hb.block _ hl)
    cases po with
    | none => cases e
    | some b =>
      injection e with e
      have h1 := h.tw.col a rfl
      have h2 := h.pk.col b rfl
      rw [e, h2] at h1
      cases h1

/-- A packet more. -/
theorem OrS.packet {W' w1 W2 w2 : World} {v : Value} {l : List UInt8} {t g cap g2 cap2 : Nat} {row row2 : Option Nat} (hb : Below w.heap.size w W') (hv : RowC c W' v l)
    (hrow : row = (Value.slice po n pc).ownBlock) (hown : w1.ownsRow W.heap.size 28 1 (.slice (some ⟨g, 0, none⟩) (n + 1) cap) (n + 1) (vs ++ [v])) (hgrow : W'.grownBy w1 row) (hat : row = some g ∨ g = W'.heap.size) (hlt : g < w1.heap.size)
    (hb2 : Below w1.heap.size w1 W2) (hrow2 : row2 = (Value.slice tao n tc).ownBlock) (hown2 : w2.ownsRow W.heap.size 3 1 (.slice (some ⟨g2, 0, none⟩) (n + 1) cap2) (n + 1) (nvs ts ++ [.int .i64 (t : Int)])) (hgrow2 : W2.grownBy w2 row2) (hat2 : row2 = some g2 ∨ g2 = W2.heap.size) (hlt2 : g2 < w2.heap.size) :
    ∃ c', OrS W w2 c' eb sb gb p M S so sc sv G (some ⟨g, 0, none⟩) (n + 1) cap (vs ++ [v]) (ls ++ [l]) (some ⟨g2, 0, none⟩) cap2 (ts ++ [t]) ∧ ∀ v ls, ListC c w v ls → ListC c' w2 v ls := by
  obtain ⟨e1, e2, e3⟩ := h.lts
  subst hrow hrow2
  obtain ⟨c1, s1, s2, f3, f4⟩ := grow_stp2 (k := 5) h.law.fr (fun x hx => by
    cases po with
    | none => cases hx
    | some a => injection hx with hx; subst hx; exact ⟨own_in h.pk.own a rfl, h.pk.col a rfl⟩) hb hgrow hat hlt
  have hsz := s1.size
  have htw := h.tw.stp s1 (by omega)
  obtain ⟨c2, t1, t2, g3, g4⟩ := grow_stp2 (k := 6) s1.fr (fun x hx => by
    cases tao with
    | none => cases hx
    | some a => injection hx with hx; subst hx; exact ⟨own_in htw.own a rfl, htw.col a rfl⟩) hb2 hgrow2 hat2 hlt2
  have keep : ∀ b, b < w.heap.size → c b ≠ 5 → c b ≠ 6 → w2.heap[b]? = w.heap[b]? := fun b hb hc hc' => (t1.keep b (by omega) (by rw [s1.col b hb]; exact hc')).trans (s1.keep b hb hc)
  have colr : ∀ b, b < w.heap.size → c2 b = c b := fun b hb => (t1.col b (by omega)).trans (s1.col b hb)
  refine ⟨c2, ⟨(h.law.stp s1 (by omega)).stp t1 (by omega), fun j hj => ((h.ends j hj).stp s1 (by omega) (by omega)).stp t1 (by omega) (by omega), (colr _ e1).trans h.ebc, (keep _ e1 (by rw [h.ebc]; omega) (by rw [h.ebc]; omega)).trans h.ebh, (colr _ e2).trans h.sbc, (keep _ e2 (by rw [h.sbc]; omega) (by rw [h.sbc]; omega)).trans h.sbh, (colr _ e3).trans h.gbc, (keep _ e3 (by rw [h.gbc]; omega) (by rw [h.gbc]; omega)).trans h.gbh, fun j hj => ((h.sent j hj).stp s1 (by omega)).stp t1 (by omega), fun j hj => ((h.rows j hj).stp s1 (by omega)).stp t1 (by omega), ?_, ((h.pkr.stp s1 (by omega)).snoc (hv.stp s2 (by omega))).stp t1 (by omega), ?_⟩, fun v ls hl => (hl.stp s1 (by omega)).stp t1 (by omega)⟩
  · have hr : Rw c1 5 w1 W.heap.size 28 (some ⟨g, 0, none⟩) (n + 1) cap (vs ++ [v]) := ⟨hown, fun a ha => by cases ha; exact f3⟩
    exact hr.stp t1 (by omega)
  · have e : nvs (ts ++ [t]) = nvs ts ++ [.int .i64 (t : Int)] := by simp [nvs]
    rw [e]
    exact ⟨hown2, fun a ha => by cases ha; exact g3⟩

end

end Go.Proofs.Ytcpemgfpiapaaaa
