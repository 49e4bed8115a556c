/- LinkOrder: what a call leaves of what the law knows; the state ahead of the first call. -/
import Derived.Test.YtcpemgfpiapaaaaOrB
import Derived.Test.YtcpemgfpiapaaaaL6
namespace Go.Proofs.Ytcpemgfpiapaaaa
open Go.RowKit

theorem Try.underlying76 : Try.prog.underlying 76 = some (.slice 57) := by kernel_rfl

theorem inr_quoN {x : Int} (h : InR x) (n : Nat) (hn : 1 ≤ n) : InR (x.tdiv n) := by
  unfold InR at h ⊢
  have h1 := Int.natAbs_tdiv_le_natAbs x n
  have h2 : x.natAbs ≤ 9223372036854775808 := by omega
  by_cases e : x.tdiv n = 9223372036854775808
  · exfalso
    have h3 : x = -9223372036854775808 := by omega
    subst h3
    have : (-9223372036854775808 : Int).tdiv n = -((9223372036854775808 : Int).tdiv n) := Int.neg_tdiv _ _
    have h5 : 0 ≤ (9223372036854775808 : Int).tdiv n := Int.tdiv_nonneg (by omega) (by omega)
    omega
  · omega

theorem RowC.slv {c : Nat → Nat} {w : World} {a : Option Addr} {cp : Nat} {l : List UInt8} (h : RowC c w (.slice a l.length cp) l) : SlV w a l.length cp 1 (bvs l) := by
  obtain ⟨a', cp', e, hs, _⟩ := h
  injection e with e1 _ e2
  subst e1 e2
  exact hs

/-- What the order's law knows of the ends and the packets after q calls. -/
structure OrK (M : Nat → EndM) (S : Nat → List (List UInt8)) (G : Nat → Nat) (ls : List (List UInt8)) (ts : List Nat) (key q : Nat) : Prop where
  ends : ∀ j, j < 2 → OE (M j) (S j) (S (1 - j)) (M (1 - j)).delivered key q
  got : ∀ j, j < 2 → G j = (M j).delivered
  pks : ∀ (i : Nat) l, ls[i]? = some l → l.length ≤ 100000
  two : ∀ t ∈ ts, t < 2
  pk : ∀ (i : Nat) l t, ls[i]? = some l → ts[i]? = some t → PkI l key (S (1 - t)) (M (1 - t)).delivered

theorem OrK.up {M : Nat → EndM} {S : Nat → List (List UInt8)} {G : Nat → Nat} {ls : List (List UInt8)} {ts : List Nat} {key q : Nat} (h : OrK M S G ls ts key q) : OrK M S G ls ts key (q + 1) :=
  ⟨fun j hj => (h.ends j hj).up, h.got, h.pks, h.two, h.pk⟩

theorem PkI.up {l : List UInt8} {key : Nat} {X : List (List UInt8)} {D E : Nat} (h : PkI l key X D) (hDE : D ≤ E) : PkI l key X E := by
  have := h.grow (Y := []) hDE
  rwa [List.append_nil] at this

/-- The state of the law after q calls. -/
def OrR (W w : World) (eb sb gb : Nat) (p : Nat → Nat) (key q : Nat) (s t : Value) : Prop :=
  ∃ (c : Nat → Nat) (M : Nat → EndM) (S : Nat → List (List UInt8)) (so : Nat → Option Addr) (sc : Nat → Nat) (sv : Nat → List Value) (G : Nat → Nat) (po : Option Addr) (n pc : Nat) (vs : List Value) (ls : List (List UInt8)) (tao : Option Addr) (tc : Nat) (ts : List Nat),
    n ≤ 16 * q ∧ s = .slice po n pc ∧ t = .slice tao n tc ∧ OrS W w c eb sb gb p M S so sc sv G po n pc vs ls tao tc ts ∧ OrK M S G ls ts key q

/-- A message is sent. -/
theorem OrK.send {M : Nat → EndM} {S : Nat → List (List UInt8)} {G : Nat → Nat} {ls : List (List UInt8)} {ts : List Nat} {key q : Nat} (h : OrK M S G ls ts key q) (hq : q ≤ 100) {k : Nat} (hk : k < 2) {b : List UInt8} (hb : b.length ≤ 65536) :
    (sendM (M k) b).2 = 0 ∧ OrK (upd M k (sendM (M k) b).1) (upd S k (S k ++ [b])) G ls ts key (q + 1) := by
  obtain ⟨e1, e2, e3⟩ := (h.ends k hk).send hq hb
  have hdl : ∀ j, (upd M k (sendM (M k) b).1 j).delivered = (M j).delivered := fun j => by
    by_cases e : j = k
    · subst e; rw [upd_same]; exact e3
    · rw [upd_other _ e]
  refine ⟨e1, fun j hj => ?_, fun j hj => by rw [hdl]; exact h.got j hj, h.pks, h.two, fun i l t hl ht => ?_⟩
  · rw [hdl]
    by_cases e : j = k
    · subst e
      rw [upd_same, upd_same, upd_other _ (by omega)]
      exact e2
    · rw [upd_other _ e, upd_other _ e]
      have e1 : 1 - j = k := by omega
      rw [e1, upd_same]
      have := (h.ends j hj).peer (Z := [b]) (Nat.le_refl _)
      rw [e1] at this
      exact this
  · rw [hdl]
    have := h.pk i l t hl ht
    by_cases e : 1 - t = k
    · rw [e] at this ⊢
      rw [upd_same]
      exact this.grow (Nat.le_refl _)
    · rw [upd_other _ e]; exact this

/-- Packets are asked for. -/
theorem OrK.out {M : Nat → EndM} {S : Nat → List (List UInt8)} {G : Nat → Nat} {ls : List (List UInt8)} {ts : List Nat} {key q : Nat} (h : OrK M S G ls ts key q) (hq : q ≤ 100) {k : Nat} (hk : k < 2) :
    OrK (upd M k (outM (M k))) S G ls ts key (q + 1) ∧ ∀ l ∈ outP (M k), PkI l key (S k) (M k).delivered := by
  obtain ⟨e2, e3⟩ := (h.ends k hk).out hq
  have hdl : ∀ j, (upd M k (outM (M k)) j).delivered = (M j).delivered := fun j => by
    by_cases e : j = k
    · subst e; rw [upd_same]; rfl
    · rw [upd_other _ e]
  refine ⟨⟨fun j hj => ?_, fun j hj => by rw [hdl]; exact h.got j hj, h.pks, h.two, fun i l t hl ht => by rw [hdl]; exact h.pk i l t hl ht⟩, e3⟩
  rw [hdl]
  by_cases e : j = k
  · subst e; rw [upd_same]; exact e2
  · rw [upd_other _ e]; exact (h.ends j hj).up

/-- A packet more. -/
theorem OrK.packet {M : Nat → EndM} {S : Nat → List (List UInt8)} {G : Nat → Nat} {ls : List (List UInt8)} {ts : List Nat} {key q : Nat} (h : OrK M S G ls ts key q) (hlt : ls.length = ts.length) {l : List UInt8} {t : Nat} (ht : t < 2) (hl : l.length ≤ 100000) (hp : PkI l key (S (1 - t)) (M (1 - t)).delivered) :
    OrK M S G (ls ++ [l]) (ts ++ [t]) key q := by
  refine ⟨h.ends, h.got, fun i x hx => ?_, fun x hx => ?_, fun i x y hx hy => ?_⟩
  · rcases List.mem_append.1 (List.mem_of_getElem? hx) with hm | hm
    · obtain ⟨i', hi', e⟩ := List.mem_iff_getElem.1 hm
      exact h.pks i' x (by rw [List.getElem?_eq_getElem hi', e])
    · simp at hm; subst hm; exact hl
  · rcases List.mem_append.1 hx with hm | hm
    · exact h.two x hm
    · simp at hm; omega
  · rcases Nat.lt_or_ge i ls.length with hi | hi
    · rw [List.getElem?_append_left hi] at hx
      rw [List.getElem?_append_left (by omega)] at hy
      exact h.pk i x y hx hy
    · rw [List.getElem?_append_right hi] at hx
      rw [List.getElem?_append_right (by omega), ← hlt] at hy
      have h0 := (List.getElem?_eq_some_iff.1 hx).1
      simp at h0
      rw [h0] at hx hy
      simp at hx hy
      subst hx hy
      exact hp

/-- A packet is taken. -/
theorem OrK.in_ {M : Nat → EndM} {S : Nat → List (List UInt8)} {G : Nat → Nat} {ls : List (List UInt8)} {ts : List Nat} {key q : Nat} (h : OrK M S G ls ts key q) (hq : q ≤ 100) {i t : Nat} {l : List UInt8} (ht : t < 2) (hl : ls[i]? = some l) (htt : ts[i]? = some t) :
    ∃ M' xs, inM (M t) l = (M', xs, 0) ∧ G t + xs.length ≤ (S (1 - t)).length ∧ (∀ (i : Nat) x, xs[i]? = some x → (S (1 - t))[G t + i]? = some x) ∧ OrK (upd M t M') S (upd G t (G t + xs.length)) ls ts key (q + 1) := by
  have hE := h.ends t ht
  have hE2 := h.ends (1 - t) (by omega)
  have e1 : 1 - (1 - t) = t := by omega
  rw [e1] at hE2
  obtain ⟨M', xs, a1, a2, a3, a4⟩ := hE.in_ hq hE2.del (h.pk i l t hl htt)
  have hg := h.got t ht
  rw [← hg] at a3 a4
  have hd := a2.del
  refine ⟨M', xs, a1, by omega, a4, fun j hj => ?_, fun j hj => ?_, h.pks, h.two, fun i l s hl hs => ?_⟩
  · by_cases e : j = t
    · subst e
      rw [upd_same, upd_other _ (by omega)]
      exact a2
    · rw [upd_other _ e]
      have e2 : 1 - j = t := by omega
      rw [e2, upd_same]
      have := (h.ends j hj).peer (Z := []) (E' := M'.delivered) (by rw [e2]; omega)
      rw [List.append_nil, e2] at this
      exact this
  · by_cases e : j = t
    · subst e; rw [upd_same, upd_same]; exact a3.symm
    · rw [upd_other _ e, upd_other _ e]; exact h.got j hj
  · have := h.pk i l s hl hs
    by_cases e : 1 - s = t
    · rw [e] at this ⊢
      rw [upd_same]
      exact this.up (by omega)
    · rw [upd_other _ e]; exact this

theorem alloc_col {c : Nat → Nat} (k : Nat) {w : World} (hf : Fr c w) (cs : Array Value) (t : TypeId) : ∃ c', Stp c c' k w (w.alloc (.cells cs t)) ∧ c' w.heap.size = k ∧ (w.alloc (.cells cs t)).heap[w.heap.size]? = some (.cells cs t (0, 0)) := by
  have hb : Below w.heap.size w (w.alloc (.cells cs t)) := (Below.refl _ _).alloc (Nat.le_refl _) _
  refine ⟨fun x => if x = w.heap.size then k else c x, ⟨hb.os, hb.tape, hb.output, hb.size, fun x hx => if_neg (by omega), fun x hx _ => hb.block x hx, fun x hx => ?_⟩, by simp, heap_alloc_new w _⟩
  have : w.heap.size + 1 ≤ x := by simpa using hx
  rw [if_neg (by omega)]
  exact hf x (by omega)

/-- The state ahead of the first call. -/
theorem or_start {W w : World} {c : Nat → Nat} {eb p0 p1 a0 a1 key : Nat} (hk : key < 18446744073709551616) (h0 : a0 < 16) (h1 : a1 < 16) (hL : LS W w c) (hA : EndV c 1 w p0 (newM (1 + a0) key)) (hB : EndV c 2 w p1 (newM (1 + a1) key)) (hce : c eb = 0)
    (hEB : w.heap[eb]? = some (.cells #[.pointer (some ⟨p0, 0, none⟩), .pointer (some ⟨p1, 0, none⟩)] 57 (0, 0))) :
    OrR W ((w.alloc (.cells #[.slice none 0 0, .slice none 0 0] 63)).alloc (.cells #[.int .i64 0, .int .i64 0] 3)) eb w.heap.size (w.heap.size + 1) (fun j => if j = 0 then p0 else p1) key 0 (.slice none 0 0) (.slice none 0 0) := by
  obtain ⟨c1, s1, e1, b1⟩ := alloc_col (c := c) 7 hL.fr #[.slice none 0 0, .slice none 0 0] 63
  obtain ⟨c2, s2, e2, b2⟩ := alloc_col (c := c1) 8 s1.fr #[.int .i64 0, .int .i64 0] 3
  have hs1 : (w.alloc (.cells #[.slice none 0 0, .slice none 0 0] 63)).heap.size = w.heap.size + 1 := by simp
  rw [hs1] at e2 b2
  have hel := (Array.getElem?_eq_some_iff.1 hEB).1
  refine ⟨c2, fun j => newM (1 + if j = 0 then a0 else a1) key, fun _ => [], fun _ => none, fun _ => 0, fun _ => [], fun _ => 0, none, 0, 0, [], [], none, 0, [], by omega, rfl, rfl, ⟨(hL.stp s1 (by decide)).stp s2 (by decide), fun j hj => ?_, (s2.col _ (by omega)).trans ((s1.col _ hel).trans hce), ?_, (s2.col _ (by omega)).trans e1, ?_, e2, b2, fun j hj => Rw.nil _ _ _ _ _, fun j hj => RowsC.nil _ _, Rw.nil _ _ _ _ _, RowsC.nil _ _, Rw.nil _ _ _ _ _⟩, ⟨fun j hj => ?_, fun j hj => rfl, fun i l h => (by simp at h), fun t h => (by cases h), fun i l t h => (by simp at h)⟩⟩
  · match j, hj with
    | 0, _ => exact (hA.stp s1 (by decide) (by decide)).stp s2 (by decide) (by decide)
    | 1, _ => exact (hB.stp s1 (by decide) (by decide)).stp s2 (by decide) (by decide)
  · refine (s2.keep eb (by omega) ?_).trans ((s1.keep eb hel ?_).trans hEB)
    · rw [s1.col _ hel, hce]; decide
    · rw [hce]; decide
  · refine (s2.keep _ (by omega) ?_).trans b1
    rw [e1]; decide
  · exact OE.new (by omega) (by split <;> omega) hk

theorem upd_upd {α : Type} (f : Nat → α) (k : Nat) (a b : α) : upd (upd f k a) k b = upd f k b := by
  funext j; unfold upd; split <;> rfl
theorem upd_self {α : Type} (f : Nat → α) (k : Nat) : upd f k (f k) = f := by
  funext j; unfold upd; split
  · rename_i e; rw [e]
  · rfl

/-- The block of what was sent, behind the growth of a row. -/
theorem OrS.sb_after {W w : World} {c : Nat → Nat} {eb sb gb : Nat} {p : Nat → Nat} {M : Nat → EndM} {S : Nat → List (List UInt8)} {so : Nat → Option Addr} {sc : Nat → Nat} {sv : Nat → List Value} {G : Nat → Nat} {po : Option Addr} {n pc : Nat} {vs : List Value} {ls : List (List UInt8)} {tao : Option Addr} {tc : Nat} {ts : List Nat} (h : OrS W w c eb sb gb p M S so sc sv G po n pc vs ls tao tc ts)
    {k : Nat} (hk : k < 2) {W' w1 : World} {row : Option Nat} (hb : Below w.heap.size w W') (hgrow : W'.grownBy w1 row) (hrow : row = (Value.slice (so k) (S k).length (sc k)).ownBlock) :
    w1.cell? ⟨sb, k, none⟩ = some (.slice (so k) (S k).length (sc k)) ∧ w1.frozen? ⟨sb, k, none⟩ = false := by
  subst hrow
  obtain ⟨e1, e2, e3⟩ := h.lts
  have hsz := hb.size
  have hh : w1.heap[sb]? = some (sentObj so (fun j => (S j).length) sc) := by
    refine (hgrow.block sb (by omega) (fun e => ?_)).trans ((hb.block sb e2).trans h.sbh)
    cases hso : so k with
    | none => rw [hso] at e; cases e
    | some a =>
      rw [hso] at e
      injection e with e
      have h1 := (h.sent k hk).col a hso
      rw [← e, h.sbc] at h1
      omega
  refine ⟨?_, (cells_of hh k).2⟩
  rw [(cells_of hh k).1]
  match k, hk with
  | 0, _ => rfl
  | 1, _ => rfl

end Go.Proofs.Ytcpemgfpiapaaaa
