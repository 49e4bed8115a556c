/- LinkWindow. -/
import Derived.Deep.OwnRows
import Derived.Test.YtcpemgfpiapaaaaLw
import Derived.Test.YtcpemgfpiapaaaaL6
namespace Go.Proofs.Ytcpemgfpiapaaaa
open Go.RowKit

set_option maxRecDepth 100000 in
set_option maxHeartbeats 1000000 in
theorem l7_bad (W : World) (win : Int) (hbad : win < 1 ∨ 16 < win) (key : Nat) (many ack : Int) :
    Calls Try.prog 7 #[.int .i64 win, .int .u64 (key : Int), .int .i64 many, .int .i64 ack] W (fun e w' => e = .returned (.bool true) ∧ Below W.heap.size W w') := by
  rcases hbad with hb | hb
  · have s0 := True.intro
    go_enter Try.func7, Try.ntmps7
    go_wp2_with (first
      | (clear s0; go_at_call 47; refine (new_bad win key _ (.inl hb)).mono ?_; rintro e w1 ⟨rfl, rfl⟩; have s1 := True.intro)
      | (clear s1; go_at_call 53; refine (lives_any _).mono ?_; rintro e w2 ⟨rfl, hb2⟩; have s2 := True.intro))
    go_ret
    exact ⟨rfl, hb2⟩
  · by_cases hb1 : win < 1
    · omega
    · have s0 := True.intro
      go_enter Try.func7, Try.ntmps7
      go_wp2_with (first
        | (clear s0; go_at_call 47; refine (new_bad win key _ (.inr hb)).mono ?_; rintro e w1 ⟨rfl, rfl⟩; have s1 := True.intro)
        | (clear s1; go_at_call 53; refine (lives_any _).mono ?_; rintro e w2 ⟨rfl, hb2⟩; have s2 := True.intro))
      go_ret
      exact ⟨rfl, hb2⟩

/-- The end behind an acknowledgement of K. -/
def wK (win key q K : Nat) : EndM := ackM (wM win key q) (K : Int)

theorem wK_len {win key q K : Nat} (h : K ≤ q) : (wK win key q K).waiting.length = q - K := by
  unfold wK ackM
  have e : (wM win key q).acked = 0 := rfl
  rw [e]
  split
  · rename_i hp
    simp only [List.length_drop, wM_len]
    omega
  · rename_i hp
    rw [wM_len]
    omega

theorem wK_wf {win key q K : Nat} (h1 : 1 ≤ win) (h2 : win ≤ 16) (hk : key < 18446744073709551616) (hq : q ≤ 1000) (h : K ≤ q) : Wf (wK win key q K) :=
  ackM_wf (wM_wf h1 h2 hk hq) (by rw [wM_len]; show (K : Int) ≤ (0 : Int) + (q : Int); omega) (Nat.zero_le _)

theorem wK_fields (win key q K : Nat) : (wK win key q K).window = win ∧ (wK win key q K).owing = false ∧ (wK win key q K).delivered = 0 := by
  unfold wK ackM; split <;> exact ⟨rfl, rfl, rfl⟩

theorem wK_outlen {win key q K : Nat} (h : K ≤ q) : (outP (wK win key q K)).length = min win (q - K) := by
  have e : outP (wK win key q K) = outL (wK win key q K) := by unfold outP; rw [(wK_fields win key q K).2.1]; simp
  rw [e, outL_len, wK_len h, (wK_fields win key q K).1]

theorem w_in1 {win key q : Nat} (hq : q ≤ 1000) : inM (wM win key q) (sealB key (pktB 0 ((q : Int) + 1) [])) = (wM win key q, [], 0) := by
  refine (in_pkt (wM win key q) (seq := 0) (ack := (q : Int) + 1) (l := []) (by unfold InR; omega) (by unfold InR; omega) ⟨by omega, by omega, by decide, .inr rfl⟩).trans ?_
  rw [if_pos (.inl (by rw [wM_len]; show (0 : Int) + (q : Int) < (q : Int) + 1; omega))]

theorem w_in2 {win key q K : Nat} (hq : q ≤ 1000) (h : K ≤ q) : inM (wM win key q) (sealB key (pktB 0 (K : Int) [])) = (wK win key q K, [], 0) := by
  refine (in_pkt (wM win key q) (seq := 0) (ack := (K : Int)) (l := []) (by unfold InR; omega) (by unfold InR; omega) ⟨by omega, by omega, by decide, .inr rfl⟩).trans ?_
  rw [if_neg, if_pos rfl]
  · rfl
  · rw [wM_len]
    show ¬ ((0 : Int) + (q : Int) < (K : Int) ∨ (0 : Int) + 16 < 0)
    omega

/-- A fresh end behind the second packet; behind the first. -/
def wD (key : Nat) : EndM := { newM 1 key with owing := true, held := putH (fun _ => none) 2 [UInt8.ofNat 1] }

theorem wD_wf {key : Nat} (hk : key < 18446744073709551616) : Wf (wD key) := ⟨⟨by simp [wD, newM], by simp [wD, newM]⟩, hk, by simp [wD, newM], fun l h => by simp [wD, newM] at h, by simp [wD, newM], by simp [wD, newM], by simp [wD, newM], fun q l h => by
  have h' : putH (fun _ => none) 2 [UInt8.ofNat 1] q = some l := h
  by_cases e : q = 2
  · subst e
    rw [putH_same] at h'
    cases h'
    exact ⟨by show ((0 : Nat) : Int) < 2; omega, by show (2 : Int) ≤ ((0 : Nat) : Int) + 16; omega, by simp⟩
  · rw [putH_other _ e] at h'; cases h'⟩

theorem w_in3 (key : Nat) : inM (newM 1 key) (wP key 1) = (wD key, [], 0) := by
  refine (in_pkt (newM 1 key) (seq := 2) (ack := 0) (l := [UInt8.ofNat 1]) (by unfold InR; omega) (by unfold InR; omega) (by decide)).trans ?_
  have e1 : ¬ (((newM 1 key).acked : Int) + ((newM 1 key).waiting.length : Int) < 0 ∨ ((newM 1 key).delivered : Int) + 16 < 2) := by
    show ¬ ((0 : Int) + 0 < 0 ∨ (0 : Int) + 16 < 2)
    omega
  rw [if_neg e1, if_neg (by decide)]
  rfl

theorem w_in4 (key : Nat) : ∃ D, inM (wD key) (wP key 0) = (D, [[UInt8.ofNat 0], [UInt8.ofNat 1]], 0) := by
  refine ⟨delivM (holdM (ackM (wD key) 0) 1 [UInt8.ofNat 0]), (in_pkt (wD key) (seq := 1) (ack := 0) (l := [UInt8.ofNat 0]) (by unfold InR; omega) (by unfold InR; omega) (by decide)).trans ?_⟩
  have e1 : ¬ (((wD key).acked : Int) + ((wD key).waiting.length : Int) < 0 ∨ ((wD key).delivered : Int) + 16 < 1) := by
    show ¬ ((0 : Int) + 0 < 0 ∨ (0 : Int) + 16 < 1)
    omega
  rw [if_neg e1, if_neg (by decide)]
  rfl

/-- A slice made of zeros. -/
theorem made_sl (w : World) (n : Nat) (hn : n ≤ maxLen) : SlV (w.alloc (.cells (madeCells #[Value.int .u8 0] n) 5)) (some ⟨w.heap.size, 0, none⟩) n n 1 (bvs (List.replicate n 0)) := by
  have e : bvs (List.replicate n (0 : UInt8)) = List.replicate n (Value.int .u8 0) := by
    unfold bvs
    rw [List.map_replicate]
    rfl
  rw [e]
  refine lit_sl w 5 _ n 1 _ ?_ (by simp) hn
  rw [← toList_madeCells_one (Value.int .u8 0) n]

set_option maxRecDepth 100000 in
set_option maxHeartbeats 4000000 in
theorem l7_good (W : World) (win : Nat) (h1 : 1 ≤ win) (h2 : win ≤ 16) (key : Nat) (hk : key < 18446744073709551616) (many ack : Int) (hm : InR many) (ha : InR ack) :
    Calls Try.prog 7 #[.int .i64 (win : Int), .int .u64 (key : Int), .int .i64 many, .int .i64 ack] W (fun e w' => e = .returned (.bool true) ∧ Below W.heap.size W w') := by
  have hL0 := LS.start W
  obtain ⟨N, hN, hNa⟩ := around_K (at' := many) (n := 40) (by omega)
  have hNa' : around many 40 = (N : Int) := hNa
  have s0 := True.intro
  go_enter Try.func7, Try.ntmps7
  go_upto_block 0 with (first
    | (clear s0; go_at_call 47; refine (lx_new hL0 1 win key (by decide) h1 h2).mono ?_; rintro e w1 ⟨c1, pa, rfl, hL1, st1, hA1⟩; clear hL0 st1; have s1 := True.intro)
    | (clear s1; go_at_call 45; refine (around_any many 40 hm (by omega) _).mono ?_; rw [hNa']; rintro e w2 ⟨rfl, rfl⟩; have s2 := True.intro))
  obtain ⟨hL3, st3, hc3⟩ := hL1.alloc7 (.cells #[.int .u8 0] 5)
  have hA3 := hA1.stp st3 (by decide) (by decide)
  have hB3 : (w2.alloc (.cells #[.int .u8 0] 5)).heap[w2.heap.size]? = some (.cells #[.int .u8 0] 5 (0, 0)) := heap_alloc_new w2 _
  generalize w2.alloc (.cells #[.int .u8 0] 5) = w3 at hL3 st3 hA3 hB3 ⊢
  generalize w2.heap.size = B0 at hL3 st3 hc3 hA3 hB3 ⊢
  generalize upd7 c1 B0 = c3 at hL3 st3 hc3 hA3
  clear hL1 hA1 st3
  rw [← wM_zero] at hA3
  have HL3 := Lib.hid hL3
  have HA3 := Lib.hid hA3
  have HB3 : Hid (∃ x : UInt8, w3.heap[B0]? = some (.cells #[.int .u8 (x.toNat : Int)] 5 (0, 0))) := Lib.hid ⟨0, hB3⟩
  clear hL3 hA3 hB3
  go_wp2_with fail
  go_loopw [13] (fun i wr => ∃ (q : Nat) (cq : Nat → Nat), q ≤ N ∧ i = .int .i64 q ∧ Hid (LS W wr cq) ∧ Hid (EndV cq 1 wr pa (wM win key q)) ∧ Hid (cq B0 = 7) ∧ Hid (∃ x : UInt8, wr.heap[B0]? = some (.cells #[.int .u8 (x.toNat : Int)] 5 (0, 0)))) (fun i _ => N - (intOf i).toNat)
  case atStart => exact ⟨0, c3, by omega, rfl, HL3, HA3, Lib.hid hc3, HB3⟩
  case round =>
    obtain ⟨q, cq, hq, rfl, hL, hA, hc, hB⟩ := hrel
    by_cases hqN : q < N
    · obtain ⟨x, hBx⟩ := hB.out
      have hc0 : wr.cell? ⟨B0, 0, none⟩ = some (.int .u8 (x.toNat : Int)) := (cells_of hBx 0).1
      have hf0 : wr.frozen? ⟨B0, 0, none⟩ = false := (cells_of hBx 0).2
      have hBl : B0 < wr.heap.size := (Array.getElem?_eq_some_iff.1 hBx).1
      have hwq : IntKind.u8.wrap (q : Int) = ((UInt8.ofNat q).toNat : Int) := by
        rw [IntKind.wrap_u8, UInt8.toNat_ofNat', Nat.mod_eq_of_lt (by omega)]
        omega
      obtain ⟨hL4, st4⟩ := hL.out.set7 hc.out hBl 0 (.int .u8 ((UInt8.ofNat q).toNat : Int))
      have hA4 := hA.out.stp st4 (by decide) (by decide)
      have hB4 : (wr.setCell ⟨B0, 0, none⟩ (.int .u8 ((UInt8.ofNat q).toNat : Int))).heap[B0]? = some (.cells #[.int .u8 ((UInt8.ofNat q).toNat : Int)] 5 (0, 0)) := by
        rw [heap_setCell_same wr B0 0 _ 5 _ hBx]
        rfl
      have hsl : SlV (wr.setCell ⟨B0, 0, none⟩ (.int .u8 ((UInt8.ofNat q).toNat : Int))) (some ⟨B0, 0, none⟩) 1 1 1 (bvs [UInt8.ofNat q]) :=
        ⟨rfl, Nat.le_refl _, by unfold maxLen; omega, fun h => by (cases h), fun a ha j u hj => by
          cases ha
          match j, hj with
          | 0, hj =>
            simp [bvs] at hj
            subst hj
            exact (cells_of hB4 0).1⟩
      have hBl4 : B0 < (wr.setCell ⟨B0, 0, none⟩ (.int .u8 ((UInt8.ofNat q).toNat : Int))).heap.size := by simpa using hBl
      have s3 := True.intro
      go_wp2_with (first
        | (clear s3; go_at_call 54; refine (lx_send hL4 (by decide) hA4 hsl (by decide)).mono ?_; rw [wM_send (by omega)]; rintro e w5 ⟨c5, hL5, st5, hA5, rfl⟩; have s4 := True.intro))
      go_roundw
      case rel => exact ⟨q + 1, c5, by omega, by go_num, Lib.hid hL5, Lib.hid hA5, Lib.hid ((st5.col B0 hBl4).trans hc.out), Lib.hid ⟨_, (st5.keep B0 hBl4 (by rw [hc.out]; decide)).trans hB4⟩⟩
      case measure => simp [intOf]; omega
    · obtain rfl : q = N := by omega
      obtain ⟨x, hBx⟩ := hB.out
      have hc0 : wr.cell? ⟨B0, 0, none⟩ = some (.int .u8 (x.toNat : Int)) := (cells_of hBx 0).1
      have hf0 : wr.frozen? ⟨B0, 0, none⟩ = false := (cells_of hBx 0).2
      have hBl : B0 < wr.heap.size := (Array.getElem?_eq_some_iff.1 hBx).1
      obtain ⟨hL6, st6⟩ := hL.out.set7 hc.out hBl 0 (.int .u8 99)
      have hA6 := hA.out.stp st6 (by decide) (by decide)
      go_upto_region 15 with fail
      generalize wr.setCell ⟨B0, 0, none⟩ (.int .u8 99) = w6 at hL6 hA6 ⊢
      clear hc0 hf0 hBl hBx hB hc st6 hL hA HL3 HA3 HB3
      obtain ⟨m, hml⟩ : ∃ m, (outP (wM win key q)).length = m := ⟨_, rfl⟩
      have hmin : m = min win q := by rw [← hml, wM_outlen]
      have HML := Lib.hid hml
      have HMIN := Lib.hid hmin
      have hmw : m ≤ win := by omega
      have hmq : m ≤ q := by omega
      clear hml hmin
      have s4 := True.intro
      go_wp2_with (first
        | (clear s4; go_at_call 51; refine (out_own cq 1 pa (wM win key q) w6 hL6.fr (by decide) (wM_wf h1 h2 hk (by omega)) hA6 rfl).mono ?_; unfold OutO; rw [HML.out]; rintro e w7 ⟨ao, cap, vs, rfl, st7, hEnd, slL, hO, hao⟩; obtain ⟨hL7, st7', hag⟩ := hL6.col7 st7 (by decide); have hA7 := hEnd _ hag hL7.fr; have s5 := True.intro))
      have hcol : ∀ b, w6.heap.size ≤ b → b < w7.heap.size → col7 cq w6.heap.size w7.heap.size b = 7 := fun b h1 h2 => if_pos ⟨h1, h2⟩
      generalize col7 cq w6.heap.size w7.heap.size = c7 at hL7 st7' hag hA7 hcol
      have hrow7 : ∀ j l, (outP (wM win key q))[j]? = some l → ∃ g cp, vs[j]? = some (Value.slice (some ⟨g, 0, none⟩) l.length cp) ∧ OwnB w7 w6.heap.size (some ⟨g, 0, none⟩) cp l := fun j l hj => hO.row j l hj
      have HAP := Lib.hid hO.apart
      have HAO := Lib.hid hao
      have HCO := Lib.hid hcol
      have hbl7 : ∀ (j g n b : Nat), vs[j]? = some (Value.slice (some ⟨g, 0, none⟩) n b) → w6.heap.size ≤ g ∧ g < w7.heap.size := fun j g n b e => by
        have hj : j < (outP (wM win key q)).length := by rw [← hO.len]; exact (List.getElem?_eq_some_iff.1 e).1
        obtain ⟨g', cp', e', o'⟩ := hrow7 j _ (List.getElem?_eq_getElem hj)
        rw [e] at e'
        simp only [Option.some.injEq, Value.slice.injEq, Addr.mk.injEq, and_true] at e'
        rw [e'.1]
        exact own_g o'
      have HBL := Lib.hid hbl7
      have H7 := Lib.hid (⟨hL7, hA7, slL⟩ : LS W w7 c7 ∧ EndV c7 1 w7 pa (outM (wM win key q)) ∧ SlV w7 ao m cap 1 vs)
      have HR7 := Lib.hid hrow7
      clear hL6 hA6 st7 hEnd slL hO hao hL7 st7' hag hA7 hcol hrow7 hbl7
      go_loopw [15] (fun i wr => ∃ t : Nat, t ≤ m ∧ i = .int .i64 t ∧ w7.heap.size ≤ wr.heap.size ∧ Hid (LS W wr c7 ∧ EndV c7 1 wr pa (outM (wM win key q)) ∧ SlV wr ao m cap 1 vs) ∧ Hid (∀ j l, t ≤ j → (outP (wM win key q))[j]? = some l → ∃ g cp, vs[j]? = some (Value.slice (some ⟨g, 0, none⟩) l.length cp) ∧ OwnB wr w6.heap.size (some ⟨g, 0, none⟩) cp l)) (fun i _ => m - (intOf i).toNat)
      case atStart => exact ⟨0, by omega, rfl, Nat.le_refl _, H7, Lib.hid (fun j l _ h => HR7.out j l h)⟩
      case round =>
        obtain ⟨t, ht, rfl, hsz, hS, hR⟩ := hrel
        by_cases htm : t < m
        · obtain ⟨hLr, hAr, hSr⟩ := hS.out
          have hlt := wM_outAt (win := win) (key := key) (q := q) (i := t) (by omega)
          obtain ⟨gW, cp, hv, hown⟩ := hR.out t _ (Nat.le_refl _) hlt
          have hlen := wP_len key t
          obtain ⟨X, hX⟩ : ∃ X, wP key t = X := ⟨_, rfl⟩
          rw [hX] at hv hown hlen
          obtain ⟨a, rfl⟩ := hSr.has (by omega)
          have hcell := hSr.cell a rfl t _ hv
          obtain ⟨x0, hx0⟩ : ∃ x0, X[0]? = some x0 := ⟨_, List.getElem?_eq_getElem (by omega)⟩
          have hbu : t < 40 := by omega
          have hwt : IntKind.u8.wrap (t : Int) = ((UInt8.ofNat t).toNat : Int) := by
            rw [IntKind.wrap_u8, UInt8.toNat_ofNat', Nat.mod_eq_of_lt (by omega)]
            omega
          have hwt1 : IntKind.i64.wrap ((t : Int) + 1) = (t : Int) + 1 := IntWalk.i64_in _ (by omega)
          have k0 : Below wr.heap.size wr wr.drew := (Below.refl _ _).drew
          have k1 := k0.alloc (Nat.le_refl _) (.cells #[.int .u8 ((UInt8.ofNat t).toNat : Int)] 5)
          have hSS : ∀ w' : World, Below wr.heap.size wr w' → w'.cell? (a.add t) = some (.slice (some ⟨gW, 0, none⟩) X.length cp) := fun w' h => cell_later h hcell
          have hsl := hown.sl
          have HX := Lib.hid hX
          have hpk := pkt_len ((t : Int) + 1) 0 [UInt8.ofNat t]
          have hpk2 : (pktB ((t : Int) + 1) 0 [UInt8.ofNat t]).length ≤ 100 := by simp at hpk; omega
          have HR := Lib.hid hR.out
          have hg67 := HBL.out t gW _ _ hv
          have hgl : gW < wr.heap.size := by omega
          clear hX hpk hR hS
          go_wp2_with fail
          go_region_held (fun w' => w'.cell? (a.add t) = some (.slice (some ⟨gW, 0, none⟩) X.length cp)) (first | exact hSS _ k4 | exact hSS _ k3 | exact hSS _ k2 | exact hSS _ k1 | exact hSS _ k0) (first
            | (go_at_call 49; refine (rpkt_any ((t : Int) + 1) 0 (by unfold InR; omega) (by unfold InR; omega) _ 1 1 [UInt8.ofNat t] _ (sl_newf wr.drew (bv (UInt8.ofNat t)) 5 (0, 0)) (by decide)).mono ?_; rintro e y1 ⟨e1, f1, rfl, p1, q1⟩; have k2 := k1.trans (q1.mono k1.size))
            | (go_at_call 48; refine (rseal_any key hk _ _ _ _ _ p1.sl (by omega)).mono ?_; rintro e y2 ⟨e2, f2, rfl, p2, q2⟩; have k3 := k2.trans (q2.mono k2.size))
            | (go_at_call 19; refine (ux_same (hLr.step k3).below (hsl.below k3 (Nat.le_refl _)) p2.sl HX.out.symm).mono ?_; rintro e y3 ⟨rfl, r3, q3⟩; have k4 := k3.trans (q3.mono k3.size)))
          have hL4 := hLr.step k4
          have hA4 := hAr.below hLr.fr k4
          have hS4 := hSr.below k4 (Nat.le_refl _)
          have hown4 := hown.below k4 (Nat.le_refl _)
          have hcell4 := hSS _ k4
          obtain ⟨hc5, hf5, _, _⟩ := own_set hown4 hx0
          have hg4 : gW < y3.heap.size := Nat.lt_of_lt_of_le hgl k4.size
          obtain ⟨hL5, st5⟩ := hL4.set7 (HCO.out gW hg67.1 hg67.2) hg4 0 (.int .u8 77)
          have hA5 := hA4.stp st5 (by decide) (by decide)
          have hS5 : SlV (y3.setCell ⟨gW, 0, none⟩ (.int .u8 77)) (some a) m cap 1 vs := hS4.set (fun b hb => by cases hb; exact ((HAO.out a rfl).2 t gW _ _ hv).symm) _
          have hR5 : Hid (∀ j l, t + 1 ≤ j → (outP (wM win key q))[j]? = some l → ∃ g cp, vs[j]? = some (Value.slice (some ⟨g, 0, none⟩) l.length cp) ∧ OwnB (y3.setCell ⟨gW, 0, none⟩ (.int .u8 77)) w6.heap.size (some ⟨g, 0, none⟩) cp l) := by
            refine Lib.hid (fun j l hj hl => ?_)
            obtain ⟨gj, cj, ej, oj⟩ := HR.out j l (by omega) hl
            refine ⟨gj, cj, ej, ownsRow_of (oj.below k4 (Nat.le_refl _)) (fun y hy => heap_setCell_other _ _ _ _ ?_)⟩
            injection hy with hy
            subst hy
            exact fun e => HAP.out j t gj gW _ _ _ _ ej hv (by omega) e
          go_wp2
          go_roundw
          case rel => exact ⟨t + 1, by omega, by go_num, by have := k4.size; simp; omega, Lib.hid ⟨hL5, hA5, hS5⟩, hR5⟩
          case measure => simp [intOf]; omega
        · obtain rfl : t = m := by omega
          obtain ⟨hLr, hAr, _⟩ := hS.out
          have hAr' : EndV c7 1 wr pa (wM win key q) := hAr
          have hwf := wM_wf (q := q) h1 h2 hk (by omega)
          clear hS hR H7 HR7 HAP HAO HCO HBL hAr
          have hif1 : (if win < q then (win : Int) else (q : Int)) = (t : Int) := by have := HMIN.out; split <;> omega
          have s6 := True.intro
          go_upto_region 23 with (first
            | (clear s6; go_at_call 55; refine (copy_any c7 1 2 pa (wM win key q) wr hLr.fr (by decide) hwf hAr').mono ?_; rintro e w8 ⟨c8, p2, st8, hC8, _, rfl⟩; have hL8 := hLr.stp st8 (by decide); have hA8 := hAr'.stp st8 (by decide) (by decide); have s7 := True.intro))
          obtain ⟨K2, hK2, hKa2⟩ := around_K (at' := ack) (n := q + 1) (by omega)
          have hKa3 : around ack ((q : Int) + 1) = (K2 : Int) := by have := hKa2; push_cast at this; exact this
          have hKq : K2 ≤ q := by omega
          have hwq1 : IntKind.i64.wrap ((q : Int) + 1) = (q : Int) + 1 := IntWalk.i64_in _ (by omega)
          have hi1 := Lib.hid (w_in1 (win := win) (key := key) (q := q) (by omega))
          have hi2 := Lib.hid (w_in2 (win := win) (key := key) (q := q) (K := K2) (by omega) hKq)
          have hp1 : (pktB 0 ((q : Int) + 1) []).length ≤ 100 := by have := pkt_len 0 ((q : Int) + 1) []; simp at this; omega
          have hp2 : (pktB 0 (K2 : Int) []).length ≤ 100 := by have := pkt_len 0 (K2 : Int) []; simp at this; omega
          obtain ⟨U1, hU1⟩ : ∃ U, sealB key (pktB 0 ((q : Int) + 1) []) = U := ⟨_, rfl⟩
          obtain ⟨U2, hU2⟩ : ∃ U, sealB key (pktB 0 (K2 : Int) []) = U := ⟨_, rfl⟩
          have hu1 : U1.length ≤ 200 := by rw [← hU1, sealB_length]; omega
          have hu2 : U2.length ≤ 200 := by rw [← hU2, sealB_length]; omega
          rw [hU1] at hi1
          rw [hU2] at hi2
          obtain ⟨mq, hmq'⟩ : ∃ mq, (outP (wK win key q K2)).length = mq := ⟨_, rfl⟩
          have HMQ := Lib.hid hmq'
          clear hmq'
          have HU1 := Lib.hid hU1
          have HU2 := Lib.hid hU2
          clear hU1 hU2 hKa2 hLr hAr' st8
          go_upto_block 0 with (first
            | (clear s7; go_at_call 45; refine (around_any ack ((q : Int) + 1) ha (by omega) _).mono ?_; rw [hKa3]; rintro e w9 ⟨rfl, rfl⟩; have s8 := True.intro)
            | (clear s8; go_at_call 49; refine (rpkt_any 0 ((q : Int) + 1) (by unfold InR; omega) (by unfold InR; omega) none 0 0 [] _ (sl_zero _ _ _) (by decide)).mono ?_; rintro e y1 ⟨e1, f1, rfl, p1, b1⟩; have s9 := True.intro)
            | (clear s9; go_at_call 48; refine (rseal_any key hk _ _ _ _ _ p1.sl (by omega)).mono ?_; rw [HU1.out]; rintro e y2 ⟨e2, f2, rfl, o2, b2⟩; have hb := b1.trans (b2.mono b1.size); have hL9 := hL8.step hb; have hA9 := hA8.below hL8.fr hb; have hC9 := hC8.below hL8.fr hb; clear hL8 hA8 hC8 p1 b1 b2 hb; have s10 := True.intro)
            | (clear s10; go_at_call 50; refine (lx_in hL9 (by decide) hA9 hwf ⟨Nat.zero_le _, Nat.zero_le _⟩ o2.sl (by omega) hi1.out).mono ?_; rintro e w10 ⟨c10, v10, hL10, st10, hA10, hX10, rfl⟩; have hC10 := hC9.stp st10 (by decide) (by decide); obtain ⟨ao10, cap10, rfl⟩ := hX10.len (n := 0) rfl; clear hX10 hL9 hA9 hC9 st10 o2; have s11 := True.intro)
            | (clear s11; go_at_call 49; refine (rpkt_any 0 (K2 : Int) (by unfold InR; omega) (by unfold InR; omega) none 0 0 [] _ (sl_zero _ _ _) (by decide)).mono ?_; rintro e y3 ⟨e3, f3, rfl, p3, b3⟩; have s12 := True.intro)
            | (clear s12; go_at_call 48; refine (rseal_any key hk _ _ _ _ _ p3.sl (by omega)).mono ?_; rw [HU2.out]; rintro e y4 ⟨e4, f4, rfl, o4, b4⟩; have hb := b3.trans (b4.mono b3.size); have hL11 := hL10.step hb; have hA11 := hA10.below hL10.fr hb; have hC11 := hC10.below hL10.fr hb; clear hL10 hA10 hC10 p3 b3 b4 hb; have s13 := True.intro)
            | (clear s13; go_at_call 50; refine (lx_in hL11 (by decide) hA11 hwf ⟨Nat.zero_le _, Nat.zero_le _⟩ o4.sl (by omega) hi2.out).mono ?_; rintro e w12 ⟨c12, v12, hL12, st12, hA12, hX12, rfl⟩; have hC12 := hC11.stp st12 (by decide) (by decide); obtain ⟨ao12, cap12, rfl⟩ := hX12.len (n := 0) rfl; clear hX12 hL11 hA11 hC11 st12 o4; have s14 := True.intro)
            | (clear s14; go_at_call 51; refine (lx_out hL12 (by decide) hA12 (wK_wf h1 h2 hk (by omega) hKq)).mono ?_; rintro e w13 ⟨c13, v13, hL13, st13, hA13, hQ13, rfl⟩; have hC13 := hC12.stp st13 (by decide) (by decide); clear hL12 hA12 hC12 st13; obtain ⟨ao13, cap13, rfl⟩ := hQ13.len (n := mq) HMQ.out; have s15 := True.intro)
            | (clear s15; go_at_call 51; refine (lx_out hL13 (by decide) hC13 hwf).mono ?_; rintro e w14 ⟨c14, v14, hL14, st14, hC14, hR14, rfl⟩; have hA14 := hA13.stp st14 (by decide) (by decide); clear hL13 hA13 hC13 hQ13 st14; obtain ⟨ao14, cap14, rfl⟩ := hR14.len (n := t) HML.out; have s16 := True.intro))
          have H14 := Lib.hid (⟨hL14, hA14, hC14, hR14⟩ : LS W w14 c14 ∧ EndV c14 1 w14 pa (outM (wK win key q K2)) ∧ EndV c14 2 w14 p2 (outM (wM win key q)) ∧ ListC c14 w14 (.slice ao14 t cap14) (outP (wM win key q)))
          clear hL14 hA14 hC14 hR14
          go_wp2_with fail
          go_loopw [24] (fun i wx => ∃ j : Nat, j ≤ t ∧ i = .int .i64 j ∧ Below w14.heap.size w14 wx) (fun i _ => t - (intOf i).toNat)
          case atStart => exact ⟨0, by omega, rfl, Below.refl _ _⟩
          case round =>
            obtain ⟨j, hj, rfl, hbx⟩ := hrel
            by_cases hjt : j < t
            · obtain ⟨hL14, _, _, hR14⟩ := H14.out
              have hlt := wM_outAt (win := win) (key := key) (q := q) (i := j) (by have := HMIN.out; omega)
              obtain ⟨a14, rfl⟩ := hR14.some (by rw [HML.out]; omega)
              obtain ⟨bj, cj, zj, slj, _⟩ := hR14.get hlt
              have hlen := wP_len key j
              obtain ⟨X, hX⟩ : ∃ X, wP key j = X := ⟨_, rfl⟩
              rw [hX] at zj slj hlen
              have hcell := cell_later hbx zj
              have hsl := slj.below hbx (Nat.le_refl _)
              have hLr := hL14.step hbx
              have hwt : IntKind.u8.wrap (j : Int) = ((UInt8.ofNat j).toNat : Int) := by
                rw [IntKind.wrap_u8, UInt8.toNat_ofNat', Nat.mod_eq_of_lt (by omega)]
                omega
              have hwt1 : IntKind.i64.wrap ((j : Int) + 1) = (j : Int) + 1 := IntWalk.i64_in _ (by omega)
              have k0 : Below wr.heap.size wr wr.drew := (Below.refl _ _).drew
              have k1 := k0.alloc (Nat.le_refl _) (.cells #[.int .u8 ((UInt8.ofNat j).toNat : Int)] 5)
              have hSS : ∀ w' : World, Below wr.heap.size wr w' → w'.cell? (a14.add j) = some (.slice bj X.length cj) := fun w' h => cell_later h hcell
              have HX := Lib.hid hX
              have hpk := pkt_len ((j : Int) + 1) 0 [UInt8.ofNat j]
              have hpk2 : (pktB ((j : Int) + 1) 0 [UInt8.ofNat j]).length ≤ 100 := by simp at hpk; omega
              clear hX hpk hR14 zj slj hL14
              go_wp2_with fail
              go_region_held (fun w' => w'.cell? (a14.add j) = some (.slice bj X.length cj)) (first | exact hSS _ k4 | exact hSS _ k3 | exact hSS _ k2 | exact hSS _ k1 | exact hSS _ k0) (first
                | (go_at_call 49; refine (rpkt_any ((j : Int) + 1) 0 (by unfold InR; omega) (by unfold InR; omega) _ 1 1 [UInt8.ofNat j] _ (sl_newf wr.drew (bv (UInt8.ofNat j)) 5 (0, 0)) (by decide)).mono ?_; rintro e z1 ⟨g1, f1, rfl, p1, q1⟩; have k2 := k1.trans (q1.mono k1.size))
                | (go_at_call 48; refine (rseal_any key hk _ _ _ _ _ p1.sl (by omega)).mono ?_; rintro e z2 ⟨g2, f2, rfl, p2', q2⟩; have k3 := k2.trans (q2.mono k2.size))
                | (go_at_call 19; refine (ux_same (hLr.step k3).below (hsl.below k3 (Nat.le_refl _)) p2'.sl HX.out.symm).mono ?_; rintro e z3 ⟨rfl, r3, q3⟩; have k4 := k3.trans (q3.mono k3.size)))
              go_wp2
              go_roundw
              case rel => exact ⟨j + 1, by omega, by go_num, hbx.trans (k4.mono hbx.size)⟩
              case measure => simp [intOf]; omega
            · obtain rfl : j = t := by omega
              obtain ⟨hL14, hA14, hC14, hR14⟩ := H14.out
              have hL15 := hL14.step hbx
              have hA15 := hA14.below hL14.fr hbx
              have hC15 := hC14.below hL14.fr hbx
              have hR15 := hR14.step hL14.fr hbx
              have hx0 : 1 < j → (outP (wM win key q))[0]? = some (wP key 0) := fun h => wM_outAt (by have := HMIN.out; omega)
              have hx1 : 1 < j → (outP (wM win key q))[1]? = some (wP key 1) := fun h => wM_outAt (by have := HMIN.out; omega)
              have hR0 : 1 < j → 0 < (outP (wM win key q)).length := fun h => by rw [HML.out]; omega
              clear hL14 hA14 hC14 hR14 H14
              go_upto_if 171 with fail
              go_cut [25] (fun _ wx => ∃ c', Hid (LS W wx c' ∧ EndV c' 1 wx pa (outM (wK win key q K2)) ∧ EndV c' 2 wx p2 (outM (wM win key q))))
              case first =>
                by_cases h1j : 1 < j
                · obtain ⟨a14, rfl⟩ := hR15.some (hR0 h1j)
                  have hx0' := hx0 h1j
                  have hx1' := hx1 h1j
                  have hl0 := wP_len key 0
                  have hl1 := wP_len key 1
                  obtain ⟨D4, hD4⟩ := w_in4 key
                  have hD3 := w_in3 key
                  obtain ⟨X0, hX0⟩ : ∃ X, wP key 0 = X := ⟨_, rfl⟩
                  obtain ⟨X1, hX1⟩ : ∃ X, wP key 1 = X := ⟨_, rfl⟩
                  rw [hX0] at hx0' hl0 hD4
                  rw [hX1] at hx1' hl1 hD3
                  have HX0' := Lib.hid hx0'
                  have HX1' := Lib.hid hx1'
                  have HD4 := Lib.hid hD4
                  have HD3 := Lib.hid hD3
                  clear hX0 hX1 hx0' hx1' hx0 hx1 hR0 hD4 hD3
                  have s20 := True.intro
                  go_wp2_with (first
                    | (clear s20; go_at_call 47; refine (lx_new hL15 3 1 key (by decide) (by decide) (by decide)).mono ?_; rintro e w20 ⟨c20, pd, rfl, hL20, st20, hD20⟩; have hA20 := hA15.stp st20 (by decide) (by decide); have hC20 := hC15.stp st20 (by decide) (by decide); have hR20 := hR15.stp st20 (by decide); clear hL15 hA15 hC15 hR15 st20; obtain ⟨b1, k1, z1, sl1, _⟩ := hR20.get HX1'.out; have z1' : w20.cell? ⟨a14.block, a14.off + 1, none⟩ = some (.slice b1 X1.length k1) := z1; clear z1; have s21 := True.intro)
                    | (clear s21; go_at_call 50; refine (lx_in hL20 (by decide) hD20 (newM_wf (by decide) (by decide) hk) ⟨Nat.zero_le _, Nat.zero_le _⟩ sl1 (by omega) HD3.out).mono ?_; rintro e w21 ⟨c21, v21, hL21, st21, hD21, hX21, rfl⟩; have hA21 := hA20.stp st21 (by decide) (by decide); have hC21 := hC20.stp st21 (by decide) (by decide); have hR21 := hR20.stp st21 (by decide); clear hL20 hA20 hC20 hR20 hD20 st21 z1' sl1; obtain ⟨ao21, cap21, rfl⟩ := hX21.len (n := 0) rfl; clear hX21; have s22 := True.intro)
                    | (clear s22; go_at_call 55; refine (copy_any _ 3 4 pd (wD key) _ hL21.fr (by decide) (wD_wf hk) hD21).mono ?_; rintro e w22 ⟨c22, po, st22, hO22, _, rfl⟩; have hL22 := hL21.stp st22 (by decide); have hD22 := hD21.stp st22 (by decide) (by decide); have hA22 := hA21.stp st22 (by decide) (by decide); have hC22 := hC21.stp st22 (by decide) (by decide); have hR22 := hR21.stp st22 (by decide); clear hL21 hA21 hC21 hR21 hD21 st22; obtain ⟨b0, k0', z0, sl0, _⟩ := hR22.get HX0'.out; have z0' : w22.cell? a14 = some (.slice b0 X0.length k0') := z0; clear z0; have s23 := True.intro)
                    | (clear s23; go_at_call 50; refine (lx_in hL22 (by decide) hD22 (wD_wf hk) ⟨Nat.zero_le _, Nat.zero_le _⟩ sl0 (by omega) HD4.out).mono ?_; rintro e w23 ⟨c23, v23, hL23, st23, hD23, hX23, rfl⟩; have hO23 := hO22.stp st23 (by decide) (by decide); have hA23 := hA22.stp st23 (by decide) (by decide); have hC23 := hC22.stp st23 (by decide) (by decide); have hR23 := hR22.stp st23 (by decide); clear hL22 hA22 hC22 hR22 hD22 hO22 st23 z0' sl0; obtain ⟨ao23, cap23, rfl⟩ := hX23.len (n := 2) rfl; clear hX23; obtain ⟨b0, k0', z0, sl0, _⟩ := hR23.get HX0'.out; have z0' : w23.cell? a14 = some (.slice b0 X0.length k0') := z0; clear z0; have s24 := True.intro)
                    | (clear s24; go_at_call 50; refine (lx_in hL23 (by decide) hO23 (wD_wf hk) ⟨Nat.zero_le _, Nat.zero_le _⟩ sl0 (by omega) HD4.out).mono ?_; rintro e w24 ⟨c24, v24, hL24, st24, hO24, hX24, rfl⟩; have hA24 := hA23.stp st24 (by decide) (by decide); have hC24 := hC23.stp st24 (by decide) (by decide); clear hL23 hA23 hC23 hR23 hD23 hO23 st24 z0' sl0; obtain ⟨ao24, cap24, rfl⟩ := hX24.len (n := 2) rfl; clear hX24; have s25 := True.intro))
                  go_meet
                  exact ⟨c24, Lib.hid ⟨hL24, hA24, hC24⟩⟩
                · go_wp2_with fail
                  go_meet
                  exact ⟨c14, Lib.hid ⟨hL15, hA15, hC15⟩⟩
              case rest =>
                obtain ⟨c30, hH30⟩ := hcut
                obtain ⟨hL30, hA30, hC30⟩ := hH30.out
                clear hH30 hL15 hA15 hC15 hR15 hx0 hx1 hR0
                obtain ⟨D, hD⟩ : ∃ D, q - K2 = D := ⟨_, rfl⟩
                have hw47 : IntKind.i64.wrap ((q : Int) - (K2 : Int)) = (D : Int) := by rw [← hD]; rw [IntWalk.i64_in _ (by omega)]; omega
                have hmqD : mq = min win D := by rw [← HMQ.out, wK_outlen hKq, hD]
                have hif2 : (if win < D then (win : Int) else (D : Int)) = (mq : Int) := by split <;> omega
                have hlA : (outM (wK win key q K2)).waiting.length = D := by show (wK win key q K2).waiting.length = D; rw [wK_len hKq, hD]
                have hlC : (outM (wM win key q)).waiting.length = q := wM_len win key q
                have HlA := Lib.hid hlA
                have HlC := Lib.hid hlC
                have w00 : IntKind.i64.wrap 0 = 0 := IntWalk.i64_in _ (by omega)
                obtain ⟨n7, hn7⟩ : ∃ n7 : Nat, n7 = 65537 := ⟨_, rfl⟩
                have hmk0 := fun w => run_make_row' (P := Try.prog) 28 5 (.int .u8 0) 1 Try.underlying28 Try.info5 rfl .i64 .i64 n7 (by omega) (by omega) w
                have hsl0 := fun w => made_sl w n7 (by unfold maxLen; omega)
                obtain ⟨bb, hbb⟩ : ∃ bb, List.replicate n7 (0 : UInt8) = bb := ⟨_, rfl⟩
                have hbl : bb.length = n7 := by rw [← hbb, List.length_replicate]
                obtain ⟨MC, hMC⟩ : ∃ MC, madeCells #[Value.int .u8 0] n7 = MC := ⟨_, rfl⟩
                have e7 : ((n7 : Nat) : Int) = 65537 := by omega
                rw [hMC, e7] at hmk0
                rw [hMC, hbb] at hsl0
                have hsend : sendM (outM (wK win key q K2)) bb = (outM (wK win key q K2), 4) := by unfold sendM; rw [if_pos (.inl (by rw [hbl]; omega))]
                have HSL := Lib.hid hsl0
                have HSE := Lib.hid hsend
                have hn7b : n7 ≤ 100000000000 := by omega
                clear hmqD hlA hlC hD hbb hMC e7 hsl0 hsend hbl hn7
                have s30 := True.intro
                go_wp2_with (first
                  | (clear s30; go_at_call 56; refine (waiting_any _ 1 pa _ _ hA30).mono ?_; rw [HlA.out]; rintro e z1 ⟨rfl, rfl⟩; have s31 := True.intro)
                  | (clear s31; go_at_call 56; refine (waiting_any _ 2 p2 _ _ hC30).mono ?_; rw [HlC.out]; rintro e z2 ⟨rfl, rfl⟩; have s32 := True.intro)
                  | (clear s32; go_at_call 54; refine (lx_send (hL30.alloc _) (by decide) (hA30.below hL30.fr ((Below.refl _ _).alloc (Nat.le_refl _) _)) (HSL.out _) hn7b).mono ?_; rw [HSE.out]; rintro e z3 ⟨c31, hL31, st31, hA31, rfl⟩; have s33 := True.intro)
                  | (clear s33; go_at_call 53; refine (lives_any _).mono ?_; rintro e z4 ⟨rfl, hb4⟩; have hL32 := hL31.step hb4; have s34 := True.intro))
                go_ret
                exact ⟨rfl, hL32.below⟩

theorem law7 (W : World) (win : Int) (_hw : InR win) (key : Nat) (hk : key < 18446744073709551616) (many : Int) (hm : InR many) (ack : Int) (ha : InR ack) :
    Calls Try.prog 7 #[.int .i64 win, .int .u64 (key : Int), .int .i64 many, .int .i64 ack] W (fun e w' => e = .returned (.bool true) ∧ Below W.heap.size W w' ∧ True) := by
  by_cases hb : win < 1 ∨ 16 < win
  · exact (l7_bad W win hb key many ack).mono fun _ _ h => ⟨h.1, h.2, trivial⟩
  · obtain ⟨n, rfl⟩ : ∃ n : Nat, win = n := ⟨win.toNat, by omega⟩
    exact (l7_good W n (by omega) (by omega) key hk many ack hm ha).mono fun _ _ h => ⟨h.1, h.2, trivial⟩

end Go.Proofs.Ytcpemgfpiapaaaa
