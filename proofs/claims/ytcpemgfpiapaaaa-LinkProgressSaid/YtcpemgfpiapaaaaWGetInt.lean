/- wire.GetInt decodes as the plain decoder does. -/
import Derived.Test.YtcpemgfpiapaaaaWInt
import Derived.Test.YtcpemgfpiapaaaaDec
namespace Go.Proofs.Ytcpemgfpiapaaaa
open Go.RowKit

/-- What a decoder gives. -/
def Got3 (W : World) (v : Value) (k : Nat) (x : Int) (e : Ending) (w' : World) : Prop := e = .returned (.tuple #[v, .int .i64 (k : Int), .int .i64 x]) ∧ Below W.heap.size W w'

theorem head_xor (h : UInt8) : bits BinOp.xor IntKind.u8 (h.toNat : Int) (hF h : Int) = 128 + (hK h : Int) := by
  have hl := h.toNat_lt
  have := xor_byte (hF h) (hF_or h) h.toNat
  rw [Nat.mod_eq_of_lt hl] at this
  rw [this, fx_toNat _ (hF_or h)]
  have e : (UInt8.ofNat h.toNat).toNat = h.toNat := by simp
  rw [e]
  unfold hF hK
  by_cases c : h.toNat < 128
  · simp only [if_pos c, if_true]; omega
  · simp only [if_neg c, show ¬ ((0 : Nat) = 255) from by decide, if_false]; omega

theorem getint_nil (ao : Option Addr) (c : Nat) (w : World) : Calls Try.prog 30 #[.slice ao 0 c] w (Got3 w (.int .i64 0) 0 3) := by
  go_enter Try.func30, Try.ntmps30
  go_wp2
  go_ret3
  exact ⟨rfl, Below.refl _ _⟩

theorem dec_k8 {h : UInt8} {t : List UInt8} {x : Int} {k : Nat} {e : Int} {K : Nat} (hd : Hid (decInt (h :: t) = (x, k, e))) (hK : Hid (hK h = K)) (h8 : 8 < K) : x = 0 ∧ k = 0 ∧ e = 2 := by
  have := hd.out
  unfold decInt at this
  simp only [hK.out, if_pos h8, Prod.mk.injEq] at this
  exact ⟨this.1.symm, this.2.1.symm, this.2.2.symm⟩

theorem dec_more {h : UInt8} {t : List UInt8} {x : Int} {k : Nat} {e : Int} {K n : Nat} (hd : Hid (decInt (h :: t) = (x, k, e))) (hK : Hid (hK h = K)) (hn : Hid (t.length + 1 = n)) (h8 : ¬ 8 < K) (hk : n ≤ K) : x = 0 ∧ k = 0 ∧ e = 3 := by
  have := hd.out
  unfold decInt at this
  have hn := hn.out
  simp only [hK.out, if_neg h8, if_pos (show t.length < K by omega), Prod.mk.injEq] at this
  exact ⟨this.1.symm, this.2.1.symm, this.2.2.symm⟩

/-- The other cases. -/
theorem dec_rest {h : UInt8} {t : List UInt8} {x : Int} {k : Nat} {e : Int} {K n F : Nat} (hd : Hid (decInt (h :: t) = (x, k, e))) (hK : Hid (hK h = K)) (hF : Hid (hF h = F)) (hn : Hid (t.length + 1 = n)) (h8 : K ≤ 8) (hk : K < n) :
    Hid (((if nd (val ((t.take K).map (fx F))) = K ∧ val ((t.take K).map (fx F)) < 9223372036854775808 then ((if F = 255 then -1 - (val ((t.take K).map (fx F)) : Int) else (val ((t.take K).map (fx F)) : Int)), K + 1, 0) else (0, 0, 2)) : Int × Nat × Int) = (x, k, e)) := by
  have := hd.out
  unfold decInt at this
  have hn := hn.out
  simp only [hK.out, hF.out, if_neg (show ¬ 8 < K by omega), if_neg (show ¬ t.length < K by omega)] at this
  exact this

theorem xor_byte' (F : Nat) (hf : F = 0 ∨ F = 255) (c : UInt8) : bits BinOp.xor IntKind.u8 (c.toNat : Int) (F : Int) = ((fx F c).toNat : Int) := by
  have := xor_byte F hf c.toNat
  rw [Nat.mod_eq_of_lt c.toNat_lt] at this
  rw [this]; simp

theorem first_digit {t : List UInt8} {K F : Nat} (hds : Hid (((t.take K).map (fx F)).length = K)) (hk : ¬ K = 0) : ∃ d r t0 tr, Hid ((t.take K).map (fx F) = d :: r) ∧ Hid (t = t0 :: tr) ∧ Hid (fx F t0 = d) := by
  obtain ⟨j, rfl⟩ : ∃ j, K = j + 1 := ⟨K - 1, by omega⟩
  cases t with
  | nil => have := hds.out; simp at this
  | cons t0 tr => exact ⟨_, _, t0, tr, rfl, rfl, rfl⟩

theorem nd_le_of {m j : Nat} (h8 : j ≤ 8) (h : m < 256 ^ j) : nd m ≤ j := by
  have hj : j = 0 ∨ j = 1 ∨ j = 2 ∨ j = 3 ∨ j = 4 ∨ j = 5 ∨ j = 6 ∨ j = 7 ∨ j = 8 := by omega
  rcases hj with rfl | rfl | rfl | rfl | rfl | rfl | rfl | rfl | rfl <;> simp at h <;> unfold nd <;> (repeat' split) <;> omega

theorem dec_zero {t : List UInt8} {F K : Nat} {x : Int} {k : Nat} {e : Int} {d : UInt8} {r : List UInt8} (hR : Hid (((if nd (val ((t.take K).map (fx F))) = K ∧ val ((t.take K).map (fx F)) < 9223372036854775808 then ((if F = 255 then -1 - (val ((t.take K).map (fx F)) : Int) else (val ((t.take K).map (fx F)) : Int)), K + 1, 0) else (0, 0, 2)) : Int × Nat × Int) = (x, k, e)))
    (hdr : Hid ((t.take K).map (fx F) = d :: r)) (hd0 : d = 0) (hds : Hid (((t.take K).map (fx F)).length = K)) (h8 : K ≤ 8) : x = 0 ∧ k = 0 ∧ e = 2 := by
  have h1 := hR.out
  have hl := hds.out
  rw [hdr.out] at h1 hl
  have hv : nd (val (d :: r)) ≠ K := by
    rw [val_cons, hd0]
    have hr := val_lt r
    simp only [List.length_cons] at hl
    have := nd_le_of (j := r.length) (by omega) hr
    simp
    omega
  rw [if_neg (fun c => hv c.1)] at h1
  simp only [Prod.mk.injEq] at h1
  exact ⟨h1.1.symm, h1.2.1.symm, h1.2.2.symm⟩

theorem map_at1 {α : Type} {f : α → Value} {l : List α} {k : Nat} (h : k < l.length) : (l.map f)[k]? = some (f l[k]) := by
  simp [h]

theorem next_digit {w : World} {b : Addr} {K c i M F : Nat} {t : List UInt8} (hsl : SlV w (some b) K c 1 (bvs (t.take K))) (hT : Hid ((t.take K).length = K)) (hds : Hid (((t.take K).map (fx F)).length = K)) (hfo : F = 0 ∨ F = 255) (hlt : i < K) (hM : Hid (M = val (((t.take K).map (fx F)).take i))) :
    ∃ ch d : UInt8, w.cell? (b.add i) = some (.int .u8 (ch.toNat : Int)) ∧ bits BinOp.xor IntKind.u8 (ch.toNat : Int) (F : Int) = (d.toNat : Int) ∧ Hid (256 * M + d.toNat = val (((t.take K).map (fx F)).take (i + 1))) ∧ Hid (M < 256 ^ i) := by
  have q1 : i < (t.take K).length := by rw [hT.out]; exact hlt
  have q2 : i < ((t.take K).map (fx F)).length := by rw [hds.out]; exact hlt
  refine ⟨(t.take K)[i], fx F (t.take K)[i], hsl.cell b rfl i _ (map_at1 q1), xor_byte' F hfo _, ?_, ?_⟩
  · show _ = _
    rw [List.take_succ_eq_append_getElem q2, val_snoc, hM.out, List.getElem_map]
  · show _ < _
    rw [hM.out]
    have := val_lt (((t.take K).map (fx F)).take i)
    rw [List.length_take_of_le (by omega)] at this
    exact this

theorem or_u64 (a d : Nat) (hd : d < 256) (ha : a < 72057594037927936) : bits BinOp.or IntKind.u64 ((256 * a : Nat) : Int) (d : Int) = ((256 * a + d : Nat) : Int) := by
  have h := bits_join .u64 64 (by decide) (fun n h0 h1 => IntWalk.u64_in n ⟨h0, by simp at h1; omega⟩) 8 ((256 * a : Nat) : Int) (d : Int) (by omega) (by omega) (by simp; omega) (by omega) (by simp; omega) (by simp; omega)
  rw [h]; omega

theorem or_digit {M i : Nat} (hM : Hid (M < 256 ^ i)) (hi : i ≤ 7) (d : UInt8) : Hid (bits BinOp.or IntKind.u64 (IntKind.u64.wrap ((M : Int) * 256)) (IntKind.u64.wrap (d.toNat : Int)) = ((256 * M + d.toNat : Nat) : Int)) := by
  have hp : 256 ^ i ≤ 256 ^ 7 := Nat.pow_le_pow_right (by decide) hi
  have h1 : M < 72057594037927936 := by have := hM.out; simp at hp; omega
  have hd := d.toNat_lt
  show _ = _
  rw [IntWalk.u64_in _ ⟨by omega, by omega⟩, IntWalk.u64_in _ ⟨by omega, by omega⟩, ← or_u64 M d.toNat (by simpa using hd) h1]
  congr 1
  omega

theorem shr63 {M : Nat} (h : Hid (M < 9223372036854775808)) : (M : Int) / 9223372036854775808 ≤ 0 := by have := h.out; omega
theorem shr63' {M : Nat} (h : ¬ Hid (M < 9223372036854775808)) : 0 < (M : Int) / 9223372036854775808 := by
  have : ¬ M < 9223372036854775808 := h
  omega

theorem wrap_neg {M : Nat} (h : Hid (M < 9223372036854775808)) : wrap64 (bits BinOp.xor IntKind.u64 IntKind.u64.max (M : Int)) = -1 - (M : Int) := by
  have h := h.out
  have em : IntKind.u64.max = ((18446744073709551615 : Nat) : Int) := rfl
  have hx := not_xor 64 M (by omega)
  rw [em, bits_xor_u64_nat _ _ (by omega) (by omega), show (18446744073709551615 : Nat) = 2 ^ 64 - 1 from rfl, hx]
  unfold wrap64; omega

theorem dec_good {t : List UInt8} {F K M : Nat} {x : Int} {k : Nat} {e : Int} (hR : Hid (((if nd (val ((t.take K).map (fx F))) = K ∧ val ((t.take K).map (fx F)) < 9223372036854775808 then ((if F = 255 then -1 - (val ((t.take K).map (fx F)) : Int) else (val ((t.take K).map (fx F)) : Int)), K + 1, 0) else (0, 0, 2)) : Int × Nat × Int) = (x, k, e)))
    (hM : Hid (M = val (((t.take K).map (fx F)).take K))) (hnz : Hid (K = 0 ∨ ∃ d r, (t.take K).map (fx F) = d :: r ∧ d ≠ 0)) (hds : Hid (((t.take K).map (fx F)).length = K)) (h8 : K ≤ 8) (hb : Hid (M < 9223372036854775808)) :
    Hid (x = if F = 255 then -1 - (M : Int) else (M : Int)) ∧ Hid (k = K + 1) ∧ e = 0 := by
  have h1 := hR.out
  have h2 := hM.out
  have hl := hds.out
  rw [List.take_of_length_le (by omega)] at h2
  rw [← h2] at h1
  have hnd : nd M = K := by
    refine nd_eq h8 ?_ ?_
    · rw [h2]; have := val_lt ((t.take K).map (fx F)); rw [hl] at this; exact this
    · rcases hnz.out with h | ⟨d, r, hdr, hd0⟩
      · exact .inl h
      · right
        rw [h2, hdr, val_cons]
        rw [hdr] at hl
        simp only [List.length_cons] at hl
        have hrl : r.length = K - 1 := by omega
        have hd1 : 1 ≤ d.toNat := by
          apply Nat.pos_of_ne_zero
          intro e0
          exact hd0 (UInt8.toNat_inj.1 (by simpa using e0))
        rw [hrl]
        have : 1 * 256 ^ (K - 1) ≤ d.toNat * 256 ^ (K - 1) := Nat.mul_le_mul_right _ hd1
        omega
  rw [if_pos ⟨hnd, hb.out⟩] at h1
  simp only [Prod.mk.injEq] at h1
  exact ⟨h1.1.symm, h1.2.1.symm, h1.2.2.symm⟩

theorem dec_big {t : List UInt8} {F K M : Nat} {x : Int} {k : Nat} {e : Int} (hR : Hid (((if nd (val ((t.take K).map (fx F))) = K ∧ val ((t.take K).map (fx F)) < 9223372036854775808 then ((if F = 255 then -1 - (val ((t.take K).map (fx F)) : Int) else (val ((t.take K).map (fx F)) : Int)), K + 1, 0) else (0, 0, 2)) : Int × Nat × Int) = (x, k, e)))
    (hM : Hid (M = val (((t.take K).map (fx F)).take K))) (hds : Hid (((t.take K).map (fx F)).length = K)) (hb : ¬ Hid (M < 9223372036854775808)) : x = 0 ∧ k = 0 ∧ e = 2 := by
  have h1 := hR.out
  have h2 := hM.out
  have hl := hds.out
  rw [List.take_of_length_le (by omega)] at h2
  rw [← h2, if_neg (fun c => hb c.2)] at h1
  simp only [Prod.mk.injEq] at h1
  exact ⟨h1.1.symm, h1.2.1.symm, h1.2.2.symm⟩

set_option maxRecDepth 100000 in
set_option maxHeartbeats 400000 in
theorem getint_cons (a : Addr) (n c : Nat) (h : UInt8) (t : List UInt8) (w : World) (hr : SlV w (some a) n c 1 (bvs (h :: t))) (x : Int) (k : Nat) (e : Int) (hd : Hid (decInt (h :: t) = (x, k, e))) : Calls Try.prog 30 #[.slice (some a) n c] w (Got3 w (.int .i64 x) k e) := by
  have hn : Hid (t.length + 1 = n) := Lib.hid (by have := hr.len; simpa using this)
  have hn0 : 1 ≤ n := by rw [← hn.out]; omega
  have t1 : n ≤ maxLen := Nat.le_trans hr.le hr.top
  unfold maxLen at t1
  have e0 : w.cell? a = some (.int .u8 (h.toNat : Int)) := hr.cell a rfl 0 (bv h) rfl
  have hne : ((n : Int) == 0) = false := by simp; omega
  obtain ⟨F, hFF⟩ : ∃ F, Hid (hF h = F) := ⟨_, Lib.hid rfl⟩
  obtain ⟨K, hKK⟩ : ∃ K, Hid (hK h = K) := ⟨_, Lib.hid rfl⟩
  have hx : bits BinOp.xor IntKind.u8 (h.toNat : Int) (F : Int) = 128 + (K : Int) := by rw [← hFF.out, ← hKK.out]; exact head_xor h
  have hK1 : K ≤ 127 := by rw [← hKK.out]; have := h.toNat_lt; unfold hK; split <;> omega
  go_enter Try.func30, Try.ntmps30
  go_upto_if 16 with fail
  go_cut [5] (fun v wx => v = .int .u8 F ∧ wx = w)
  case first =>
    by_cases h8 : (h.toNat : Int) < 128
    · have hf : Hid (F = 255) := Lib.hid (by rw [← hFF.out]; unfold hF; rw [if_pos (by omega)])
      go_wp2
      go_meet
      exact ⟨by rw [hf.out]; rfl, rfl⟩
    · have hf : Hid (F = 0) := Lib.hid (by rw [← hFF.out]; unfold hF; rw [if_neg (by omega)])
      go_wp2
      go_meet
      exact ⟨by rw [hf.out]; rfl, rfl⟩
  case rest =>
    obtain ⟨rfl, rfl⟩ := hcut
    go_upto_region 6 with fail
    go_cut [6] (fun v wx => v = .int .i64 K ∧ wx = wc)
    case first =>
      go_wp2
      go_meet
      exact ⟨by go_num, rfl⟩
    obtain ⟨rfl, rfl⟩ := hcut
    clear hx
    by_cases hk8 : 8 < K
    · have hq := dec_k8 hd hKK hk8
      obtain ⟨rfl, rfl, rfl⟩ := hq
      clear hd
      go_wp2
      go_ret3
      exact ⟨rfl, Below.refl _ _⟩
    · by_cases hkn : n ≤ K
      · obtain ⟨rfl, rfl, rfl⟩ := dec_more hd hKK hn hk8 hkn
        clear hd
        go_wp2
        go_ret3
        exact ⟨rfl, Below.refl _ _⟩
      · have t8 : K ≤ 8 := by omega
        have hR := dec_rest hd hKK hFF hn t8 (by omega)
        have hfo : F = 0 ∨ F = 255 := by rw [← hFF.out]; exact hF_or h
        have hds : Hid (((t.take K).map (fx F)).length = K) := Lib.hid (by have := hn.out; simp; omega)
        have hT : Hid ((t.take K).length = K) := Lib.hid (by have := hn.out; simp; omega)
        clear hd hKK hFF
        go_upto_block 0 with fail
        go_cut [] (fun wx => wx = wc ∧ Hid (K = 0 ∨ ∃ d r, (t.take K).map (fx F) = d :: r ∧ d ≠ 0))
        case first =>
          by_cases hk0 : K = 0
          · subst hk0
            go_wp2
            go_meet
            exact ⟨rfl, Or.inl trivial⟩
          · obtain ⟨d, r, t0, tr, hdr, htr, hfx⟩ := first_digit hds hk0
            have e1 : wc.cell? (a.add 1) = some (.int .u8 (t0.toNat : Int)) := hr.cell a rfl 1 (bv t0) (by rw [htr.out]; rfl)
            rw [show a.add 1 = ⟨a.block, a.off + 1, none⟩ from rfl] at e1
            have hx1 := xor_byte' F hfo t0
            rw [hfx.out] at hx1
            by_cases hd0 : d = 0
            · obtain ⟨rfl, rfl, rfl⟩ := dec_zero hR hdr hd0 hds t8
              have hb0 : ((d.toNat : Int) == 0) = true := by simp [hd0]
              clear hd0
              go_wp2
              go_ret3
              exact ⟨rfl, Below.refl _ _⟩
            · have hb0 : ((d.toNat : Int) == 0) = false := by simp; intro e; exact hd0 (UInt8.toNat_inj.1 (by simpa using e))
              have hnz : Hid (K = 0 ∨ ∃ d r, (t.take K).map (fx F) = d :: r ∧ d ≠ 0) := .inr ⟨d, r, hdr.out, hd0⟩
              clear hd0
              go_wp2
              go_meet
              exact ⟨rfl, hnz⟩
        case rest =>
          obtain ⟨rfl, hnz⟩ := hcut
          go_wp2_with (refine cut_mid rfl 28 (.tmp 43) (.const (.int .i64 1)) (.tmp 45) rfl 5 1 Try.underlying28 Try.size5 _ _ _ _ rfl hr 1 (K + 1) _ _ rfl rfl rfl (by omega) (by omega) (by omega) K (by omega) ?_; intro ao' hsl)
          have hsl' : SlV wc ao' K (c - 1) 1 (bvs (t.take K)) := by simpa [bvs] using hsl
          clear hsl hr e0
          go_loop [7, 9, 48] (fun m _ i => ∃ (k M : Nat), k ≤ K ∧ i = .int .i64 k ∧ m = .int .u64 M ∧ Hid (M = val (((t.take K).map (fx F)).take k))) (fun _ _ i => K - (intOf i).toNat)
          case atStart => exact ⟨0, 0, by omega, rfl, rfl, by simp [Hid, val_nil]⟩
          case round =>
            obtain ⟨i, M, hi, rfl, rfl, hM⟩ := hrel
            by_cases hlt : i < K
            · obtain ⟨b, rfl⟩ := hsl'.has (by omega)
              obtain ⟨ch, d, e2, hx2, hMn, hMl⟩ := next_digit hsl' hT hds hfo hlt hM
              have HOR := or_digit hMl (by omega) d
              go_wp2
              go_round
              case rel => exact ⟨i + 1, 256 * M + d.toNat, by omega, by go_num, by rw [HOR.out], hMn⟩
              case measure => simp [intOf]; omega
            · obtain rfl : i = K := by omega
              by_cases hbig : Hid (M < 9223372036854775808)
              · obtain ⟨hx1, hk1, rfl⟩ := dec_good hR hM hnz hds t8 hbig
                have hs : (M : Int) / 9223372036854775808 ≤ 0 := shr63 hbig
                clear hR hM hnz hds hT hsl'
                rcases hfo with rfl | rfl
                · go_wp2
                  go_ret3
                  rw [hx1.out, hk1.out, if_neg (by decide)]
                  exact ⟨rfl, Below.refl _ _⟩
                · go_wp2
                  go_ret3
                  rw [wrap_neg hbig, hx1.out, hk1.out, if_pos trivial]
                  exact ⟨rfl, Below.refl _ _⟩
              · obtain ⟨rfl, rfl, rfl⟩ := dec_big hR hM hds hbig
                have hs : 0 < (M : Int) / 9223372036854775808 := shr63' hbig
                clear hR hM hnz hds hT hsl' hbig
                go_wp2
                go_ret3
                exact ⟨rfl, Below.refl _ _⟩

/-- wire.GetInt. -/
theorem getint_any (ao : Option Addr) (n c : Nat) (l : List UInt8) (w : World) (hr : SlV w ao n c 1 (bvs l)) (x : Int) (k : Nat) (e : Int) (hd : decInt l = (x, k, e)) : Calls Try.prog 30 #[.slice ao n c] w (Got3 w (.int .i64 x) k e) := by
  cases l with
  | nil =>
    have hn : n = 0 := by have := hr.len; simpa using this.symm
    subst hn
    unfold decInt at hd
    simp only [Prod.mk.injEq] at hd
    obtain ⟨rfl, rfl, rfl⟩ := hd
    exact getint_nil ao c w
  | cons h t =>
    obtain ⟨a, rfl⟩ := hr.has (by have := hr.len; simp at this; omega)
    exact getint_cons a n c h t w hr x k e hd

end Go.Proofs.Ytcpemgfpiapaaaa
