/- dioramaref01.Int returns the encoding of its argument, for every int. -/
import Derived.Test.YtcpemgfpiapaaaaWInt
namespace Go.Proofs.Ytcpemgfpiapaaaa
open Go.RowKit

theorem le_digit {X M j : Nat} (hX : Hid (X = M / 256 ^ j)) : (X : Int) % 256 = ((UInt8.ofNat (M / 256 ^ j % 256)).toNat : Int) := by
  rw [hX.out]; simp

theorem le_next {X M j : Nat} (hX : Hid (X = M / 256 ^ j)) : Hid (X / 256 = M / 256 ^ (j + 1)) := by
  show _ = _
  rw [hX.out, div_pow_succ]

theorem head_pos {F K : Nat} {c0 : UInt8} (hF : Hid (F = 0)) (hK : K ≤ 8) (HC : Hid (c0 = fx F (UInt8.ofNat (128 + K)))) : (128 + (K : Int)) = (c0.toNat : Int) := by
  rw [HC.out, fx_toNat F (.inl hF.out), if_neg (by rw [hF.out]; decide)]; simp; omega

theorem head_neg {F K : Nat} {c0 : UInt8} (hF : Hid (F = 255)) (hK : K ≤ 8) (HC : Hid (c0 = fx F (UInt8.ofNat (128 + K)))) : (127 - (K : Int)) = (c0.toNat : Int) := by
  rw [HC.out, fx_toNat F (.inr hF.out), if_pos hF.out]; simp; omega

theorem dig_neg {F x : Nat} {d : UInt8} (hF : Hid (F = 255)) (HD : Hid (UInt8.ofNat x = d)) : ∃ c, Hid (c = fx F (UInt8.ofNat x)) ∧ (255 - (d.toNat : Int)) = (c.toNat : Int) :=
  ⟨fx F (UInt8.ofNat x), rfl, by rw [HD.out, fx_toNat F (.inr hF.out), if_pos hF.out]; have := d.toNat_lt; omega⟩

theorem dig_pos {F x : Nat} {d : UInt8} (hF : Hid (F = 0)) (HD : Hid (UInt8.ofNat x = d)) : Hid (d = fx F (UInt8.ofNat x)) := by
  show _ = _
  rw [HD.out, hF.out]; simp [fx]

set_option maxHeartbeats 400000 in
theorem rint2 (n : Int) (w : World) (M F : Nat) (hml : M < 9223372036854775808) (hfo : F = 0 ∨ F = 255) (HN : Hid (n < 0 → n = -1 - (M : Int) ∧ F = 255)) (HP : Hid (0 ≤ n → n = (M : Int) ∧ F = 0)) :
    Calls Try.prog 21 #[.int .i64 n] w (GivesB w (enc2 M F)) := by
  go_enter Try.func21, Try.ntmps21
  go_upto_if 11 with fail
  go_cut [3] (fun m wx => m = .int .i64 M ∧ wx = w)
  case first =>
    by_cases hn : n < 0
    · obtain ⟨rfl, rfl⟩ := HN.out hn
      go_wp2
      go_meet
      exact ⟨by go_num, rfl⟩
    · have hn' : 0 ≤ n := by omega
      obtain ⟨rfl, rfl⟩ := HP.out hn'
      go_wp2
      go_meet
      exact ⟨rfl, rfl⟩
  case rest =>
    obtain ⟨rfl, rfl⟩ := hcut
    obtain ⟨w0, rfl⟩ : ∃ w0 : World, w0 = wc := ⟨_, rfl⟩
    go_upto_block 0 with fail
    go_cut [3, 4] (fun _ v wx => ∃ (K : Nat) (ao : Option Addr) (cap : Nat), Hid (nd M = K) ∧ v = .slice ao K cap ∧ OwnB wx w0.heap.size ao cap (le M K) ∧ Below w0.heap.size w0 wx)
    case first =>
      go_wp2
      go_loopw [3, 4] (fun x v wr => ∃ (j X : Nat) (ao : Option Addr) (cap : Nat), x = .int .i64 X ∧ v = .slice ao j cap ∧ Hid (X = M / 256 ^ j) ∧ X ≤ M ∧ j ≤ 8 ∧ Hid (j = 0 ∨ 256 ^ (j - 1) ≤ M) ∧ OwnB wr w0.heap.size ao cap (le M j) ∧ Below w0.heap.size w0 wr) (fun x _ _ => (intOf x).toNat)
      case atStart => exact ⟨0, M, none, 0, rfl, rfl, by simp [Hid], by omega, by omega, .inl rfl, World.ownsRow_nil _ _ _ _, Below.refl _ _⟩
      case round =>
        obtain ⟨j, X, ao, cap, rfl, rfl, hX, hXM, hj, hlo, hown, hb⟩ := hrel
        have hbs := hb.size
        by_cases hx0 : 0 < X
        · obtain ⟨d, HD, hd⟩ : ∃ d, Hid (d = UInt8.ofNat (M / 256 ^ j % 256)) ∧ (X : Int) % 256 = (d.toNat : Int) := ⟨_, rfl, le_digit hX⟩
          have HJ : Hid (256 ^ j ≤ M) := div_pow_pos (hX.out ▸ hx0)
          have hj8 := pow_small hml HJ.out
          go_wp2_with (at_builtin; refine ap_byte rfl (.tmp 16) (.tmp 20) rfl w0.heap.size ao cap (le M j) d _ (by simp) rfl hown rfl (by simp; omega) hbs ?_; intro ao' cap' w1 hown1 hb1)
          go_roundw
          case rel => exact ⟨j + 1, X / 256, ao', cap', by go_num, by simp, le_next hX, by omega, by omega, .inr HJ.out, by rw [le, ← HD.out]; exact hown1, hb.trans hb1⟩
          case measure => simp [intOf]; omega
        · obtain rfl : X = 0 := by omega
          have HE := Lib.hid (nd_eq hj (div_pow_zero hX.out.symm) hlo.out)
          go_wp2
          go_meet
          exact ⟨j, ao, cap, HE, rfl, hown, hb⟩
    case rest =>
      obtain ⟨K, ao, cap, HK, rfl, hown, hb⟩ := hcut
      have hK : K ≤ 8 := by rw [← HK.out]; exact nd_le M
      have hsl := hown.sl
      rw [le_length] at hsl
      clear hown
      obtain ⟨w1, rfl⟩ : ∃ w1 : World, w1 = wc := ⟨_, rfl⟩
      have HF : Hid (enc2 M F = fx F (UInt8.ofNat (128 + K)) :: (be M K).map (fx F)) := by rw [← HK.out]; exact rfl
      obtain ⟨c0, HC⟩ : ∃ c0, Hid (c0 = fx F (UInt8.ofNat (128 + K))) := ⟨_, rfl⟩
      go_upto_if 27 with fail
      go_cut [6] (fun v wx => ∃ (ao2 : Option Addr) (cap2 : Nat), v = .slice ao2 1 cap2 ∧ OwnB wx w1.heap.size ao2 cap2 [c0] ∧ Below w1.heap.size w1 wx)
      case first =>
        by_cases hn : 0 ≤ n
        · have hx0 : Hid (F = 0) := (HP.out hn).2
          have hx1 := head_pos hx0 hK HC
          clear HP HN
          go_wp2_with (at_builtin; refine ap_byte rfl (.tmp 28) (.tmp 32) rfl w1.heap.size none 0 [] c0 _ rfl rfl (OwnB.nil _ _) rfl (by simp) (Nat.le_refl _) ?_; intro ao' cap' w2 hown1 hb1)
          go_meet
          exact ⟨ao', cap', rfl, hown1, hb1⟩
        · have hx0 : Hid (F = 255) := (HN.out (by omega)).2
          have hx1 := head_neg hx0 hK HC
          clear HP HN
          go_wp2_with (at_builtin; refine ap_byte rfl (.tmp 34) (.tmp 38) rfl w1.heap.size none 0 [] c0 _ rfl rfl (OwnB.nil _ _) rfl (by simp) (Nat.le_refl _) ?_; intro ao' cap' w2 hown1 hb1)
          go_meet
          exact ⟨ao', cap', rfl, hown1, hb1⟩
      case rest =>
        obtain ⟨ao2, cap2, rfl, hown, hb2⟩ := hcut
        obtain ⟨w2, rfl⟩ : ∃ w2 : World, w2 = wc := ⟨_, rfl⟩
        go_wp2
        go_loopw [6, 7, 8] (fun v k _ wr => ∃ (r : Nat) (D : List UInt8) (ao3 : Option Addr) (cap3 : Nat), r ≤ K ∧ D.length ≤ 9 - r ∧ k = .int .i64 ((r : Int) - 1) ∧ v = .slice ao3 D.length cap3 ∧ OwnB wr w1.heap.size ao3 cap3 D ∧ Hid (D ++ (be M r).map (fx F) = enc2 M F) ∧ Below w1.heap.size w1 wr) (fun _ k _ _ => (intOf k + 1).toNat)
        case atStart =>
          exact ⟨K, [c0], _, _, Nat.le_refl _, by simp; omega, rfl, rfl, hown, by rw [HF.out, ← HC.out]; exact rfl, hb2⟩
        case round =>
          obtain ⟨r, D, ao3, cap3, hr, hDl, rfl, rfl, hown, hD, hb3⟩ := hrel
          have hbs := hb3.size
          by_cases hr0 : 0 < r
          · obtain ⟨q, rfl⟩ : ∃ q, r = q + 1 := ⟨r - 1, by omega⟩
            obtain ⟨a, rfl⟩ := hsl.has (by omega)
            have hcell := (hsl.below hb3 (Nat.le_refl _)).cell a rfl q (bv (UInt8.ofNat (M / 256 ^ q % 256))) (by simp [bvs, le_get M K q (by omega)])
            obtain ⟨d, HD⟩ : ∃ d, Hid (UInt8.ofNat (M / 256 ^ q % 256) = d) := ⟨_, rfl⟩
            rw [HD.out] at hcell
            have hcell' : wr.cell? (a.add q) = some (.int .u8 (d.toNat : Int)) := hcell
            clear hcell
            have hd := d.toNat_lt
            by_cases hn : n < 0
            · have hx0 : Hid (F = 255) := (HN.out hn).2
              clear HP HN
              obtain ⟨c, HQ, hx⟩ := dig_neg hx0 HD
              go_wp2_with (at_builtin; refine ap_byte rfl (.tmp 54) (.tmp 56) rfl w1.heap.size ao3 cap3 D c _ rfl rfl hown rfl (by omega) hbs ?_; intro ao' cap' w3 hown1 hb1)
              go_roundw
              case rel => exact ⟨q, D ++ [c], ao', cap', by omega, by simp; omega, by go_num, by simp, hown1, int_round HQ hD, hb3.trans hb1⟩
              case measure => simp [intOf]
            · have hx0 : Hid (F = 0) := (HP.out (by omega)).2
              clear HP HN
              have HQ := dig_pos hx0 HD
              go_wp2_with (at_builtin; refine ap_byte rfl (.tmp 54) (.tmp 56) rfl w1.heap.size ao3 cap3 D d _ rfl rfl hown rfl (by omega) hbs ?_; intro ao' cap' w3 hown1 hb1)
              go_roundw
              case rel => exact ⟨q, D ++ [d], ao', cap', by omega, by simp; omega, by go_num, by simp, hown1, int_round HQ hD, hb3.trans hb1⟩
              case measure => simp [intOf]
          · obtain rfl : r = 0 := by omega
            go_wp2
            go_ret
            have hDe : D = enc2 M F := by simpa [be] using hD.out
            rw [← hDe]
            exact ⟨ao3, cap3, rfl, hown.base hb.size, hb.trans (hb3.mono hb.size)⟩

/-- dioramaref01.Int. -/
theorem rint_any (n : Int) (w : World) (h0 : -9223372036854775808 ≤ n) (h1 : n ≤ 9223372036854775807) :
    Calls Try.prog 21 #[.int .i64 n] w (GivesB w (encInt n)) :=
  rint2 n w (mag n) (fl n) (mag_lt h0 h1) (fl_or n) mag_neg (fun h => mag_nonneg (by omega))

end Go.Proofs.Ytcpemgfpiapaaaa
