/- wire.Int returns the encoding of its argument, for every int. -/
import Derived.Test.YtcpemgfpiapaaaaMem
import Derived.Test.YtcpemgfpiapaaaaSpec
namespace Go.Proofs.Ytcpemgfpiapaaaa
open Go.RowKit

theorem not_xor (k a : Nat) (ha : a < 2 ^ k) : (2 ^ k - 1) ^^^ a = 2 ^ k - 1 - a := by
  have h := congrArg BitVec.toNat (BitVec.allOnes_xor (x := BitVec.ofNat k a))
  simp only [BitVec.toNat_xor, BitVec.toNat_allOnes, BitVec.toNat_not, BitVec.toNat_ofNat, Nat.mod_eq_of_lt ha] at h
  exact h

theorem xor_u8_nat (a b : Nat) (ha : a < 256) (hb : b < 256) : bits .xor .u8 (a : Int) (b : Int) = ((a ^^^ b : Nat) : Int) := by
  have h := Nat.xor_lt_two_pow (n := 8) (x := a) (y := b) (by simpa using ha) (by simpa using hb)
  have ha' : a % 2 ^ 8 = a := Nat.mod_eq_of_lt (by simpa using ha)
  have hb' : b % 2 ^ 8 = b := Nat.mod_eq_of_lt (by simpa using hb)
  rw [show bits .xor .u8 (a : Int) (b : Int) = IntKind.u8.wrap (((BitVec.ofInt 8 a ^^^ BitVec.ofInt 8 b).toNat : Nat) : Int) from rfl]
  rw [BitVec.ofInt_natCast, BitVec.ofInt_natCast, BitVec.toNat_xor, BitVec.toNat_ofNat, BitVec.toNat_ofNat, ha', hb', IntKind.wrap_u8]
  simp at h
  omega

theorem xor_byte (f : Nat) (hf : f = 0 ∨ f = 255) (x : Nat) : bits BinOp.xor IntKind.u8 ((x % 256 : Nat) : Int) (f : Int) = ((fx f (UInt8.ofNat (x % 256))).toNat : Int) := by
  have hx : x % 256 < 256 := Nat.mod_lt _ (by decide)
  rw [fx_toNat f hf, xor_u8_nat _ _ hx (by rcases hf with rfl | rfl <;> decide)]
  rcases hf with rfl | rfl
  · simp
  · have h := not_xor 8 (x % 256) hx
    rw [Nat.xor_comm, show (255 : Nat) = 2 ^ 8 - 1 from rfl, h]; simp

theorem xor_not64 (m : Nat) (h : m < 9223372036854775808) : bits BinOp.xor IntKind.u64 IntKind.u64.max (IntKind.u64.wrap (-1 - (m : Int))) = (m : Int) := by
  have e : IntKind.u64.wrap (-1 - (m : Int)) = ((18446744073709551615 - m : Nat) : Int) := by rw [IntKind.wrap_u64]; omega
  have em : IntKind.u64.max = ((18446744073709551615 : Nat) : Int) := rfl
  rw [e, em, bits_xor_u64_nat _ _ (by omega) (by omega)]
  have hx := not_xor 64 (18446744073709551615 - m) (by omega)
  rw [show (18446744073709551615 : Nat) = 2 ^ 64 - 1 from rfl, show (18446744073709551615 - m : Nat) = 2 ^ 64 - 1 - m from rfl] at *
  rw [hx]; omega

theorem int_head (F : Nat) (hfo : F = 0 ∨ F = 255) (K : Nat) (hK : K ≤ 8) : bits BinOp.xor IntKind.u8 (128 + (K : Int)) (F : Int) = ((fx F (UInt8.ofNat (128 + K))).toNat : Int) := by
  have := xor_byte F hfo (128 + K); rw [Nat.mod_eq_of_lt (by omega)] at this; simpa using this

theorem int_digit (M F : Nat) (hfo : F = 0 ∨ F = 255) (q : Nat) : bits BinOp.xor IntKind.u8 ((M : Int) / 2 ^ (8 * q) % 256) (F : Int) = ((fx F (UInt8.ofNat (M / 256 ^ q % 256))).toNat : Int) := by
  rw [← xor_byte F hfo (M / 256 ^ q), pow_cast]; simp

theorem int_round {D : List UInt8} {M F q : Nat} {cq : UInt8} (HQ : Hid (cq = fx F (UInt8.ofNat (M / 256 ^ q % 256)))) (hD : Hid (D ++ (be M (q + 1)).map (fx F) = enc2 M F)) : Hid (D ++ [cq] ++ (be M q).map (fx F) = enc2 M F) := by
  have h := hD.out
  rw [be_snoc_fx, ← HQ.out] at h
  show _ = _
  rw [← h]; simp

set_option maxHeartbeats 400000 in
theorem int2 (n : Int) (w : World) (M F : Nat) (hml : M < 9223372036854775808) (hfo : F = 0 ∨ F = 255) (HN : Hid (n < 0 → n = -1 - (M : Int) ∧ F = 255)) (HP : Hid (0 ≤ n → n = (M : Int) ∧ F = 0)) :
    Calls Try.prog 20 #[.int .i64 n] w (GivesB w (enc2 M F)) := by
  go_enter Try.func20, Try.ntmps20
  go_wp2
  go_step3
  go_upto_if 11 with fail
  go_cut [3, 4] (fun m f wx => m = .int .u64 M ∧ f = .int .u8 F ∧ wx = w)
  case first =>
    by_cases hn : n < 0
    · obtain ⟨rfl, rfl⟩ := HN.out hn
      have hx := xor_not64 M hml
      go_wp2
      go_meet
      exact ⟨rfl, rfl, rfl⟩
    · have hn' : 0 ≤ n := by omega
      obtain ⟨rfl, rfl⟩ := HP.out hn'
      have hx : IntKind.u64.wrap (M : Int) = M := IntWalk.u64_in _ (by omega)
      go_wp2
      go_meet
      exact ⟨rfl, rfl, rfl⟩
  case rest =>
    obtain ⟨rfl, rfl, rfl⟩ := hcut
    clear HN HP
    go_wp2
    go_step3
    go_upto_block 0 with fail
    go_cut [5] (fun k wx => ∃ K : Nat, Hid (nd M = K) ∧ k = .int .i64 K ∧ wx = wc)
    case first =>
      go_wp2
      go_loop [5] (fun k => ∃ j : Nat, j ≤ 8 ∧ M < 256 ^ j ∧ k = .int .i64 j) (fun k => (intOf k).toNat)
      case atStart => exact ⟨8, by omega, by omega, rfl⟩
      case round =>
        obtain ⟨j, hj, hn, rfl⟩ := hrel
        by_cases hj0 : 0 < j
        · obtain ⟨i, rfl⟩ : ∃ i, j = i + 1 := ⟨j - 1, by omega⟩
          by_cases hs : 256 ^ i ≤ M
          · have hs' := (shr_pos M i).2 hs
            have HE := Lib.hid (nd_eq hj hn (.inr hs))
            clear hs hn
            go_wp2
            go_meet
            exact ⟨i + 1, HE, by go_num, rfl⟩
          · have hs' := mt (shr_pos M i).1 hs
            have HL : Hid (M < 256 ^ i) := by show _ < _; omega
            clear hs hn
            go_wp2
            go_round
            case rel => exact ⟨i, by omega, HL.out, by go_num⟩
            case measure => simp [intOf]
        · obtain rfl : j = 0 := by omega
          have HE := Lib.hid (nd_eq hj hn (.inl rfl))
          clear hn
          go_wp2
          go_meet
          exact ⟨0, HE, rfl, rfl⟩
    case rest =>
      obtain ⟨K, HK, rfl, rfl⟩ := hcut
      have hK : K ≤ 8 := by rw [← HK.out]; exact nd_le M
      obtain ⟨c0, HF, hx0⟩ : ∃ c0, Hid (enc2 M F = c0 :: (be M K).map (fx F)) ∧ bits BinOp.xor IntKind.u8 (128 + (K : Int)) (F : Int) = (c0.toNat : Int) :=
        ⟨_, by rw [← HK.out]; exact rfl, int_head F hfo K hK⟩
      go_wp2
      go_loopw [6, 7] (fun v k wr => ∃ (r : Nat) (D : List UInt8) (ao : Option Addr) (cap : Nat), r ≤ K ∧ D.length ≤ 9 - r ∧ k = .int .i64 ((r : Int) - 1) ∧ v = .slice ao D.length cap ∧ OwnB wr wc.heap.size ao cap D ∧ Hid (D ++ (be M r).map (fx F) = enc2 M F) ∧ Below wc.heap.size wc wr) (fun _ k _ => (intOf k + 1).toNat)
      case atStart =>
        exact ⟨K, [c0], _, _, Nat.le_refl _, by simp; omega, rfl, rfl, own_new wc c0 _ (Nat.le_refl _), by rw [HF.out]; exact rfl, (Below.refl _ _).alloc (Nat.le_refl _) _⟩
      case round =>
        obtain ⟨r, D, ao, cap, hr, hDl, rfl, rfl, hown, hD, hb⟩ := hrel
        by_cases hr0 : 0 < r
        · obtain ⟨q, rfl⟩ : ∃ q, r = q + 1 := ⟨r - 1, by omega⟩
          obtain ⟨cq, HQ, hxq⟩ : ∃ cq, Hid (cq = fx F (UInt8.ofNat (M / 256 ^ q % 256))) ∧ bits BinOp.xor IntKind.u8 ((M : Int) / 2 ^ (8 * q) % 256) (F : Int) = (cq.toNat : Int) := ⟨_, rfl, int_digit M F hfo q⟩
          have hbs := hb.size
          go_wp2_with (at_builtin; refine ap_byte rfl (.tmp 36) (.tmp 44) rfl wc.heap.size ao cap D cq _ rfl rfl hown rfl (by omega) hbs ?_; intro ao' cap' w1 hown1 hb1)
          go_roundw
          case rel => exact ⟨q, D ++ [cq], ao', cap', by omega, by simp; omega, rfl, by simp, hown1, int_round HQ hD, hb.trans hb1⟩
          case measure => simp [intOf]
        · obtain rfl : r = 0 := by omega
          go_wp2
          rw [Exit.noGoto_ret]
          go_ret
          have hDe : D = enc2 M F := by simpa [be] using hD.out
          rw [← hDe]
          exact ⟨ao, cap, rfl, hown, hb⟩

/-- wire.Int. -/
theorem int_any (n : Int) (w : World) (h0 : -9223372036854775808 ≤ n) (h1 : n ≤ 9223372036854775807) :
    Calls Try.prog 20 #[.int .i64 n] w (GivesB w (encInt n)) :=
  int2 n w (mag n) (fl n) (mag_lt h0 h1) (fl_or n) mag_neg (fun h => mag_nonneg (by omega))

end Go.Proofs.Ytcpemgfpiapaaaa
