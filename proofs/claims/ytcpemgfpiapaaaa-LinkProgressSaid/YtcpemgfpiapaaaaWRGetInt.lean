/- dioramaref01.GetInt decodes as the plain decoder does. -/
import Derived.Test.YtcpemgfpiapaaaaWGetInt
import Derived.Test.YtcpemgfpiapaaaaWRInt
import Derived.Test.YtcpemgfpiapaaaaSame
namespace Go.Proofs.Ytcpemgfpiapaaaa
open Go.RowKit

theorem rgetint_nil (ao : Option Addr) (c : Nat) (w : World) : Calls Try.prog 31 #[.slice ao 0 c] w (Got3 w (.int .i64 0) 0 3) := by
  go_enter Try.func31, Try.ntmps31
  go_wp2
  go_ret3
  exact ⟨rfl, Below.refl _ _⟩

theorem rnext_digit {w : World} {a : Addr} {n c K j M F : Nat} {h : UInt8} {t : List UInt8} (hr : SlV w (some a) n c 1 (bvs (h :: t))) (hT : Hid ((t.take K).length = K)) (hds : Hid (((t.take K).map (fx F)).length = K)) (hfo : F = 0 ∨ F = 255) (hlt : j < K) (hM : Hid (M = val (((t.take K).map (fx F)).take j))) :
    ∃ ch d : UInt8, w.cell? ⟨a.block, a.off + (j + 1), none⟩ = some (.int .u8 (ch.toNat : Int)) ∧ Hid ((F = 255 → (255 : Int) - (ch.toNat : Int) = (d.toNat : Int)) ∧ (F = 0 → (ch.toNat : Int) = (d.toNat : Int))) ∧ Hid (256 * M + d.toNat = val (((t.take K).map (fx F)).take (j + 1))) := by
  have q1 : j < (t.take K).length := by rw [hT.out]; exact hlt
  have q2 : j < ((t.take K).map (fx F)).length := by rw [hds.out]; exact hlt
  have q3 : j < t.length := by simp at q1; omega
  have hdd := fx_toNat F hfo (t.take K)[j]
  have hcl := ((t.take K)[j]).toNat_lt
  have hcell := hr.cell a rfl (j + 1) (bv (t.take K)[j]) (by simp [bvs, q3])
  rw [Addr.add_succ'] at hcell
  refine ⟨(t.take K)[j], fx F (t.take K)[j], hcell, ⟨fun hf => ?_, fun hf => ?_⟩, ?_⟩
  · rw [hdd, if_pos hf]; omega
  · rw [hdd, if_neg (by omega)]
  · show _ = _
    rw [List.take_succ_eq_append_getElem q2, val_snoc, hM.out, List.getElem_map]

theorem slv_take {w : World} {ao : Option Addr} {n c K : Nat} {l : List UInt8} (hr : SlV w ao n c 1 (bvs l)) (hk : K ≤ n) : SlV w ao K c 1 (bvs (l.take K)) := by
  have hl := hr.len
  rw [bvs_length] at hl
  refine ⟨by simp; omega, by have := hr.le; omega, hr.top, hr.nil, fun a ha j u hj => hr.cell a ha j u ?_⟩
  have hj' : j < K := by
    have := (List.getElem?_eq_some_iff.1 hj).1
    simp at this; omega
  rw [← hj]
  simp [bvs, hj']

/-- A number that is too great. -/
theorem rdec_big {t : List UInt8} {F K M j : Nat} {x : Int} {k : Nat} {e : Int} {d : UInt8} (hR : Hid (((if nd (val ((t.take K).map (fx F))) = K ∧ val ((t.take K).map (fx F)) < 9223372036854775808 then ((if F = 255 then -1 - (val ((t.take K).map (fx F)) : Int) else (val ((t.take K).map (fx F)) : Int)), K + 1, 0) else (0, 0, 2)) : Int × Nat × Int) = (x, k, e)))
    (hb : 36028797018963967 < M) (hMn : Hid (256 * M + d.toNat = val (((t.take K).map (fx F)).take (j + 1)))) : x = 0 ∧ k = 0 ∧ e = 2 := by
  have h1 := hR.out
  have h2 := hMn.out
  have hge := val_take_le ((t.take K).map (fx F)) (j + 1)
  rw [if_neg (fun c => by have := c.2; omega)] at h1
  simp only [Prod.mk.injEq] at h1
  exact ⟨h1.1.symm, h1.2.1.symm, h1.2.2.symm⟩

/-- The candidate is accepted where its encoding consists of the given bytes. -/
theorem rdec_end {h : UInt8} {t : List UInt8} {F j M : Nat} {X x : Int} {k : Nat} {e : Int} (hd : Hid (decInt (h :: t) = (x, k, e))) (hR : Hid (((if nd (val ((t.take j).map (fx F))) = j ∧ val ((t.take j).map (fx F)) < 9223372036854775808 then ((if F = 255 then -1 - (val ((t.take j).map (fx F)) : Int) else (val ((t.take j).map (fx F)) : Int)), j + 1, 0) else (0, 0, 2)) : Int × Nat × Int) = (x, k, e)))
    (hM : Hid (M = val ((t.take j).map (fx F)))) (hX : Hid (X = if F = 255 then -1 - (M : Int) else (M : Int))) (hMb : M < 9223372036854775808) :
    ∃ b : Bool, Hid (b = decide (encInt X = (h :: t).take (j + 1))) ∧ ((b = true ∧ x = X ∧ k = j + 1 ∧ e = 0) ∨ (b = false ∧ x = 0 ∧ k = 0 ∧ e = 2)) := by
  have h1 := hR.out
  rw [← hM.out, ← hX.out] at h1
  by_cases hc : nd M = j
  · rw [if_pos ⟨hc, hMb⟩] at h1
    simp only [Prod.mk.injEq] at h1
    obtain ⟨rfl, rfl, rfl⟩ := h1
    obtain ⟨hq, _⟩ := dec_canon hd.out
    exact ⟨true, Lib.hid (by rw [hq]; simp), .inl ⟨rfl, rfl, rfl, rfl⟩⟩
  · rw [if_neg (fun q => hc q.1)] at h1
    simp only [Prod.mk.injEq] at h1
    obtain ⟨rfl, rfl, rfl⟩ := h1
    refine ⟨false, Lib.hid ?_, .inr ⟨rfl, rfl, rfl, rfl⟩⟩
    symm
    rw [decide_eq_false]
    intro q
    have hXR : InR X := by
      rw [hX.out]; unfold InR; split <;> omega
    have := dec_enc hXR ((h :: t).drop (j + 1))
    rw [q, List.take_append_drop, hd.out] at this
    simp at this

set_option maxRecDepth 100000 in
set_option maxHeartbeats 400000 in
theorem rgetint_cons (a : Addr) (n c : Nat) (h : UInt8) (t : List UInt8) (w : World) (hr : SlV w (some a) n c 1 (bvs (h :: t))) (x : Int) (k : Nat) (e : Int) (hd : Hid (decInt (h :: t) = (x, k, e))) : Calls Try.prog 31 #[.slice (some a) n c] w (Got3 w (.int .i64 x) k e) := by
  have hn : Hid (t.length + 1 = n) := Lib.hid (by have := hr.len; simpa using this)
  have hn0 : 1 ≤ n := by rw [← hn.out]; omega
  have t1 : n ≤ maxLen := Nat.le_trans hr.le hr.top
  unfold maxLen at t1
  have e0 : w.cell? a = some (.int .u8 (h.toNat : Int)) := hr.cell a rfl 0 (bv h) rfl
  have hne : ((n : Int) == 0) = false := by simp; omega
  obtain ⟨F, hFF⟩ : ∃ F, Hid (hF h = F) := ⟨_, Lib.hid rfl⟩
  obtain ⟨K, hKK⟩ : ∃ K, Hid (hK h = K) := ⟨_, Lib.hid rfl⟩
  have hl := h.toNat_lt
  have hfk : Hid ((h.toNat < 128 → F = 255 ∧ K + h.toNat = 127) ∧ (128 ≤ h.toNat → F = 0 ∧ K + 128 = h.toNat)) := by
    rw [← hFF.out, ← hKK.out]
    unfold hF hK
    refine ⟨fun c => ?_, fun c => ?_⟩
    · rw [if_pos c, if_pos c]; omega
    · rw [if_neg (by omega), if_neg (by omega)]; omega
  by_cases hk8 : 8 < K
  · obtain ⟨rfl, rfl, rfl⟩ := dec_k8 hd hKK hk8
    have ho : Hid (h.toNat < 119 ∨ 136 < h.toNat) := by have := hfk.out; show _ ∨ _; omega
    clear hd hfk
    rcases ho.out with h1 | h1
    · have g1 : ((h.toNat : Nat) : Int) < 119 := by omega
      go_enter Try.func31, Try.ntmps31
      go_wp2
      go_ret3
      exact ⟨rfl, Below.refl _ _⟩
    · have g1 : 136 < ((h.toNat : Nat) : Int) := by omega
      go_enter Try.func31, Try.ntmps31
      go_wp2
      go_ret3
      exact ⟨rfl, Below.refl _ _⟩
  · have g1 : 119 ≤ (h.toNat : Int) := by have := hfk.out; omega
    have g2 : (h.toNat : Int) ≤ 136 := by have := hfk.out; omega
    go_enter Try.func31, Try.ntmps31
    go_upto_if 27 with fail
    go_cut [6] (fun v wx => v = .int .i64 K ∧ wx = w)
    case first =>
      by_cases h1 : (h.toNat : Int) < 128
      · have hq : Hid (127 - (h.toNat : Int) = K) := Lib.hid (by have := hfk.out; omega)
        go_wp2
        go_meet
        exact ⟨by rw [← hq.out], rfl⟩
      · have hq : Hid ((h.toNat : Int) - 128 = K) := Lib.hid (by have := hfk.out; omega)
        go_wp2
        go_meet
        exact ⟨by rw [← hq.out], rfl⟩
    case rest =>
      obtain ⟨rfl, rfl⟩ := hcut
      by_cases hkn : n ≤ K
      · obtain ⟨rfl, rfl, rfl⟩ := dec_more hd hKK hn hk8 hkn
        clear hd
        go_wp2
        go_ret3
        exact ⟨rfl, Below.refl _ _⟩
      · have t8 : K ≤ 8 := by omega
        have hR := dec_rest hd hKK hFF hn t8 (by omega)
        have hfo : F = 0 ∨ F = 255 := by rw [← hFF.out]; exact hF_or h
        have hds : Hid (((t.take K).map (fx F)).length = K) := Lib.hid (by have := hn.out; simp; omega)
        have hT : Hid ((t.take K).length = K) := Lib.hid (by have := hn.out; simp; omega)
        have hlk : K < n := by omega
        go_wp2
        go_loop [7, 8, 9] (fun m i _ => ∃ (j M : Nat), j ≤ K ∧ i = .int .i64 ((j : Int) + 1) ∧ m = .int .i64 M ∧ M < 9223372036854775808 ∧ Hid (M = val (((t.take K).map (fx F)).take j))) (fun _ i _ => K + 1 - (intOf i).toNat)
        case atStart => exact ⟨0, 0, by omega, rfl, rfl, by omega, by simp [Hid, val_nil]⟩
        case round =>
          obtain ⟨j, M, hj, rfl, rfl, hMb, hM⟩ := hrel
          by_cases hlt : j < K
          · obtain ⟨ch, d, e2, hd2, hMn⟩ := rnext_digit hr hT hds hfo hlt hM
            have hdl := d.toNat_lt
            have hcl := ch.toNat_lt
            go_upto_if 46 with fail
            go_cut [9] (fun v wx => v = .int .i64 (d.toNat : Int) ∧ wx = wc)
            case first =>
              by_cases h1 : (h.toNat : Int) < 128
              · have hq := hd2.out.1 (hfk.out.1 (by omega)).1
                go_wp2
                go_meet
                exact ⟨rfl, rfl⟩
              · have hq := hd2.out.2 (hfk.out.2 (by omega)).1
                go_wp2
                go_meet
                exact ⟨rfl, rfl⟩
            case rest =>
              obtain ⟨rfl, rfl⟩ := hcut
              by_cases hbig : 36028797018963967 < (M : Int)
              · obtain ⟨rfl, rfl, rfl⟩ := rdec_big hR (by omega) hMn
                clear hR hM hds hT hMn
                go_wp2
                go_ret3
                exact ⟨rfl, Below.refl _ _⟩
              · go_wp2
                go_round
                case rel => exact ⟨j + 1, 256 * M + d.toNat, by omega, by go_num, by go_num, by omega, hMn⟩
                case measure => simp [intOf]; omega
          · obtain rfl : j = K := by omega
            have hM' : Hid (M = val ((t.take j).map (fx F))) := Lib.hid (by rw [hM.out, List.take_of_length_le (by rw [hds.out]; exact Nat.le_refl _)])
            clear hM
            obtain ⟨X, hX, hXr⟩ : ∃ X : Int, Hid (X = if F = 255 then -1 - (M : Int) else (M : Int)) ∧ -9223372036854775808 ≤ X ∧ X ≤ 9223372036854775807 := ⟨_, Lib.hid rfl, by split <;> omega⟩
            obtain ⟨hX0, hX1⟩ := hXr
            go_upto_if 57 with fail
            go_cut [10] (fun v wx => v = .int .i64 X ∧ wx = wc)
            case first =>
              by_cases h1 : (h.toNat : Int) < 128
              · have hq : Hid (-1 - (M : Int) = X) := Lib.hid (by rw [hX.out, if_pos (hfk.out.1 (by omega)).1])
                go_wp2
                go_meet
                exact ⟨by rw [← hq.out], rfl⟩
              · have hq : Hid ((M : Int) = X) := Lib.hid (by rw [hX.out, if_neg (by have := (hfk.out.2 (by omega)).1; omega)])
                go_wp2
                go_meet
                exact ⟨by rw [← hq.out], rfl⟩
            case rest =>
              obtain ⟨rfl, rfl⟩ := hcut
              have hS : SlV wc (some a) (j + 1) c 1 (bvs ((h :: t).take (j + 1))) := slv_take hr (by omega)
              have hcc : ¬ c = 0 := by have := hr.le; omega
              have hcj : (j : Int) + 1 ≤ (c : Int) := by have := hr.le; omega
              have h0j : (0 : Int) ≤ (j : Int) + 1 := by omega
              have hwj : IntKind.i64.wrap ((j : Int) + 1) = (j : Int) + 1 := IntWalk.i64_in _ (by omega)
              have htj : ((j : Int) + 1).toNat = j + 1 := by omega
              obtain ⟨b, hB, hcase⟩ := rdec_end hd hR hM' hX hMb
              clear hR hd hM' hX hds hT hFF hKK hfk
              go_upto_region 24 with fail
              go_cut [67] (fun v wx => v = .bool (!b) ∧ Below wc.heap.size wc wx)
              case first =>
                go_region_with (first | (go_at_call 21; refine (rint_any _ _ hX0 hX1).mono ?_; rintro e w1 ⟨ao1, cap1, rfl, hown, hb⟩) | (go_at_call 19; refine (same_any _ _ _ _ _ _ _ _ _ hown.sl (hS.drew.below hb (Nat.le_refl _)) b hB.out).mono ?_; rintro e w1 ⟨rfl, nq, rfl⟩))
                go_wp2_with fail
                go_meet
                exact ⟨rfl, below_drewN (((Below.refl _ wc).drew).trans hb) nq⟩
              case rest =>
                obtain ⟨rfl, hb⟩ := hcut
                rcases hcase with ⟨rfl, rfl, rfl, rfl⟩ | ⟨rfl, rfl, rfl, rfl⟩
                · go_wp2
                  go_ret3
                  exact ⟨rfl, hb⟩
                · go_wp2
                  go_ret3
                  exact ⟨rfl, hb⟩

/-- dioramaref01.GetInt. -/
theorem rgetint_any (ao : Option Addr) (n c : Nat) (l : List UInt8) (w : World) (hr : SlV w ao n c 1 (bvs l)) (x : Int) (k : Nat) (e : Int) (hd : decInt l = (x, k, e)) : Calls Try.prog 31 #[.slice ao n c] w (Got3 w (.int .i64 x) k e) := by
  cases l with
  | nil =>
    have hn : n = 0 := by have := hr.len; simpa using this.symm
    subst hn
    unfold decInt at hd
    simp only [Prod.mk.injEq] at hd
    obtain ⟨rfl, rfl, rfl⟩ := hd
    exact rgetint_nil ao c w
  | cons h t =>
    obtain ⟨a, rfl⟩ := hr.has (by have := hr.len; simp at this; omega)
    exact rgetint_cons a n c h t w hr x k e hd

end Go.Proofs.Ytcpemgfpiapaaaa
