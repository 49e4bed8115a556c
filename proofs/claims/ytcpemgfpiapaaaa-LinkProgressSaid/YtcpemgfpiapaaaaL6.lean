/- LinkDetects. -/
import Derived.Test.YtcpemgfpiapaaaaLives
namespace Go.Proofs.Ytcpemgfpiapaaaa
open Go.RowKit

/-- A byte of an own row, stored. -/
theorem own_set {w : World} {B g cap : Nat} {X : List UInt8} (h : OwnB w B (some ⟨g, 0, none⟩) cap X) {K : Nat} {x : UInt8} (hx : X[K]? = some x) :
    w.cell? ⟨g, K, none⟩ = some (.int .u8 (x.toNat : Int)) ∧ w.frozen? ⟨g, K, none⟩ = false ∧ B ≤ g ∧ ∀ d : UInt8, OwnB (w.setCell ⟨g, K, none⟩ (.int .u8 (d.toNat : Int))) B (some ⟨g, 0, none⟩) cap (X.set K d) := by
  have hK := (List.getElem?_eq_some_iff.1 hx).1
  have hc := World.ownsRow.cellAt h K (by omega)
  have hf := World.ownsRow.frozenAt h K
  refine ⟨hc.trans (by simp [bvs, hx, bv]), hf, (h.lt g rfl).1, fun d => ?_⟩
  have := (World.ownsRow.stored h K (bv d)).1
  unfold OwnB
  rw [List.length_set]
  have e : bvs (X.set K d) = (bvs X).set K (bv d) := by simp [bvs, List.map_set]
  rw [e]
  exact this

theorem seal_turned {key : Nat} (hk : key < 18446744073709551616) (l : List UInt8) {k : Nat} {x d : UInt8} (hx : (sealB key l)[k]? = some x) (hd : d ≠ x) : openB key ((sealB key l).set k d) = ([], 9) := by
  obtain ⟨h1, h2⟩ := List.getElem?_eq_some_iff.1 hx
  exact open_turned hk l d h1 (fun e => hd (by rw [← e, h2]))

/-- A byte, turned. -/
theorem turned (x : UInt8) (v : Nat) : ∃ d : UInt8, d ≠ x ∧ bits .xor .u8 (x.toNat : Int) (1 + (v : Int) % 255) = (d.toNat : Int) := by
  have hm : v % 255 < 255 := Nat.mod_lt _ (by decide)
  have hx := x.toNat_lt
  have h1 := xor_u8_nat x.toNat (1 + v % 255) (by omega) (by omega)
  have h2 : x.toNat ^^^ (1 + v % 255) < 256 := Nat.xor_lt_two_pow (n := 8) (by omega) (by omega)
  refine ⟨UInt8.ofNat (x.toNat ^^^ (1 + v % 255)), fun e => ?_, ?_⟩
  · have e2 := congrArg UInt8.toNat e
    rw [UInt8.toNat_ofNat', Nat.mod_eq_of_lt h2] at e2
    have e3 : x.toNat ^^^ (1 + v % 255) = x.toNat ^^^ 0 := by rw [e2, Nat.xor_zero]
    have := xor_cancel' e3
    omega
  · have e : (1 + (v : Int) % 255) = ((1 + v % 255 : Nat) : Int) := by omega
    rw [e, h1, UInt8.toNat_ofNat', Nat.mod_eq_of_lt h2]

theorem around_K {at' : Int} {n : Nat} (hn : 1 ≤ n) : ∃ K : Nat, K < n ∧ around at' (n : Int) = (K : Int) := by
  have := around_nat (n := at') (most := (n : Int)) (by omega)
  exact ⟨(around at' (n : Int)).toNat, by omega, by omega⟩

def dtM (key : Nat) : EndM := { newM 3 key with forged := 1 }
theorem dtM_wf {key : Nat} (hk : key < 18446744073709551616) : Wf (dtM key) := ⟨⟨by simp [dtM, newM], by simp [dtM, newM]⟩, hk, by simp [dtM, newM], fun l h => by simp [dtM, newM] at h, by simp [dtM, newM], by simp [dtM, newM], by simp [dtM], fun q l h => by simp [dtM, newM] at h⟩

theorem dt_in1 (key : Nat) {y : List UInt8} (h : openB key y = ([], 9)) : inM (newM 3 key) y = (dtM key, [], 9) := by
  unfold inM
  have e : openB (newM 3 key).key y = ([], 9) := h
  rw [e, if_pos (by simp), if_pos rfl]
  rfl

theorem dt_in2 (key : Nat) {T : List UInt8} (hT : T.length ≤ 20) : inM (dtM key) (sealB key (pktB 1 0 T)) = (delivM (holdM (dtM key) 1 T), [T], 0) := by
  refine (in_pkt (dtM key) (seq := 1) (ack := 0) (l := T) (by unfold InR; omega) (by unfold InR; omega) ⟨by decide, by decide, by omega, .inl (by decide)⟩).trans ?_
  have e1 : ¬ (((dtM key).acked : Int) + ((dtM key).waiting.length : Int) < 0 ∨ ((dtM key).delivered : Int) + 16 < 1) := by
    show ¬ ((0 : Int) + 0 < 0 ∨ (0 : Int) + 16 < 1)
    omega
  rw [if_neg e1, if_neg (by decide)]
  rfl

set_option maxRecDepth 100000 in
set_option maxHeartbeats 4000000 in
theorem l6_any (W : World) (key : Nat) (hk : key < 18446744073709551616) (ao : Option Addr) (n c : Nat) (b : List UInt8) (hr : SlV W ao n c 1 (bvs b)) (at' : Int) (hat : InR at') (v : Nat) (hv : v < 256) :
    Calls Try.prog 6 #[.int .u64 (key : Int), .slice ao n c, .int .i64 at', .int .u8 (v : Int)] W (fun e w' => e = .returned (.bool true) ∧ Below W.heap.size W w') := by
  have hL0 := LS.start W
  obtain ⟨T, hT⟩ : ∃ T, b.take 200 = T := ⟨_, rfl⟩
  have hTl : T.length ≤ 200 := by rw [← hT, List.length_take]; omega
  obtain ⟨X, hX⟩ : ∃ X, sealB key T = X := ⟨_, rfl⟩
  have hXl : X.length = T.length + 8 := by rw [← hX, sealB_length]
  obtain ⟨N, hN⟩ : ∃ N, X.length = N := ⟨_, rfl⟩
  obtain ⟨K, hK, hKa⟩ := around_K (at' := at') (n := N) (by omega)
  obtain ⟨x0, hx0⟩ : ∃ x0, X[K]? = some x0 := ⟨_, List.getElem?_eq_getElem (by omega)⟩
  obtain ⟨d, hd, hdx⟩ := turned x0 v
  have hopen : openB key (X.set K d) = ([], 9) := by
    rw [← hX] at hx0 ⊢
    exact seal_turned hk T hx0 hd
  have HT := Lib.hid hT
  have HX := Lib.hid hX
  have HN := Lib.hid hN
  have HX0 := Lib.hid hx0
  have hN8 : 8 ≤ N ∧ N ≤ 208 := by omega
  have hw1 : IntKind.u8.wrap (1 + (v : Int) % 255) = 1 + (v : Int) % 255 := by rw [IntKind.wrap_u8]; omega
  clear hT hX hN hXl hx0
  obtain ⟨T2, hT2⟩ : ∃ T2, b.take 20 = T2 := ⟨_, rfl⟩
  have hTl2 : T2.length ≤ 20 := by rw [← hT2, List.length_take]; omega
  obtain ⟨Z, hZ⟩ : ∃ Z, sealB key (pktB 1 0 T2) = Z := ⟨_, rfl⟩
  have hpl := pkt_len 1 0 T2
  have hZl : Z.length = (pktB 1 0 T2).length + 8 := by rw [← hZ, sealB_length]
  obtain ⟨N2, hN2⟩ : ∃ N2, Z.length = N2 := ⟨_, rfl⟩
  obtain ⟨J, hJ, hJa⟩ := around_K (at' := at') (n := N2) (by omega)
  obtain ⟨y0, hy0⟩ : ∃ y0, Z[J]? = some y0 := ⟨_, List.getElem?_eq_getElem (by omega)⟩
  obtain ⟨d2, hd2, hdy⟩ := turned y0 v
  have hi1 := dt_in1 key (y := Z.set J d2) (by rw [← hZ] at hy0 ⊢; exact seal_turned hk _ hy0 hd2)
  have hi2 := dt_in2 key hTl2
  rw [hZ] at hi2
  have HI1 := Lib.hid hi1
  have HI2 := Lib.hid hi2
  have HT2 := Lib.hid hT2
  have HZ := Lib.hid hZ
  have HN2 := Lib.hid hN2
  have HY0 := Lib.hid hy0
  have hZl2 : N2 ≤ 100 := by omega
  have hpl2 : (pktB 1 0 T2).length ≤ 100 := by omega
  have htake : Z.take N2 = Z := by rw [← hN2, List.take_length]
  have HTK := Lib.hid htake
  clear hT2 hZ hN2 hZl hy0 hi1 hi2 hpl htake
  have s0 := True.intro
  go_enter Try.func6, Try.ntmps6
  go_wp2_with (first
    | (clear s0; go_at_call 44; refine (few2_any ao n c b 200 _ hr (by decide)).mono ?_; rw [HT.out]; rintro e w1 ⟨a1, k1, rfl, o1, hb1⟩; have s1 := True.intro)
    | (clear s1; go_at_call 43; refine (lseal_any key hk a1 _ k1 T _ o1.sl (by omega)).mono ?_; rw [HX.out]; unfold GivesB; rw [HN.out]; rintro e w2 ⟨a2, k2, rfl, o2, hb2⟩; obtain ⟨g2, cap2, hg2, _, _⟩ := World.ownsRow.form o2 (by rw [HN.out]; omega); obtain ⟨rfl, rfl⟩ : a2 = some ⟨g2, 0, none⟩ ∧ k2 = cap2 := (by injection hg2 with x y z; exact ⟨x, z⟩); clear hg2; obtain ⟨hc2, hf2, hB2, hset2⟩ := own_set o2 HX0.out; have s2 := True.intro)
    | (clear s2; go_at_call 45; refine (around_any at' (N : Int) hat (by omega) _).mono ?_; rw [hKa]; rintro e w3 ⟨rfl, rfl⟩; have s3 := True.intro)
    | (clear s3; go_at_call 46; have o3 := hset2 d; have hb3 : Below W.heap.size W (w3.setCell ⟨g2, K, none⟩ (.int .u8 (d.toNat : Int))) := (hb1.trans (hb2.mono hb1.size)).setCell (p := ⟨g2, K, none⟩) (Nat.le_trans hb1.size hB2) _; have sl3 := o3.sl; rw [List.length_set, HN.out] at sl3; refine (lopen_any key hk _ N k2 (X.set K d) _ sl3 (by omega) [] 9 hopen).mono ?_; rintro e w4 ⟨a4, k4, rfl, ho4, hb4⟩; have hL4 : LS W w4 (fun _ => 0) := ⟨hb3.trans (hb4.mono hb3.size), fun _ _ => rfl, fun _ _ => rfl⟩; clear o1 hb1 hb2 o2 hc2 hf2 hset2 o3 hb3 sl3 hb4 ho4 hL0; have s4 := True.intro)
    | (clear s4; go_at_call 47; refine (lx_new hL4 1 3 key (by decide) (by decide) (by decide)).mono ?_; rintro e w5 ⟨c5, pa, rfl, hL5, st5, hA5⟩; clear hL4 st5; have s5 := True.intro)
    | (clear s5; go_at_call 44; refine (few2_any ao n c b 20 _ (hr.below hL5.below (Nat.le_refl _)) (by decide)).mono ?_; rw [HT2.out]; rintro e w6 ⟨a6, k6, rfl, o6, hb6⟩; have s6 := True.intro)
    | (clear s6; go_at_call 49; refine (rpkt_any 1 0 (by unfold InR; omega) (by unfold InR; omega) a6 _ k6 T2 _ o6.sl (by omega)).mono ?_; rintro e w7 ⟨a7, k7, rfl, o7, hb7⟩; have s7 := True.intro)
    | (clear s7; go_at_call 48; refine (rseal_any key hk a7 _ k7 _ _ o7.sl (by omega)).mono ?_; rw [HZ.out]; unfold GivesB; rw [HN2.out]; rintro e w8 ⟨a8, k8, rfl, o8, hb8⟩; have hb78 := hb6.trans (hb7.mono hb6.size); have rZ := RowC.own (hL5.fr.below hb78) o8; have hb58 := hb78.trans (hb8.mono hb78.size); rw [HN2.out] at rZ; have slZ := o8.sl; rw [HN2.out] at slZ; clear o6 hb6 o7 hb7 o8 hb8 hb78; have s8 := True.intro)
    | (clear s8; go_at_call 44; refine (few2_any a8 N2 k8 Z N2 _ slZ (by omega)).mono ?_; rw [HTK.out]; unfold GivesB; rw [HN2.out]; rintro e w9 ⟨a9, k9, rfl, o9, hb9⟩; obtain ⟨g9, cap9, hg9, _, _⟩ := World.ownsRow.form o9 (by rw [HN2.out]; omega); obtain ⟨rfl, rfl⟩ : a9 = some ⟨g9, 0, none⟩ ∧ k9 = cap9 := (by injection hg9 with x y z; exact ⟨x, z⟩); clear hg9; obtain ⟨hc9, hf9, hB9, hset9⟩ := own_set o9 HY0.out; have s9 := True.intro)
    | (clear s9; go_at_call 45; refine (around_any at' (N2 : Int) hat (by omega) _).mono ?_; rw [hJa]; rintro e w10 ⟨rfl, rfl⟩; have s10 := True.intro)
    | (clear s10; go_at_call 50; have o10 := hset9 d2; have hb10 : Below w8.heap.size w8 (w10.setCell ⟨g9, J, none⟩ (.int .u8 (d2.toNat : Int))) := hb9.setCell (p := ⟨g9, J, none⟩) hB9 _; have hb510 := hb58.trans (hb10.mono hb58.size); have sl10 := o10.sl; rw [List.length_set, HN2.out] at sl10; have rZ10 := rZ.step (hL5.fr.below hb58) hb10; have hL10 := hL5.step hb510; refine (lx_in hL10 (by decide) (hA5.below hL5.fr hb510) (newM_wf (by decide) (by decide) hk) ⟨Nat.zero_le _, Nat.zero_le _⟩ sl10 (by omega) HI1.out).mono ?_; rintro e w11 ⟨c11, v11, hL11, st11, hA11, hX11, rfl⟩; have rZ11 := rZ10.stp st11 (by decide); obtain ⟨ao11, cap11, rfl⟩ := hX11.len (n := 0) rfl; clear hX11 st11 hL10 rZ10 sl10 hb510 hb10 o10 rZ hA5 hL5 hb58 slZ o9 hb9 hc9 hf9 hset9; have s11 := True.intro)
    | (clear s11; go_at_call 51; refine (lx_out hL11 (by decide) hA11 (dtM_wf hk)).mono ?_; rintro e w12 ⟨c12, v12, hL12, st12, hA12, hP12, rfl⟩; have rZ12 := rZ11.stp st12 (by decide); clear rZ11 st12 hA11 hL11; obtain ⟨ao12, cap12, rfl⟩ := hP12.len (n := 0) rfl; clear hP12; obtain ⟨a8', k8', e8, slZ, _⟩ := id rZ12; obtain ⟨rfl, rfl⟩ : a8 = a8' ∧ k8 = k8' := (by injection e8 with x y z; exact ⟨x, z⟩); rw [HN2.out] at slZ; clear e8; have s12 := True.intro)
    | (clear s12; go_at_call 50; refine (lx_in hL12 (by decide) (M := dtM key) hA12 (dtM_wf hk) ⟨Nat.zero_le _, Nat.zero_le _⟩ slZ (by omega) HI2.out).mono ?_; rintro e w13 ⟨c13, v13, hL13, st13, hA13, hX13, rfl⟩; clear rZ12 slZ st13 hA12 hL12; obtain ⟨ao13, cap13, rfl⟩ := hX13.len (n := 1) rfl; obtain ⟨a13, rfl⟩ := hX13.some (by simp); have s13 := True.intro))
  obtain ⟨b13, cb13, z13, sl13, _⟩ := hX13.get (j := 0) rfl
  have z13' : w13.cell? a13 = some (.slice b13 T2.length cb13) := z13
  have hS : ∀ w' : World, Below w13.heap.size w13 w' → w'.cell? a13 = some (.slice b13 T2.length cb13) := fun w' h => cell_later h z13'
  have k0 : Below w13.heap.size w13 w13.drew := (Below.refl _ _).drew
  have hA14 := hA13.below hL13.fr k0
  have hL14 := hL13.step k0
  have ff : ((delivM (holdM (dtM key) 1 T2)).forged : Int) = 1 := rfl
  have w0 : IntKind.i64.wrap 0 = 0 := IntWalk.i64_in _ (by omega)
  clear z13 hX13 hA13
  go_region_held (fun w' => w'.cell? a13 = some (.slice b13 T2.length cb13)) (first | exact hS _ k3 | exact hS _ k2 | exact hS _ k1 | exact hS _ k0) (first
    | (go_at_call 52; refine (forged_any _ 1 pa _ _ hA14).mono ?_; rintro e w14 ⟨rfl, rfl⟩)
    | (go_at_call 44; refine (few2_any ao n c b 20 _ (hr.below hL14.below (Nat.le_refl _)) (by decide)).mono ?_; rw [HT2.out]; rintro e w15 ⟨a15, k15, rfl, o15, hb15⟩; have k1 := k0.trans (hb15.mono k0.size); have hL15 := hL13.step k1)
    | (go_at_call 19; refine (ux_same hL15.below (sl13.below k1 (Nat.le_refl _)) o15.sl rfl).mono ?_; rintro e w16 ⟨rfl, hb16, hc16⟩; have k2 := k1.trans (hc16.mono k1.size); have hL16 := hL13.step k2)
    | (go_at_call 53; refine (lives_any _).mono ?_; rintro e w17 ⟨rfl, hb17⟩; have k3 := k2.trans (hb17.mono k2.size); have hL17 := hL13.step k3))
  go_wp2
  go_ret
  exact ⟨rfl, hL17.below⟩

end Go.Proofs.Ytcpemgfpiapaaaa
