/- The encoders of lists of digests, of the program and of the reference, return the encoding. -/
import Derived.Test.YtcpemgfpiapaaaaEnc
import Derived.Test.YtcpemgfpiapaaaaSameD
namespace Go.Proofs.Ytcpemgfpiapaaaa
open Go.RowKit

theorem Try.zero90 : (Try.prog.info? 90).map (fun i => (i.zero, i.size, i.bytes)) = some (some (.agg (Array.replicate 16 (.int .u8 0))), 16, 16) := by kernel_rfl

/-- What one round of the encoder knows of its digest. -/
theorem dig_one {w : World} {a : Addr} {n c k : Nat} {l : List (List UInt8)} (h : SlV w (some a) n c 16 (dvs l)) (hd : Digs l) (q1 : k < l.length) :
    ∃ x : List UInt8, Hid (l[k] = x) ∧ Hid (x.length = 16) ∧ Hid (∀ j u, (bvs x)[j]? = some u → w.cell? ((a.add (k * 16)).add j) = some u) :=
  ⟨l[k], Lib.hid rfl, hd.at q1, slv_digest h hd q1⟩

set_option maxHeartbeats 400000 in
/-- wire.Digests. -/
theorem digs_any (ao : Option Addr) (n c : Nat) (l : List (List UInt8)) (w : World) (h : SlV w ao n c 16 (dvs l)) (hd : Digs l) (hT : (encL id l).length ≤ 1000000000000) :
    Calls Try.prog 28 #[.slice ao n c] w (GivesB w (encL id l)) := by
  have t1 : n ≤ maxLen := Nat.le_trans h.le h.top
  unfold maxLen at t1
  have l1 : Hid (l.length = n) := Lib.hid (by have := h.len; rw [dvs_length hd] at this; omega)
  have HS := encL_start id l l1
  have HE : ∀ D, _ → _ := fun D => @encL_end _ id l n l1 D
  go_enter Try.func28, Try.ntmps28
  go_wp2_with (go_at_call 20; refine (int_any _ _ (by omega) (by omega)).mono ?_; rintro e w1 ⟨ao1, cap1, rfl, hown, hb⟩)
  go_loopw [3, 5, 11] (fun v _ i wr => ∃ (k : Nat) (ao2 : Option Addr) (cap2 : Nat) (D : List UInt8), k ≤ n ∧ i = .int .i64 k ∧ v = .slice ao2 D.length cap2 ∧ OwnB wr w.heap.size ao2 cap2 D ∧ Hid (D = encInt l.length ++ ((l.take k).map id).flatten) ∧ Below w.heap.size w wr) (fun _ _ i _ => n - (intOf i).toNat)
  case atStart => exact ⟨0, ao1, cap1, _, by omega, rfl, rfl, hown, HS, hb⟩
  case round =>
    clear hown hb HS
    obtain ⟨k, ao2, cap2, D, hk, rfl, rfl, hown, hD, hb⟩ := hrel
    have hbs := hb.size
    by_cases hlt : k < n
    · obtain ⟨a, rfl⟩ := h.has (by omega)
      have q1 : k < l.length := by rw [l1.out]; exact hlt
      obtain ⟨x, hx, hxl, hxc⟩ := dig_one (h.below hb (Nat.le_refl _)) hd q1
      obtain ⟨hle, hN⟩ := encL_at q1 hD hx
      rw [show (id x).length = 16 from hxl.out] at hle
      clear q1 hx HE
      go_wp2_with (first | (refine ld_arr rfl 90 (.tmp 13) rfl _ rfl 16 Try.underlying90 Try.size90 x hxl.out hxc.out ?_) | (refine al_arr rfl 90 rfl _ _ _ Try.zero90 ?_) | (refine st_arr rfl rfl 90 (.tmp 5) (.tmp 14) rfl wr _ rfl rfl x rfl (hxl.out.symm ▸ Try.size90) hxl.out.symm ?_) | (at_builtin; refine ap_bytes rfl (.tmp 15) (.tmp 16) rfl w.heap.size ao2 cap2 D x _ rfl rfl (hown.alloc _) _ _ _ hxl.out.symm rfl (by have := sl_row wr x 90 (by rw [hxl.out]; decide); rw [hxl.out] at this ⊢; exact this) (by rw [hxl.out]; omega) (by simp; omega) ?_; intro ao' cap' w3 hown4 hb4))
      go_roundw
      case rel => exact ⟨k + 1, ao', cap', D ++ x, by omega, by go_num, by simp, hown4, hN, hb.trans (((Below.refl _ _).alloc hbs _).trans hb4)⟩
      case measure => simp [intOf]; omega
    · obtain rfl : k = n := by omega
      have HD := Lib.hid (HE D hD)
      clear HE hD
      go_wp2
      go_ret
      rw [← HD.out]
      exact ⟨ao2, cap2, rfl, hown, hb⟩

theorem take_all {α : Type} (x : List α) (n : Nat) (h : Hid (x.length = n)) : x.take n = x := List.take_of_length_le (by rw [h.out]; exact Nat.le_refl _)

/-- The next byte of a digest. -/
theorem dig_byte {w : World} {p : Addr} {x : List UInt8} {r : Nat} (hl : Hid (x.length = 16)) (hr : r < 16) (hc : Hid (∀ j u, (bvs x)[j]? = some u → w.cell? (p.add j) = some u)) :
    ∃ c : UInt8, w.cell? (p.add r) = some (.int .u8 (c.toNat : Int)) ∧ Hid (x.take (r + 1) = x.take r ++ [c]) := by
  have q : r < x.length := by rw [hl.out]; exact hr
  refine ⟨x[r], hc.out r _ (by simp [bvs, q, bv]), ?_⟩
  exact List.take_succ_eq_append_getElem q

set_option maxHeartbeats 400000 in
/-- dioramaref01.Digests. -/
theorem rdigs_any (ao : Option Addr) (n c : Nat) (l : List (List UInt8)) (w : World) (h : SlV w ao n c 16 (dvs l)) (hd : Digs l) (hT : (encL id l).length ≤ 1000000000000) :
    Calls Try.prog 29 #[.slice ao n c] w (GivesB w (encL id l)) := by
  have t1 : n ≤ maxLen := Nat.le_trans h.le h.top
  unfold maxLen at t1
  have l1 : Hid (l.length = n) := Lib.hid (by have := h.len; rw [dvs_length hd] at this; omega)
  have HS := encL_start id l l1
  have HE : ∀ D, _ → _ := fun D => @encL_end _ id l n l1 D
  go_enter Try.func29, Try.ntmps29
  go_wp2_with (go_at_call 21; refine (rint_any _ _ (by omega) (by omega)).mono ?_; rintro e w1 ⟨ao1, cap1, rfl, hown, hb⟩)
  go_loopw [3, 4, 5] (fun v i _ wr => ∃ (k : Nat) (ao2 : Option Addr) (cap2 : Nat) (D : List UInt8), k ≤ n ∧ i = .int .i64 k ∧ v = .slice ao2 D.length cap2 ∧ OwnB wr w.heap.size ao2 cap2 D ∧ Hid (D = encInt l.length ++ ((l.take k).map id).flatten) ∧ Below w.heap.size w wr) (fun _ i _ _ => n - (intOf i).toNat)
  case atStart => exact ⟨0, ao1, cap1, _, by omega, rfl, rfl, hown, HS, hb⟩
  case round =>
    clear hown hb HS
    obtain ⟨k, ao2, cap2, D, hk, rfl, rfl, hown, hD, hb⟩ := hrel
    have hbs := hb.size
    by_cases hlt : k < n
    · obtain ⟨a, rfl⟩ := h.has (by omega)
      have q1 : k < l.length := by rw [l1.out]; exact hlt
      obtain ⟨x, hx, hxl, hxc⟩ := dig_one h hd q1
      obtain ⟨hle, hN⟩ := encL_at q1 hD hx
      rw [show (id x).length = 16 from hxl.out] at hle
      clear q1 hx HE hD
      obtain ⟨wo, rfl⟩ : ∃ wo : World, wo = wr := ⟨_, rfl⟩
      go_wp2_with fail
      go_loopw [3, 5] (fun v i wr => ∃ (r : Nat) (ao3 : Option Addr) (cap3 : Nat) (E : List UInt8), r ≤ 16 ∧ i = .int .i64 r ∧ v = .slice ao3 E.length cap3 ∧ OwnB wr w.heap.size ao3 cap3 E ∧ E.length ≤ D.length + r ∧ Hid (E = D ++ x.take r) ∧ Below w.heap.size w wr) (fun _ i _ => 16 - (intOf i).toNat)
      case atStart => exact ⟨0, ao2, cap2, D, by omega, rfl, rfl, hown, by omega, by simp [Hid], hb⟩
      case round =>
        clear hown hb hbs
        obtain ⟨r, ao3, cap3, E, hr, rfl, rfl, hown, hEl, hE, hb⟩ := hrel
        have hbs := hb.size
        by_cases hlr : r < 16
        · have hxc' : Hid (∀ j u, (bvs x)[j]? = some u → wr.cell? ((a.add (k * 16)).add j) = some u) := fun j u hj => cell_later hb (hxc.out j u hj)
          obtain ⟨ch, hch, hnext⟩ := dig_byte hxl hlr hxc'
          go_wp2_with (at_builtin; refine ap_byte rfl (.tmp 19) (.tmp 26) rfl w.heap.size ao3 cap3 E ch _ rfl rfl hown rfl (by omega) hbs ?_; intro ao' cap' w3 hown4 hb4)
          go_roundw
          case rel => exact ⟨r + 1, ao', cap', E ++ [ch], by omega, by go_num, by simp, hown4, by simp; omega, by rw [hnext.out, hE.out]; simp [Hid], hb.trans hb4⟩
          case measure => simp [intOf]; omega
        · obtain rfl : r = 16 := by omega
          have HX := take_all x 16 hxl
          rw [HX] at hE
          clear HX
          go_wp2
          go_roundw
          case rel => exact ⟨k + 1, ao3, cap3, E, by omega, by go_num, rfl, hown, by rw [hE.out]; exact hN, hb⟩
          case measure => simp [intOf]; omega
    · obtain rfl : k = n := by omega
      have HD := Lib.hid (HE D hD)
      clear HE hD
      go_wp2
      go_ret
      rw [← HD.out]
      exact ⟨ao2, cap2, rfl, hown, hb⟩

end Go.Proofs.Ytcpemgfpiapaaaa
