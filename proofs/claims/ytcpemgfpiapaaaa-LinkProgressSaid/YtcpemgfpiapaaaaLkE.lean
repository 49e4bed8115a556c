/- link.read. link.read, the way with a packet. link.read reads as the plain reading does. -/
import Derived.Test.YtcpemgfpiapaaaaLkD
import Derived.Deep.MidRow
import Derived.Deep.RegionHeld3
namespace Go.Proofs.Ytcpemgfpiapaaaa
open Go.RowKit

/-- What read gives: the packet; or none. -/
def ReadNo (W : World) (e : Ending) (w' : World) : Prop := ∃ s a ao n c, e = .returned (.tuple #[.agg #[.int .i64 s, .int .i64 a, .slice ao n c], .bool false]) ∧ Below W.heap.size W w'

/-- The three cells of a variable, and that they may be written. -/
theorem var3 {w w1 : World} {a b c : Value} {t : TypeId} (hk : Below (w.alloc (.cells #[a, b, c] t)).heap.size (w.alloc (.cells #[a, b, c] t)) w1) :
    w1.cell? ⟨w.heap.size, 0, none⟩ = some a ∧ w1.cell? ⟨w.heap.size, 1, none⟩ = some b ∧ w1.cell? ⟨w.heap.size, 2, none⟩ = some c ∧ w1.frozen? ⟨w.heap.size, 0, none⟩ = false ∧ w1.frozen? ⟨w.heap.size, 1, none⟩ = false ∧ w1.frozen? ⟨w.heap.size, 2, none⟩ = false := by
  have hs : w.heap.size < (w.alloc (.cells #[a, b, c] t)).heap.size := by simp
  refine ⟨?_, ?_, ?_, ?_, ?_, ?_⟩
  · rw [hk.cell (p := ⟨w.heap.size, 0, none⟩) hs]; simp
  · rw [hk.cell (p := ⟨w.heap.size, 1, none⟩) hs]; simp
  · rw [hk.cell (p := ⟨w.heap.size, 2, none⟩) hs]; simp
  · rw [hk.frozen (p := ⟨w.heap.size, 0, none⟩) hs]; simp
  · rw [hk.frozen (p := ⟨w.heap.size, 1, none⟩) hs]; simp
  · rw [hk.frozen (p := ⟨w.heap.size, 2, none⟩) hs]; simp

/-- Three cells, stored one after the other. -/
theorem set3 {w : World} {b : Nat} {u0 u1 u2 : Value} (v0 : w.cell? ⟨b, 0, none⟩ = some u0) (v1 : w.cell? ⟨b, 1, none⟩ = some u1) (v2 : w.cell? ⟨b, 2, none⟩ = some u2) (x0 x1 x2 : Value) :
    (((w.setCell ⟨b, 0, none⟩ x0).setCell ⟨b, 1, none⟩ x1).setCell ⟨b, 2, none⟩ x2).cell? ⟨b, 0, none⟩ = some x0 ∧
    (((w.setCell ⟨b, 0, none⟩ x0).setCell ⟨b, 1, none⟩ x1).setCell ⟨b, 2, none⟩ x2).cell? ⟨b, 1, none⟩ = some x1 ∧
    (((w.setCell ⟨b, 0, none⟩ x0).setCell ⟨b, 1, none⟩ x1).setCell ⟨b, 2, none⟩ x2).cell? ⟨b, 2, none⟩ = some x2 := by
  have oth : ∀ (w : World) (i j : Nat) (v : Value), i ≠ j → (w.setCell ⟨b, i, none⟩ v).cell? ⟨b, j, none⟩ = w.cell? ⟨b, j, none⟩ := fun w i j v h => World.cell?_setCell_other _ _ _ _ (by intro e; exact h (by injection e))
  refine ⟨?_, ?_, ?_⟩
  · rw [oth _ 2 0 _ (by decide), oth _ 1 0 _ (by decide)]
    exact World.cell?_setCell_same _ _ _ v0
  · rw [oth _ 2 1 _ (by decide)]
    exact World.cell?_setCell_same (u := u1) _ _ _ ((oth _ 0 1 _ (by decide)).trans v1)
  · exact World.cell?_setCell_same (u := u2) _ _ _ ((oth _ 1 2 _ (by decide)).trans ((oth _ 0 2 _ (by decide)).trans v2))

theorem Try.size103 : (Try.prog.info? 103).map (·.size) = some 3 := by kernel_rfl

/-- What the named results are read as. -/
theorem run_res70 {w : World} {a : Act} {b : Nat} (x0 x1 x2 v : Value) (h2 : a.tmps[2]? = some (.pointer (some ⟨b, 0, none⟩))) (h3 : a.tmps[3]? = some v) (c0 : w.cell? ⟨b, 0, none⟩ = some x0) (c1 : w.cell? ⟨b, 1, none⟩ = some x1) (c2 : w.cell? ⟨b, 2, none⟩ = some x2) :
    (results Try.f70 a.tmps).run Try.prog w = .ok (.tuple #[.agg #[x0, x1, x2], v]) w := by
  have hv := run_loadVar_mid (P := Try.prog) w b 0 103 [x0, x1, x2] _ (fun j v hj => by
    match j, hj with
    | 0, hj => simp at hj; subst hj; simpa using c0
    | 1, hj => simp at hj; subst hj; simpa using c1
    | 2, hj => simp at hj; subst hj; simpa using c2) Try.underlying103 rfl Try.size103
  unfold results
  simp [asAddr, h2, h3, hv]

set_option maxRecDepth 100000 in
theorem read_bad1 (ao : Option Addr) (n c : Nat) (x : List UInt8) (w : World) (hr : SlV w ao n c 1 (bvs x)) (hn : n ≤ 100000000000) (l : List Int) (k : Nat) (er : Int) (hd : decList 1 decInt x = (l, k, er)) (hbad : er = 2 ∨ er = 3) :
    Calls Try.prog 70 #[.slice ao n c] w (ReadNo w) := by
  have hne := err_ne hbad
  have HD := Lib.hid hd
  clear hd hbad
  have hb := (Below.refl w.heap.size w).alloc (Nat.le_refl _) (.cells #[.int .i64 0, .int .i64 0, .slice none 0 0] 103)
  have s0 := True.intro
  go_enter Try.func70, Try.ntmps70
  go_wp2_with (first
    | (clear s0; go_at_call 34; refine (ux_getints hb (hr.below hb (Nat.le_refl _)) (by omega) HD.out).mono ?_; rintro e w1 ⟨ya, yc, rfl, hy, hb1, hk⟩; obtain ⟨v0, v1, v2, f0, f1, f2⟩ := var3 hk; have s1 := True.intro))
  refine ⟨rfl, .tuple #[.agg #[.int .i64 0, .int .i64 0, .slice none 0 0], .bool false], run_res70 _ _ _ _ rfl rfl ?_ ?_ ?_, _, _, _, _, _, rfl, ?_⟩
  · exact (set3 v0 v1 v2 _ _ _).1
  · exact (set3 v0 v1 v2 _ _ _).2.1
  · exact (set3 v0 v1 v2 _ _ _).2.2
  exact ((hb1.setCell (Nat.le_refl _) _).setCell (Nat.le_refl _) _).setCell (Nat.le_refl _) _

set_option maxRecDepth 100000 in
theorem read_bad2 (ao : Option Addr) (n c : Nat) (x : List UInt8) (w : World) (hr : SlV w ao n c 1 (bvs x)) (hn : n ≤ 100000000000) (l : List Int) (k : Nat) (hd : decList 1 decInt x = (l, k, 0)) (hbad : l.length ≠ 2) :
    Calls Try.prog 70 #[.slice ao n c] w (ReadNo w) := by
  obtain ⟨q, hq⟩ : ∃ q, l.length = q := ⟨_, rfl⟩
  have hne : ((q : Int) != 2) = true := by simp; omega
  have HD := Lib.hid hd
  have HQ := Lib.hid hq
  clear hd hbad hq
  have hb := (Below.refl w.heap.size w).alloc (Nat.le_refl _) (.cells #[.int .i64 0, .int .i64 0, .slice none 0 0] 103)
  have s0 := True.intro
  go_enter Try.func70, Try.ntmps70
  go_wp2_with (first
    | (clear s0; go_at_call 34; refine (ux_getints hb (hr.below hb (Nat.le_refl _)) (by omega) HD.out).mono ?_; rw [HQ.out]; rintro e w1 ⟨ya, yc, rfl, hy, hb1, hk⟩; obtain ⟨v0, v1, v2, f0, f1, f2⟩ := var3 hk; have s1 := True.intro))
  refine ⟨rfl, .tuple #[.agg #[.int .i64 0, .int .i64 0, .slice none 0 0], .bool false], run_res70 _ _ _ _ rfl rfl ?_ ?_ ?_, _, _, _, _, _, rfl, ?_⟩
  · exact (set3 v0 v1 v2 _ _ _).1
  · exact (set3 v0 v1 v2 _ _ _).2.1
  · exact (set3 v0 v1 v2 _ _ _).2.2
  exact ((hb1.setCell (Nat.le_refl _) _).setCell (Nat.le_refl _) _).setCell (Nat.le_refl _) _

set_option maxRecDepth 100000 in
theorem read_bad3 (ao : Option Addr) (n c : Nat) (x : List UInt8) (w : World) (hr : SlV w ao n c 1 (bvs x)) (hn : n ≤ 100000000000) (seq ack : Int) (k : Nat) (hd : decList 1 decInt x = ([seq, ack], k, 0)) (s : ByteArray) (m : Nat) (f : Int) (hd2 : decBytes (x.drop k) = (s, m, f)) (hm : m ≤ 100000000000) (hbad : (f != 0) = true ∨ (f = 0 ∧ k + m ≠ n)) :
    Calls Try.prog 70 #[.slice ao n c] w (ReadNo w) := by
  have hxn : x.length = n := by have := hr.len; simpa using this
  have hkn : k ≤ n := by have := (ints_canon hd).2.1; omega
  have HD := Lib.hid hd
  have HD2 := Lib.hid hd2
  clear hd hd2 hxn
  have hb := (Below.refl w.heap.size w).alloc (Nat.le_refl _) (.cells #[.int .i64 0, .int .i64 0, .slice none 0 0] 103)
  rcases hbad with hne | ⟨rfl, hkm⟩
  · have s0 := True.intro
    go_enter Try.func70, Try.ntmps70
    go_wp2_with (first
      | (clear s0; go_at_call 34; refine (ux_getints hb (hr.below hb (Nat.le_refl _)) (by omega) HD.out).mono ?_; rintro e w1 ⟨ya, yc, rfl, hy, hb1, hk⟩; have s1 := True.intro)
      | (clear s1; refine cut_from rfl 28 (.tmp 25) (.tmp 26) rfl 5 1 Try.underlying28 Try.size5 _ _ _ _ rfl (hr.below hb1 (Nat.le_refl _)) k _ rfl rfl hkn ?_; intro ao5 hs5; replace hs5 := slv_drop hs5; have s2 := True.intro)
      | (clear s2; go_at_call 32; refine (ux_getbytes hb1 hs5 (by omega) HD2.out).mono ?_; rintro e w2 ⟨rfl, hb2, hk2⟩; obtain ⟨v0, v1, v2, f0, f1, f2⟩ := var3 (hk.trans (hk2.mono hk.size)); have s3 := True.intro))
    refine ⟨rfl, .tuple #[.agg #[.int .i64 0, .int .i64 0, .slice none 0 0], .bool false], run_res70 _ _ _ _ rfl rfl ?_ ?_ ?_, _, _, _, _, _, rfl, ?_⟩
    · exact (set3 v0 v1 v2 _ _ _).1
    · exact (set3 v0 v1 v2 _ _ _).2.1
    · exact (set3 v0 v1 v2 _ _ _).2.2
    exact ((hb2.setCell (Nat.le_refl _) _).setCell (Nat.le_refl _) _).setCell (Nat.le_refl _) _
  · have hne : ((k : Int) + (m : Int) != (n : Int)) = true := by simp; omega
    have s0 := True.intro
    go_enter Try.func70, Try.ntmps70
    go_wp2_with (first
      | (clear s0; go_at_call 34; refine (ux_getints hb (hr.below hb (Nat.le_refl _)) (by omega) HD.out).mono ?_; rintro e w1 ⟨ya, yc, rfl, hy, hb1, hk⟩; have s1 := True.intro)
      | (clear s1; refine cut_from rfl 28 (.tmp 25) (.tmp 26) rfl 5 1 Try.underlying28 Try.size5 _ _ _ _ rfl (hr.below hb1 (Nat.le_refl _)) k _ rfl rfl hkn ?_; intro ao5 hs5; replace hs5 := slv_drop hs5; have s2 := True.intro)
      | (clear s2; go_at_call 32; refine (ux_getbytes hb1 hs5 (by omega) HD2.out).mono ?_; rintro e w2 ⟨rfl, hb2, hk2⟩; obtain ⟨v0, v1, v2, f0, f1, f2⟩ := var3 (hk.trans (hk2.mono hk.size)); have s3 := True.intro))
    refine ⟨rfl, .tuple #[.agg #[.int .i64 0, .int .i64 0, .slice none 0 0], .bool false], run_res70 _ _ _ _ rfl rfl ?_ ?_ ?_, _, _, _, _, _, rfl, ?_⟩
    · exact (set3 v0 v1 v2 _ _ _).1
    · exact (set3 v0 v1 v2 _ _ _).2.1
    · exact (set3 v0 v1 v2 _ _ _).2.2
    exact ((hb2.setCell (Nat.le_refl _) _).setCell (Nat.le_refl _) _).setCell (Nat.le_refl _) _

end Go.Proofs.Ytcpemgfpiapaaaa

namespace Go.Proofs.Ytcpemgfpiapaaaa
open Go.RowKit

set_option maxRecDepth 100000 in
set_option maxHeartbeats 1000000 in
theorem read_ok (ao : Option Addr) (n c : Nat) (x : List UInt8) (w : World) (hr : SlV w ao n c 1 (bvs x)) (hn : n ≤ 100000000000) (seq ack : Int) (k : Nat) (hd : decList 1 decInt x = ([seq, ack], k, 0)) (s : ByteArray) (m : Nat) (hd2 : decBytes (x.drop k) = (s, m, 0)) (hkm : k + m = n) :
    Calls Try.prog 70 #[.slice ao n c] w (fun e w' => ∃ a c', e = .returned (.tuple #[.agg #[.int .i64 seq, .int .i64 ack, .slice a s.size c'], .bool (validN seq ack s.size)]) ∧ SlV w' a s.size c' 1 (bvs s.data.toList) ∧ (∀ x, a = some x → w.heap.size ≤ x.block) ∧ Below w.heap.size w w') := by
  have hxn : x.length = n := by have := hr.len; simpa using this
  have hkn : k ≤ n := by have := (ints_canon hd).2.1; omega
  have hss : s.size ≤ 100000000000 := by have := (bytes_canon hd2).2.2; rw [List.length_drop] at this; omega
  have HD := Lib.hid hd
  have HD2 := Lib.hid hd2
  clear hd hd2 hxn
  have hb := (Below.refl w.heap.size w).alloc (Nat.le_refl _) (.cells #[.int .i64 0, .int .i64 0, .slice none 0 0] 103)
  have hne : ((k : Int) + (m : Int) != (n : Int)) = false := by simp; omega
  have s0 := True.intro
  go_enter Try.func70, Try.ntmps70
  go_wp2_with (first
    | (clear s0; go_at_call 34; refine (ux_getints hb (hr.below hb (Nat.le_refl _)) (by omega) HD.out).mono ?_; rintro e w1 ⟨ya, yc, rfl, hy, hb1, hk⟩; have s1 := True.intro)
    | (clear s1; refine cut_from rfl 28 (.tmp 25) (.tmp 26) rfl 5 1 Try.underlying28 Try.size5 _ _ _ _ rfl (hr.below hb1 (Nat.le_refl _)) k _ rfl rfl hkn ?_; intro ao5 hs5; replace hs5 := slv_drop hs5; have s2 := True.intro)
    | (clear s2; go_at_call 32; refine (ux_getbytes hb1 hs5 (by omega) HD2.out).mono ?_; rintro e w2 ⟨rfl, hb2, hk2⟩; obtain ⟨v0, v1, v2, f0, f1, f2⟩ := var3 (hk.trans (hk2.mono hk.size)); have s3 := True.intro))
  obtain ⟨ya, rfl⟩ := hy.has (by simp)
  have hy2 := hy.below hk2 (Nat.le_refl _)
  have y0 : w2.cell? ya = some (.int .i64 seq) := hy2.cell ya rfl 0 _ rfl
  have y1 : w2.cell? ⟨ya.block, ya.off + 1, none⟩ = some (.int .i64 ack) := hy2.cell ya rfl 1 _ rfl
  obtain ⟨sa, sc, W3, hcv, hs3, hb3, hblk3⟩ := cv_run2 w2.drew s (by omega)
  obtain ⟨sb, sd, W4, hcv4, hs4, hb4, hblk⟩ := cv_run2 (w2.alloc (.cells #[.int .i64 0, .int .i64 0, .slice none 0 0] 103)).drew s (by omega)
  have k0 : Below w2.heap.size w2 w2.drew := (Below.refl _ _).drew
  have k1 : Below w2.heap.size w2 W3 := k0.trans hb3
  have ka : Below (w2.alloc (.cells #[.int .i64 0, .int .i64 0, .slice none 0 0] 103)).heap.size (w2.alloc (.cells #[.int .i64 0, .int .i64 0, .slice none 0 0] 103)) W4 := ((Below.refl _ _).drew).trans hb4
  have k2 : Below w2.heap.size w2 (w2.alloc (.cells #[.int .i64 0, .int .i64 0, .slice none 0 0] 103)).drew := ((Below.refl _ _).alloc (Nat.le_refl _) _).drew
  have k3 : Below w2.heap.size w2 W4 := k2.trans (hb4.mono (by simp))
  obtain ⟨z0, z1, z2, g0, g1, g2⟩ := var3 ka
  have hob : ∀ i a, sb = some a → a.block ≠ (⟨w2.heap.size, i, none⟩ : Addr).block := fun i a ha => by have := hblk a ha; simp at this; show a.block ≠ w2.heap.size; omega
  have hS : ∀ w' : World, Below w2.heap.size w2 w' → w'.cell? ya = some (.int .i64 seq) ∧ w'.cell? ⟨ya.block, ya.off + 1, none⟩ = some (.int .i64 ack) := fun w' h => ⟨cell_later h y0, cell_later h y1⟩
  go_cut [9] (fun p wx => ∃ b ta tc, p = .pointer (some ⟨b, 0, none⟩) ∧ w2.heap.size ≤ b ∧ wx.cell? ⟨b, 0, none⟩ = some (.int .i64 seq) ∧ wx.cell? ⟨b, 1, none⟩ = some (.int .i64 ack) ∧ wx.cell? ⟨b, 2, none⟩ = some (.slice ta s.size tc) ∧ SlV wx ta s.size tc 1 (bvs s.data.toList) ∧ (∀ a, ta = some a → w2.heap.size ≤ a.block) ∧ Below w2.heap.size w2 wx)
  case first =>
    go_region_held (fun w' => w'.cell? ya = some (.int .i64 seq) ∧ w'.cell? ⟨ya.block, ya.off + 1, none⟩ = some (.int .i64 ack)) (first | exact hS _ k0 | exact hS _ k1 | exact hS _ k2 | exact hS _ k3 | exact hS _ (k1.alloc k1.size _) | exact hS _ (((k3.setCell (Nat.le_refl _) _).setCell (Nat.le_refl _) _).setCell (Nat.le_refl _) _)) (first | fail)
    all_goals go_wp2_with fail
    · go_meet
      exact ⟨_, sa, sc, rfl, k1.size, by simp, by simp, by simp, hs3.below ((Below.refl _ _).alloc (Nat.le_refl _) _) (Nat.le_refl _), fun a h => by simpa using hblk3 a h, k1.alloc k1.size _⟩
    · go_meet
      exact ⟨_, sb, sd, rfl, Nat.le_refl _, (set3 z0 z1 z2 _ _ _).1, (set3 z0 z1 z2 _ _ _).2.1, (set3 z0 z1 z2 _ _ _).2.2, ((hs4.set (hob 0) _).set (hob 1) _).set (hob 2) _, fun a h => by have := hblk a h; simp at this; omega, ((k3.setCell (Nat.le_refl _) _).setCell (Nat.le_refl _) _).setCell (Nat.le_refl _) _⟩
  case rest =>
    obtain ⟨b, ta, tc, rfl, hbk, t0, t1, t2, hts, htb, kx⟩ := hcut
    clear g0 g1 g2 z0 z1 z2 k3 k2 ka k1 k0 hcv hcv4 hs3 hs4 hb3 hb4 hS y0 y1 hob hblk hblk3 v0 v1 v2 f0 f1 f2
    have hbx := hb2.trans (kx.mono hb2.size)
    obtain ⟨v0, v1, v2, f0, f1, f2⟩ := var3 (hk.trans ((hk2.trans (kx.mono hk2.size)).mono hk.size))
    have hld := run_loadVar_mid (P := Try.prog) wc b 0 103 [.int .i64 seq, .int .i64 ack, .slice ta s.size tc] _ (fun j v hj => by
      match j, hj with
      | 0, hj => simp at hj; subst hj; simpa using t0
      | 1, hj => simp at hj; subst hj; simpa using t1
      | 2, hj => simp at hj; subst hj; simpa using t2) Try.underlying103 rfl Try.size103
    go_wp2_with fail
    have hbl : b < wc.heap.size := World.block_lt_of_cell? _ _ t0
    have hwk : w.heap.size < b := by have := hk.size; have := hk2.size; simp at *; omega
    have hbe : (w.heap.size = b) = False := by simp; omega
    have hS : ∀ u u' : World, (u.cell? ⟨b, 0, none⟩ = some (.int .i64 seq) ∧ u.cell? ⟨b, 1, none⟩ = some (.int .i64 ack) ∧ u.cell? ⟨b, 2, none⟩ = some (.slice ta s.size tc)) → wc.heap.size ≤ u.heap.size → Below u.heap.size u u' → (u'.cell? ⟨b, 0, none⟩ = some (.int .i64 seq) ∧ u'.cell? ⟨b, 1, none⟩ = some (.int .i64 ack) ∧ u'.cell? ⟨b, 2, none⟩ = some (.slice ta s.size tc)) := fun u u' h hu hb => ⟨cell_later hb h.1, cell_later hb h.2.1, cell_later hb h.2.2⟩
    have j0 : Below wc.heap.size wc wc.drew := (Below.refl _ _).drew
    have hS2 : ∀ u : World, Below wc.heap.size wc u → (u.cell? ⟨w.heap.size, 0, none⟩ = some (.int .i64 0) ∧ u.cell? ⟨w.heap.size, 1, none⟩ = some (.int .i64 0) ∧ u.cell? ⟨w.heap.size, 2, none⟩ = some (.slice none 0 0) ∧ u.frozen? ⟨w.heap.size, 0, none⟩ = false ∧ u.frozen? ⟨w.heap.size, 1, none⟩ = false ∧ u.frozen? ⟨w.heap.size, 2, none⟩ = false) := fun u h => var3 ((hk.trans ((hk2.trans (kx.mono hk2.size)).mono hk.size)).trans (h.mono (by have := hk.size; have := hk2.size; have := kx.size; omega)))
    go_region_held (fun w' => w'.cell? ⟨b, 0, none⟩ = some (.int .i64 seq) ∧ w'.cell? ⟨b, 1, none⟩ = some (.int .i64 ack) ∧ w'.cell? ⟨b, 2, none⟩ = some (.slice ta s.size tc)) (first | exact m0 | go_keep) (first | (go_at_call 79; refine (valid_any seq ack ta s.size tc _ (by omega)).mono ?_; rintro e w5 ⟨rfl, hb5⟩; have m0 := hS _ _ (by first | assumption | (simp [*]; done)) (by simp) hb5; try obtain ⟨q0, q1, q2, r0, r1, r2⟩ := hS2 _ (j0.trans hb5)))
    all_goals go_wp2_with fail
    have hts2 : ∀ u : World, Below wc.heap.size wc u → SlV u ta s.size tc 1 (bvs s.data.toList) := fun u h => hts.below h (Nat.le_refl _)
    have hob : ∀ i a, ta = some a → a.block ≠ (⟨w.heap.size, i, none⟩ : Addr).block := fun i a ha => by have := htb a ha; have := hk.size; have := hk2.size; simp at *; show a.block ≠ w.heap.size; omega
    · exact ⟨rfl, _, run_res70 _ _ _ _ rfl rfl (set3 q0 q1 q2 _ _ _).1 (set3 q0 q1 q2 _ _ _).2.1 (set3 q0 q1 q2 _ _ _).2.2, ta, tc, rfl, (((hts2 _ (j0.trans hb5)).set (hob 0) _).set (hob 1) _).set (hob 2) _, fun x hx => Nat.le_trans hb2.size (htb x hx), ((hbx.trans ((j0.trans hb5).mono hbx.size)).setCell (Nat.le_refl _) _).setCell (Nat.le_refl _) _ |>.setCell (Nat.le_refl _) _⟩


end Go.Proofs.Ytcpemgfpiapaaaa

namespace Go.Proofs.Ytcpemgfpiapaaaa
open Go.RowKit

/-- What read gives. -/
def ReadP (W : World) (r : Option (Int × Int × List UInt8)) (e : Ending) (w' : World) : Prop :=
  match r with
  | none => ReadNo W e w'
  | some (seq, ack, l) => ∃ a c, e = .returned (.tuple #[.agg #[.int .i64 seq, .int .i64 ack, .slice a l.length c], .bool true]) ∧ SlV w' a l.length c 1 (bvs l) ∧ (∀ x, a = some x → W.heap.size ≤ x.block) ∧ Below W.heap.size W w'

theorem decN_good {α : Type} {dec : List UInt8 → α × Nat × Int} (hgood : ∀ (l : List UInt8) x k e, dec l = (x, k, e) → (e = 0 ∨ e = 2 ∨ e = 3) ∧ (e = 0 → k ≤ l.length)) (N : Nat) : ∀ l : List UInt8, (decN dec N l).2.2 = 0 ∨ (decN dec N l).2.2 = 2 ∨ (decN dec N l).2.2 = 3 := by
  induction N with
  | zero => intro l; simp [decN]
  | succ N ih =>
    intro l
    have hg := (hgood l _ _ _ rfl).1
    have i1 := ih (l.drop (dec l).2.1)
    unfold decN
    split
    · exact hg
    · split
      · exact i1
      · exact .inl rfl

theorem decList_good {α : Type} {size : Nat} {dec : List UInt8 → α × Nat × Int} (hgood : ∀ (l : List UInt8) x k e, dec l = (x, k, e) → (e = 0 ∨ e = 2 ∨ e = 3) ∧ (e = 0 → k ≤ l.length)) {l : List UInt8} {xs : List α} {k : Nat} {e : Int} (h : decList size dec l = (xs, k, e)) : e = 0 ∨ e = 2 ∨ e = 3 := by
  obtain ⟨N, j, f, hq⟩ : ∃ N j f, decCount size l = (N, j, f) := ⟨_, _, _, rfl⟩
  by_cases hf : f = 0
  · subst hf
    have hs := (decList_start h hq).out
    have hg := decN_good hgood N (l.drop j)
    unfold joinN at hs
    split at hs <;> simp only [Prod.mk.injEq] at hs <;> omega
  · have := decList_bad h hq hf
    simp only [Prod.mk.injEq] at this
    have := (count_bad hq hf).2.2.1
    omega

theorem bytes_bad {l : List UInt8} {s : ByteArray} {k : Nat} {e : Int} (h : decBytes l = (s, k, e)) (he : e ≠ 0) : k = 0 := by
  unfold decBytes at h
  dsimp only at h
  obtain ⟨N, j, f, hq⟩ : ∃ N j f, decCount 1 l = (N, j, f) := ⟨_, _, _, rfl⟩
  rw [hq] at h
  by_cases hf : f = 0
  · subst hf
    rw [if_neg (by simp)] at h
    simp only [Prod.mk.injEq] at h
    omega
  · rw [if_pos (by simpa using hf)] at h
    simp only [Prod.mk.injEq] at h
    omega

theorem validN_iff (seq ack : Int) (l : List UInt8) : validN seq ack l.length = decide (validP seq ack l) := rfl

theorem read_any (ao : Option Addr) (n c : Nat) (x : List UInt8) (w : World) (hr : SlV w ao n c 1 (bvs x)) (hn : n ≤ 100000000000) (r : Option (Int × Int × List UInt8)) (hR : readB x = r) :
    Calls Try.prog 70 #[.slice ao n c] w (ReadP w r) := by
  have hxn : x.length = n := by have := hr.len; simpa using this
  obtain ⟨xs, k, e, hd⟩ : ∃ xs k e, decList 1 decInt x = (xs, k, e) := ⟨_, _, _, rfl⟩
  unfold readB at hR
  rw [hd] at hR
  have he := decList_good (fun _ _ _ _ h => intDec_good h) hd
  by_cases he0 : e = 0
  · subst he0
    by_cases hl : xs.length = 2
    · obtain ⟨seq, ack, rfl⟩ : ∃ a b, xs = [a, b] := by
        match xs, hl with
        | [a, b], _ => exact ⟨a, b, rfl⟩
      obtain ⟨s, m, f, hd2⟩ : ∃ s m f, decBytes (x.drop k) = (s, m, f) := ⟨_, _, _, rfl⟩
      have hkx : k ≤ x.length := (ints_canon hd).2.1
      simp only [hd2] at hR
      by_cases hf : f = 0
      · subst hf
        simp only at hR
        by_cases hkm : k + m = n
        · have hc := read_ok ao n c x w hr hn seq ack k hd s m hd2 hkm
          have hsz : s.data.toList.length = s.size := by simp
          by_cases hv : validP seq ack s.data.toList
          · rw [if_pos ⟨by omega, hv⟩] at hR
            subst hR
            refine hc.mono ?_
            rintro e w' ⟨a, c', rfl, h1, h3, h2⟩
            have e1 : validN seq ack s.size = true := by rw [← hsz, validN_iff]; simpa using hv
            exact ⟨a, c', by rw [hsz, e1], by rw [hsz]; exact h1, h3, h2⟩
          · rw [if_neg (fun h => hv h.2)] at hR
            subst hR
            refine hc.mono ?_
            rintro e w' ⟨a, c', rfl, h1, h3, h2⟩
            have e1 : validN seq ack s.size = false := by rw [← hsz, validN_iff]; simpa using hv
            exact ⟨_, _, _, _, _, by rw [e1], h2⟩
        · rw [if_neg (fun h => hkm (by omega))] at hR
          subst hR
          have hm : m ≤ n := by have := (bytesDec_good hd2).2 rfl; rw [List.length_drop] at this; omega
          exact read_bad3 ao n c x w hr hn seq ack k hd s m 0 hd2 (by omega) (.inr ⟨rfl, hkm⟩)
      · have hR' : r = none := by
          rw [← hR]; split <;> simp_all
        subst hR'
        have hm : m = 0 := bytes_bad hd2 hf
        exact read_bad3 ao n c x w hr hn seq ack k hd s m f hd2 (by omega) (.inl (by simpa using hf))
    · have hR' : r = none := by
        rw [← hR]
        match xs, hl with
        | [], _ => rfl
        | [_], _ => rfl
        | _ :: _ :: _ :: _, _ => rfl
      subst hR'
      exact read_bad2 ao n c x w hr hn xs k hd hl
  · have hR' : r = none := by
      rw [← hR]; split <;> simp_all
    subst hR'
    exact read_bad1 ao n c x w hr hn xs k e hd (by omega)

theorem read_valid {m : List UInt8} {seq ack : Int} {l : List UInt8} (h : readB m = some (seq, ack, l)) : validP seq ack l := by
  unfold readB at h
  split at h
  · split at h
    · split at h
      · rename_i hc
        simp only [Option.some.injEq, Prod.mk.injEq] at h
        obtain ⟨rfl, rfl, rfl⟩ := h
        exact hc.2
      · cases h
    · cases h
  · cases h

end Go.Proofs.Ytcpemgfpiapaaaa
