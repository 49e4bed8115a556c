/- The comparison of two slices of digests. -/
import Derived.Test.YtcpemgfpiapaaaaArr
import Derived.Test.YtcpemgfpiapaaaaSame
namespace Go.Proofs.Ytcpemgfpiapaaaa
open Go.RowKit

theorem Try.info90 : (Try.prog.info? 90).map (fun i => (i.zero, i.size, i.bytes)) = some (some (.agg (Array.replicate 16 (.int .u8 0))), 16, 16) := by kernel_rfl
theorem Try.size90 : (Try.prog.info? 90).map (·.size) = some 16 := by kernel_rfl

/-- The cells of digests. -/
def dvs (l : List (List UInt8)) : List Value := (l.map bvs).flatten

/-- Each is a digest. -/
def Digs (l : List (List UInt8)) : Prop := ∀ d ∈ l, d.length = 16

theorem Digs.at {l : List (List UInt8)} (h : Digs l) {k : Nat} (hk : k < l.length) : l[k].length = 16 := h _ (List.getElem_mem hk)

theorem dvs_at {l : List (List UInt8)} (h : Digs l) {k : Nat} (hk : k < l.length) : ∀ j u, (bvs l[k])[j]? = some u → (dvs l)[k * 16 + j]? = some u := by
  induction l generalizing k with
  | nil => simp at hk
  | cons d l ih =>
    intro j u hj
    have hd : d.length = 16 := h d (by simp)
    have hj16 : j < 16 := by
      have := (List.getElem?_eq_some_iff.1 hj).1
      rw [bvs_length, h.at hk] at this
      exact this
    cases k with
    | zero =>
      simp only [dvs, List.map_cons, List.flatten_cons]
      rw [List.getElem?_append_left (by simp [hd]; omega)]
      simpa using hj
    | succ k =>
      simp only [dvs, List.map_cons, List.flatten_cons]
      rw [List.getElem?_append_right (by simp [hd]; omega)]
      have := ih (fun x hx => h x (by simp [hx])) (by simpa using hk) j u (by simpa using hj)
      simp only [bvs_length, hd]
      rw [show (k + 1) * 16 + j - 16 = k * 16 + j by omega]
      exact this

theorem slv_digest {w : World} {a : Addr} {n cap : Nat} {l : List (List UInt8)} (h : SlV w (some a) n cap 16 (dvs l)) (hd : Digs l) {k : Nat} (hk : k < l.length) : ∀ j u, (bvs l[k])[j]? = some u → w.cell? ((a.add (k * 16)).add j) = some u := by
  intro j u hj
  rw [add_add]
  exact h.cell a rfl _ _ (dvs_at hd hk j u hj)

theorem dvs_length {l : List (List UInt8)} (h : Digs l) : (dvs l).length = l.length * 16 := by
  induction l with
  | nil => rfl
  | cons d l ih =>
    have := ih (fun x hx => h x (by simp [hx]))
    simp only [dvs, List.map_cons, List.flatten_cons, List.length_append, bvs_length] at *
    rw [this, h d (by simp), List.length_cons]
    omega

/-- What one round of the comparison knows of the two digests. -/
theorem dig_pair {w : World} {a a' : Addr} {n c1 c2 k : Nat} {l m : List (List UInt8)} (h1 : SlV w (some a) n c1 16 (dvs l)) (h2 : SlV w (some a') n c2 16 (dvs m)) (d1 : Digs l) (d2 : Digs m) (q1 : k < l.length) (q2 : k < m.length) (hkk : Hid (l.take k = m.take k)) (wd : World) (hwd : wd.heap = w.heap) :
    ∃ x y : List UInt8, Hid (x.length = 16) ∧ Hid (y.length = 16) ∧
      Hid (∀ wx, (∃ n, wx = wd.drewN n) → (Instr.loadAt 90 (.pointer (some (a.add (k * 16))))).run Try.prog wx = .ok (.agg (bvs x).toArray) wx) ∧
      Hid (∀ wx, (∃ n, wx = wd.drewN n) → (Instr.loadAt 90 (.pointer (some (a'.add (k * 16))))).run Try.prog wx = .ok (.agg (bvs y).toArray) wx) ∧
      (x = y → Hid (l.take (k + 1) = m.take (k + 1))) ∧ (¬ x = y → l ≠ m) := by
  have hc : ∀ n p, (wd.drewN n).cell? p = w.cell? p := fun n p => by show World.cell? _ p = _; simp [World.cell?, hwd]
  refine ⟨l[k], m[k], d1.at q1, d2.at q2, ?_, ?_, fun h => take_next q1 q2 hkk h, fun h => ne_of_at q1 q2 h⟩
  · rintro wx ⟨n, rfl⟩
    exact run_loadAt_bytes _ (a.add (k * 16)) 90 16 Try.underlying90 Try.size90 l[k] (d1.at q1) (fun j u hj => (hc n _).trans (slv_digest h1 d1 q1 j u hj))
  · rintro wx ⟨n, rfl⟩
    exact run_loadAt_bytes _ (a'.add (k * 16)) 90 16 Try.underlying90 Try.size90 m[k] (d2.at q2) (fun j u hj => (hc n _).trans (slv_digest h2 d2 q2 j u hj))

set_option maxHeartbeats 400000 in
theorem sameDigests_eq (ao bo : Option Addr) (n c1 c2 : Nat) (l m : List (List UInt8)) (w : World) (h1 : SlV w ao n c1 16 (dvs l)) (h2 : SlV w bo n c2 16 (dvs m)) (d1 : Digs l) (d2 : Digs m) (b : Bool) (hb : Hid (b = decide (l = m))) :
    Calls Try.prog 42 #[.slice ao n c1, .slice bo n c2] w (Looks w (.bool b)) := by
  have t1 : n ≤ maxLen := Nat.le_trans h1.le h1.top
  unfold maxLen at t1
  have l1 : Hid (l.length = n) := Lib.hid (by have := h1.len; rw [dvs_length d1] at this; omega)
  have l2 : Hid (m.length = n) := Lib.hid (by have := h2.len; rw [dvs_length d2] at this; omega)
  go_enter Try.func42, Try.ntmps42
  go_wp2
  go_loopw [5] (fun i wr => ∃ (k d : Nat), k ≤ n ∧ i = .int .i64 k ∧ wr = w.drewN d ∧ Hid (l.take k = m.take k)) (fun i _ => n - (intOf i).toNat)
  case atStart => exact ⟨0, 0, by omega, rfl, rfl, by simp [Hid]⟩
  case round =>
    obtain ⟨k, d, hk, rfl, rfl, hkk⟩ := hrel
    by_cases hlt : k < n
    · obtain ⟨a, rfl⟩ := h1.has (by omega)
      obtain ⟨a', rfl⟩ := h2.has (by omega)
      have q1 : k < l.length := by rw [l1.out]; exact hlt
      have q2 : k < m.length := by rw [l2.out]; exact hlt
      obtain ⟨x, y, R1, R2, E1, E2, HN, HF⟩ := dig_pair h1 h2 d1 d2 q1 q2 hkk (w.drewN d) rfl
      clear q1 q2
      by_cases hxy : x = y
      · have HN := HN hxy
        have HB : Hid (false = !decide (x = y)) := Lib.hid (by simp [hxy])
        clear hxy HF
        go_wp2
        refine wp_region_quiet_lit (by kernel_rfl) (by kernel_rfl) ?_
        iterate 3 (quiet_step (fail))
        refine wpQuiet_load rfl 90 (.tmp 19) rfl _ _ rfl E1.out ?_
        iterate 3 (quiet_step (fail))
        refine wpQuiet_load rfl 90 (.tmp 23) rfl _ _ rfl E2.out ?_
        refine wpQuiet_neq rfl 90 90 (.tmp 20) (.tmp 24) rfl 16 Try.underlying90 (by kernel_rfl) _ _ R1.out R2.out rfl rfl false HB.out ?_
        refine wpQuiet_nil ?_
        intro _ hw'
        obtain ⟨nq, hw''⟩ := hw'
        subst hw''
        go_wp2
        go_roundw
        case rel => exact ⟨k + 1, _, by omega, by go_num, rfl, HN⟩
        case measure => simp [intOf]; omega
      · have HB : Hid (true = !decide (x = y)) := Lib.hid (by simp [hxy])
        have hbf : b = false := by
          rw [hb.out, decide_eq_false]
          exact HF hxy
        subst hbf
        clear hxy HN HF hb
        go_wp2
        refine wp_region_quiet_lit (by kernel_rfl) (by kernel_rfl) ?_
        iterate 3 (quiet_step (fail))
        refine wpQuiet_load rfl 90 (.tmp 19) rfl _ _ rfl E1.out ?_
        iterate 3 (quiet_step (fail))
        refine wpQuiet_load rfl 90 (.tmp 23) rfl _ _ rfl E2.out ?_
        refine wpQuiet_neq rfl 90 90 (.tmp 20) (.tmp 24) rfl 16 Try.underlying90 (by kernel_rfl) _ _ R1.out R2.out rfl rfl true HB.out ?_
        refine wpQuiet_nil ?_
        intro _ hw'
        obtain ⟨nq, hw''⟩ := hw'
        subst hw''
        go_wp2
        go_ret
        exact ⟨rfl, d + nq, rfl⟩
    · obtain rfl : k = n := by omega
      have hbt : b = true := by
        rw [hb.out, decide_eq_true]
        exact eq_of_take l1.out l2.out hkk.out
      subst hbt
      clear hb
      go_wp2
      go_ret
      exact ⟨rfl, _, rfl⟩

theorem sameDigests_len (ao bo : Option Addr) (n n' c1 c2 : Nat) (w : World) (hne : (((n : Int) != (n' : Int))) = true) :
    Calls Try.prog 42 #[.slice ao n c1, .slice bo n' c2] w (Looks w (.bool false)) := by
  go_enter Try.func42, Try.ntmps42
  go_wp2
  go_ret
  exact ⟨rfl, 0, rfl⟩

/-- dioramaref01.SameDigests. -/
theorem sameDigests_any (ao bo : Option Addr) (n n' c1 c2 : Nat) (l m : List (List UInt8)) (w : World) (h1 : SlV w ao n c1 16 (dvs l)) (h2 : SlV w bo n' c2 16 (dvs m)) (d1 : Digs l) (d2 : Digs m) (b : Bool) (hb : b = decide (l = m)) :
    Calls Try.prog 42 #[.slice ao n c1, .slice bo n' c2] w (Looks w (.bool b)) := by
  have l1 : l.length = n := by have := h1.len; rw [dvs_length d1] at this; omega
  have l2 : m.length = n' := by have := h2.len; rw [dvs_length d2] at this; omega
  by_cases hn : n = n'
  · subst hn
    exact sameDigests_eq ao bo n c1 c2 l m w h1 h2 d1 d2 b hb
  · have : b = false := by
      rw [hb, decide_eq_false]
      intro e
      subst e
      omega
    rw [this]
    exact sameDigests_len ao bo n n' c1 c2 w (by simp; omega)

end Go.Proofs.Ytcpemgfpiapaaaa
