/- wire.GetInts, which reads by a closure, decodes as the plain decoder does. -/
import Derived.Test.YtcpemgfpiapaaaaDecL
namespace Go.Proofs.Ytcpemgfpiapaaaa
open Go.RowKit

/-- What the closure of the reader gives. -/
def CloRet (W : World) (q : Nat) (x : Int) (at' : Nat) (e : Int) (en : Ending) (w' : World) : Prop :=
  en = .returned (.tuple #[.int .i64 x, .int .i64 (at' : Int), .int .i64 e]) ∧ ∃ (w1 : World) (nq : Nat), Below W.heap.size W w1 ∧ w' = (w1.setCell ⟨q, 0, none⟩ (.int .i64 (at' : Int))).drewN nq

set_option maxHeartbeats 400000 in
theorem clo_any (p q : Nat) (ao : Option Addr) (n c at0 : Nat) (l : List UInt8) (w : World) (hp : w.heap[p]? = some (.cells #[.slice ao n c] 28 (0, 0))) (hq : w.heap[q]? = some (.cells #[.int .i64 (at0 : Int)] 3 (0, 0))) (hr : SlV w ao n c 1 (bvs l)) (hbd : n ≤ 1000000000000) (hat : at0 ≤ n) (x : Int) (k : Nat) (e : Int) (hd : Hid (decInt (l.drop at0) = (x, k, e))) :
    Calls Try.prog 77 #[.pointer (some ⟨p, 0, none⟩), .pointer (some ⟨q, 0, none⟩)] w (CloRet w q x (at0 + k) e) := by
  have hk : k ≤ n := by
    have hl : l.length = n := by have := hr.len; simpa using this
    by_cases he : e = 0
    · subst he; have := (dec_canon hd.out).2.1; simp at this; omega
    · have := ((dec_err hd.out).2 he).2; omega
  have cp := cell_of_one hp
  have cq := cell_of_one hq
  have fq := free_of_one hq
  have lq := lt_of_block hq
  have HQ := Lib.hid hq
  clear hp hq
  go_enter Try.func77, Try.ntmps77
  go_wp2_with (first | (refine cut_from rfl 28 (.tmp 9) (.tmp 10) rfl 5 1 Try.underlying28 Try.size5 _ _ _ _ rfl hr at0 _ rfl rfl hat ?_; intro ao' hsl; have hsl' := slv_drop hsl) | (go_at_call 30; refine (getint_any _ _ _ _ _ hsl' _ _ _ hd.out).mono ?_; rintro en w2 ⟨rfl, hb2⟩; have cq2 := cell_later hb2 cq; have fq2 := (hb2.frozen (p := ⟨q, 0, none⟩) lq).trans fq))
  go_quiet (fail)
  go_wp2
  go_ret3
  exact ⟨by go_num, w2, _, hb2, rfl⟩

theorem reader_any (ao : Option Addr) (n c : Nat) (at0 : Int) (w : World) : Calls Try.prog 66 #[.slice ao n c, .int .i64 at0] w fun e w' => e = .returned (.func (.func 77) #[] #[.pointer (some ⟨w.heap.size, 0, none⟩), .pointer (some ⟨w.heap.size + 1, 0, none⟩)]) ∧ w' = (w.alloc (.cells #[.slice ao n c] 28)).alloc (.cells #[.int .i64 at0] 3) := by
  have hmf : ∀ (fn : Fn) (first cap : Array Value) (w : World), (Instr.makeFunc fn first cap).run Try.prog w = .ok (.func fn first cap) w := fun _ _ _ _ => rfl
  go_enter Try.func66, Try.ntmps66
  go_wp2
  go_ret
  exact ⟨rfl, rfl⟩

/-- The two variables of the reader. -/
def Clo (w : World) (P : Nat) (v : Value) (m : Nat) : Prop := w.heap[P]? = some (.cells #[v] 28 (0, 0)) ∧ w.heap[P + 1]? = some (.cells #[.int .i64 (m : Int)] 3 (0, 0))

theorem clo_start (w : World) (v : Value) (m : Nat) : Clo ((w.alloc (.cells #[v] 28)).alloc (.cells #[.int .i64 (m : Int)] 3)) w.heap.size v m := by
  constructor
  · rw [Below.heap_alloc _ _ _ (by simp)]; exact heap_alloc_new w _
  · have := heap_alloc_new (w.alloc (.cells #[v] 28)) (.cells #[.int .i64 (m : Int)] 3)
    simpa using this

theorem clo_below {w w' : World} {P : Nat} {v : Value} {m : Nat} (h : Clo w P v m) (hb : Below (P + 2) w w') : Clo w' P v m :=
  ⟨(hb.block P (by omega)).trans h.1, (hb.block (P + 1) (by omega)).trans h.2⟩

/-- The world behind a call of the reader. -/
theorem clo_after {wr wa : World} {P B e n : Nat} {v s : Value} {m m' nq : Nat} {xs : List Value} (h : Clo wr P v m) (hbA : Below wr.heap.size wr wa) (hown : wr.ownsRow (P + 2) e 1 s n xs) (hB : B ≤ P) :
    Clo ((wa.setCell ⟨P + 1, 0, none⟩ (.int .i64 (m' : Int))).drewN nq) P v m' ∧ ((wa.setCell ⟨P + 1, 0, none⟩ (.int .i64 (m' : Int))).drewN nq).ownsRow (P + 2) e 1 s n xs ∧ Below B wr ((wa.setCell ⟨P + 1, 0, none⟩ (.int .i64 (m' : Int))).drewN nq) ∧ wr.heap.size ≤ ((wa.setCell ⟨P + 1, 0, none⟩ (.int .i64 (m' : Int))).drewN nq).heap.size ∧ P + 2 ≤ wr.heap.size := by
  have l1 := lt_of_block h.1
  have l2 := lt_of_block h.2
  have h1 : wa.heap[P]? = _ := (hbA.block P l1).trans h.1
  have h2 : wa.heap[P + 1]? = _ := (hbA.block (P + 1) l2).trans h.2
  refine ⟨⟨?_, ?_⟩, ?_, ?_, ?_, by omega⟩
  · show (wa.setCell ⟨P + 1, 0, none⟩ _).heap[P]? = _
    rw [Below.heap_setCell _ _ _ _ (by show P ≠ P + 1; omega)]; exact h1
  · exact one_setCell h2
  · exact ownsRow_setCell_below (ownsRow_below hown hbA (Nat.le_refl _)) (by show P + 1 < P + 2; omega) _
  · exact below_drewN ((hbA.mono (by omega)).setCell (by show B ≤ P + 1; omega) _) nq
  · show _ ≤ (wa.setCell ⟨P + 1, 0, none⟩ _).heap.size
    simp only [World.size_setCell]; exact hbA.size

set_option maxHeartbeats 400000 in
/-- wire.GetInts. -/
theorem getints_any (ao : Option Addr) (n c : Nat) (l : List UInt8) (w : World) (hr : SlV w ao n c 1 (bvs l)) (hbd : n ≤ 1000000000000) (xs : List Int) (k : Nat) (e : Int) (hd : decList 1 decInt l = (xs, k, e)) :
    Calls Try.prog 34 #[.slice ao n c] w (GotL w 3 (xs.map iv) k e) := by
  have hl : Hid (l.length = n) := Lib.hid (by have := hr.len; simpa using this)
  obtain ⟨N, j, f, hq⟩ : ∃ N j f, decCount 1 l = (N, j, f) := ⟨_, _, _, rfl⟩
  by_cases he : f = 0
  · subst he
    obtain ⟨_, h2, h3⟩ := count_good hq
    rw [hl.out] at h2 h3
    have HJ := decList_start hd hq
    have H1 := Lib.hid hq
    clear hq hd
    go_enter Try.func34, Try.ntmps34
    go_wp2_with (first | (go_at_call 64; refine (count1_ok _ _ _ _ _ hr hbd _ _ H1.out).mono ?_; rintro e w1 ⟨rfl, hb⟩) | (go_at_call 66; refine (reader_any _ _ _ _ _).mono ?_; rintro e w2 ⟨rfl, rfl⟩))
    obtain ⟨P, hP⟩ : ∃ P, P = w1.heap.size := ⟨_, rfl⟩
    have hC := clo_start w1 (.slice ao n c) j
    have hb2 : Below w.heap.size w ((w1.alloc (.cells #[.slice ao n c] 28)).alloc (.cells #[.int .i64 (j : Int)] 3)) := (hb.alloc hb.size _).alloc (by have := hb.size; simp; omega) _
    have hBP : w.heap.size ≤ w1.heap.size := hb.size
    rw [← hP] at hC hBP ⊢
    clear hP
    go_loopw [6, 9, 10, 11, 12, 26] (fun ai v _ _ _ ct wr => ∃ (i m : Nat) (ys : List Int) (ao2 : Option Addr) (cap2 : Nat), m ≤ n ∧ ys.length = i ∧ i ≤ N ∧ ct = .int .i64 i ∧ ai = .int .i64 m ∧ v = .slice ao2 i cap2 ∧ Hid (joinN ys m (decN decInt (N - i) (l.drop m)) = (xs, k, e)) ∧ wr.ownsRow (P + 2) 3 1 (.slice ao2 i cap2) i (ys.map iv) ∧ Clo wr P (.slice ao n c) m ∧ Below w.heap.size w wr) (fun _ _ _ _ _ ct _ => N - (intOf ct).toNat)
    case atStart => exact ⟨0, j, [], none, 0, by omega, rfl, by omega, rfl, rfl, rfl, HJ, World.ownsRow_nil _ _ _ _, hC, hb2⟩
    case round =>
      clear hb HJ hb2 hC
      obtain ⟨i, m, ys, ao2, cap2, hm, hys, hi, rfl, rfl, rfl, HJ, hown, hC, hb⟩ := hrel
      have HY := Lib.hid hys
      clear hys
      have hbs := hb.size
      by_cases hlt : i < N
      · obtain ⟨r, hr1⟩ : ∃ r, N - i = r + 1 := ⟨N - i - 1, by omega⟩
        rw [hr1] at HJ
        obtain ⟨x, kx, ex, hx, hcase⟩ := decN_round HJ hl hm (fun _ _ _ _ h => intDec_good h)
        have hN1 : Hid (N - (i + 1) = r) := Lib.hid (by omega)
        clear HJ hr1
        have hrw := hr.below hb (Nat.le_refl _)
        rcases hcase with ⟨rfl, hmk, HJ⟩ | ⟨hex, HR⟩
        · go_wp2_with (first | (go_at_call 77; refine (clo_any _ _ _ _ _ m l _ hC.1 hC.2 hrw hbd hm _ _ _ hx).mono ?_; rintro e w2 ⟨rfl, wa, nq, hbA, hw2⟩; obtain ⟨hC2, hown2, hb3, hsz2, hP2⟩ := clo_after (m' := m + kx) (nq := nq) hC hbA hown hBP; rw [← hw2] at hC2 hown2 hb3 hsz2; clear hw2 hbA) | (at_builtin; refine ap_one rfl (.tmp 37) (.tmp 39) 22 rfl (P + 2) 3 (.int .i64 0) 8 Try.underlying22 Try.info3 rfl ao2 cap2 i (ys.map iv) rfl hown2 (iv x) rfl rfl (by omega) (by unfold maxLen; omega) (by omega) ?_; intro ao' cap' w3 hown3 hb4))
          go_roundw
          case rel => exact ⟨i + 1, m + kx, ys ++ [x], ao', cap', by omega, by simp [HY.out], by omega, by go_num, by go_num, rfl, by rw [hN1.out]; exact HJ, by simpa using hown3, clo_below hC2 hb4, (hb.trans hb3).trans (hb4.mono (by omega))⟩
          case measure => simp [intOf]; omega
        · have hne := err_ne hex
          have HX := Lib.hid hex
          clear hex
          go_wp2_with (go_at_call 77; refine (clo_any _ _ _ _ _ m l _ hC.1 hC.2 hrw hbd hm _ _ _ hx).mono ?_; rintro e w2 ⟨rfl, wa, nq, hbA, hw2⟩; obtain ⟨hC2, hown2, hb3, hsz2, hP2⟩ := clo_after (m' := m + kx) (nq := nq) hC hbA hown hBP; rw [← hw2] at hC2 hown2 hb3 hsz2; clear hw2 hbA)
          go_ret3
          have hR := HR.out
          simp only [Prod.mk.injEq] at hR
          obtain ⟨rfl, rfl, rfl⟩ := hR
          exact ⟨none, 0, rfl, World.ownsRow_nil _ _ _ _, hb.trans hb3⟩
      · obtain rfl : i = N := by omega
        have HE := HJ.out
        rw [Nat.sub_self, join_end] at HE
        simp only [Prod.mk.injEq] at HE
        obtain ⟨rfl, rfl, rfl⟩ := HE
        clear HJ
        go_wp2
        go_ret3
        have hi' : (ys.map iv).length = i := by rw [List.length_map]; exact HY.out
        refine ⟨ao2, cap2, ?_, ?_, hb⟩
        · rw [hi']; rfl
        · rw [hi']; exact ownsRow_base hown (by omega)
  · have hR := decList_bad hd hq he
    simp only [Prod.mk.injEq] at hR
    obtain ⟨rfl, rfl, rfl⟩ := hR
    obtain ⟨_, _, h23, _⟩ := count_bad hq he
    have hne := err_ne h23
    have H1 := Lib.hid hq
    have HE := Lib.hid he
    clear hq hd h23 he
    go_enter Try.func34, Try.ntmps34
    go_wp2_with (go_at_call 64; refine (count1_err _ _ _ _ _ hr hbd _ _ _ H1.out HE.out).mono ?_; rintro e w1 ⟨n1, k1, rfl, hb⟩)
    go_ret3
    exact ⟨none, 0, rfl, World.ownsRow_nil _ _ _ _, hb⟩

end Go.Proofs.Ytcpemgfpiapaaaa
