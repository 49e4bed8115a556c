/- The decoders of lists of integers (the reference's) and of strings decode as the plain ones do. -/
import Derived.Test.YtcpemgfpiapaaaaDecB
namespace Go.Proofs.Ytcpemgfpiapaaaa
open Go.RowKit

/-- APPEND of one element that the statement has just laid in a block of its own. -/
theorem ap_one {w : World} {ops : Array Oper} {rest : List Oper} {o : Oper} {a : Act} {Q : Exit → Act → World → Prop} (hgd : o.guard = none) (s x : Operand) (t : TypeId)
    (ho : o.op = .call { callee := .builtin .append, args := #[s, x], argTypes := #[t, t] })
    (B : Nat) (e : TypeId) (z : Value) (bytes : Nat) (ht : Try.prog.underlying t = some (.slice e)) (hinfo : (Try.prog.info? e).map (fun i => (i.zero, i.size, i.bytes)) = some (some z, 1, bytes)) (hzs : z.cells.size = 1)
    (ao : Option Addr) (cap n : Nat) (xs : List Value) (hs : a.eval s = .slice ao n cap) (hown : w.ownsRow B e 1 (.slice ao n cap) n xs) (u : Value) (hu : u.oneCell' = true)
    (hx : a.eval x = .slice (some ⟨w.heap.size, 0, none⟩) 1 1) (hbytes : (n + 1) * bytes ≤ 140737488355328) (hmax : n + 1 ≤ maxLen) (hB : B ≤ w.heap.size)
    (h : ∀ ao' cap' w', w'.ownsRow B e 1 (.slice ao' (n + 1) cap') (n + 1) (xs ++ [u]) → Below B w w' → wpList Try.prog ops Q rest (a.put o.dst (.slice ao' (n + 1) cap')) w') : wpList Try.prog ops Q (o :: rest) a (w.alloc (.cells #[u] e)) := by
  refine ap_any hgd s x t ho B e z 1 bytes ht hinfo hzs (by decide) _ n xs hs (hown.alloc _) _ 1 1 [u] hx (sl_new w u e) (by simpa using hu) hbytes hmax (by simp; omega) ?_
  intro ao' cap' w' ho' hb
  exact h ao' cap' w' ho' (((Below.refl B w).alloc hB _).trans hb)

/-- What a decoder of a list gives. -/
def GotL (W : World) (t : TypeId) (xs : List Value) (k : Nat) (x : Int) (e : Ending) (w' : World) : Prop :=
  ∃ ao cap, e = .returned (.tuple #[.slice ao xs.length cap, .int .i64 (k : Int), .int .i64 x]) ∧ w'.ownsRow W.heap.size t 1 (.slice ao xs.length cap) xs.length xs ∧ Below W.heap.size W w'

/-- How a list's decoder begins. -/
theorem decList_start {α : Type} {size : Nat} {dec : List UInt8 → α × Nat × Int} {l : List UInt8} {R : List α × Nat × Int} (h : decList size dec l = R) {N j : Nat} (hq : decCount size l = (N, j, 0)) : Hid (joinN [] j (decN dec N (l.drop j)) = R) := by
  unfold decList at h
  rw [hq] at h
  exact Lib.hid (by simpa using h)

theorem decList_bad {α : Type} {size : Nat} {dec : List UInt8 → α × Nat × Int} {l : List UInt8} {R : List α × Nat × Int} (h : decList size dec l = R) {N j : Nat} {e : Int} (hq : decCount size l = (N, j, e)) (he : e ≠ 0) : R = ([], 0, e) := by
  unfold decList at h
  rw [hq] at h
  simp only [he, ne_eq, not_false_eq_true, if_true] at h
  exact h.symm

theorem intDec_good {l : List UInt8} {x : Int} {k : Nat} {e : Int} (h : decInt l = (x, k, e)) : (e = 0 ∨ e = 2 ∨ e = 3) ∧ (e = 0 → k ≤ l.length) :=
  ⟨(dec_err h).1, fun he => by subst he; exact (dec_canon h).2.1⟩

theorem bytesDec_good {l : List UInt8} {s : ByteArray} {k : Nat} {e : Int} (h : decBytes l = (s, k, e)) : (e = 0 ∨ e = 2 ∨ e = 3) ∧ (e = 0 → k ≤ l.length) := by
  unfold decBytes at h
  dsimp only at h
  obtain ⟨N, j, f, hq⟩ : ∃ N j f, decCount 1 l = (N, j, f) := ⟨_, _, _, rfl⟩
  rw [hq] at h
  by_cases hf : f = 0
  · subst hf
    rw [if_neg (by simp)] at h
    simp only [Prod.mk.injEq] at h
    have := count_good hq
    omega
  · rw [if_pos (by simpa using hf)] at h
    simp only [Prod.mk.injEq] at h
    have := (count_bad hq hf).2.2.1
    omega

/-- One round of a list's decoder. -/
theorem decN_round {α : Type} {dec : List UInt8 → α × Nat × Int} {l : List UInt8} {R : List α × Nat × Int} {xs : List α} {j r n : Nat} (hJ : Hid (joinN xs j (decN dec (r + 1) (l.drop j)) = R)) (hn : Hid (l.length = n)) (hj : j ≤ n)
    (hgood : ∀ (l : List UInt8) x k e, dec l = (x, k, e) → (e = 0 ∨ e = 2 ∨ e = 3) ∧ (e = 0 → k ≤ l.length)) :
    ∃ x k e, Hid (dec (l.drop j) = (x, k, e)) ∧ ((e = 0 ∧ j + k ≤ n ∧ Hid (joinN (xs ++ [x]) (j + k) (decN dec r (l.drop (j + k))) = R)) ∨ ((e = 2 ∨ e = 3) ∧ Hid (R = ([], 0, e)))) := by
  obtain ⟨x, k, e, hd⟩ : ∃ x k e, dec (l.drop j) = (x, k, e) := ⟨_, _, _, rfl⟩
  obtain ⟨h1, h2⟩ := hgood _ x k e hd
  refine ⟨x, k, e, hd, ?_⟩
  by_cases he : e = 0
  · subst he
    left
    have hk := h2 rfl
    rw [List.length_drop, hn.out] at hk
    refine ⟨rfl, by omega, ?_⟩
    have := join_step dec xs j r _ x k hd
    rw [List.drop_drop] at this
    show _ = _
    rw [← this]
    exact hJ.out
  · right
    refine ⟨by omega, ?_⟩
    show _ = _
    rw [← hJ.out]
    exact join_fail dec xs j r _ x k e he hd

theorem slv_drop {w : World} {ao : Option Addr} {n c m : Nat} {l : List UInt8} (h : SlV w ao (n - m) (c - m) 1 ((bvs l).drop (m * 1))) : SlV w ao (n - m) (c - m) 1 (bvs (l.drop m)) := by
  simpa [bvs] using h

set_option maxHeartbeats 400000 in
/-- dioramaref01.GetInts. -/
theorem rgetints_any (ao : Option Addr) (n c : Nat) (l : List UInt8) (w : World) (hr : SlV w ao n c 1 (bvs l)) (hbd : n ≤ 1000000000000) (xs : List Int) (k : Nat) (e : Int) (hd : decList 1 decInt l = (xs, k, e)) :
    Calls Try.prog 35 #[.slice ao n c] w (GotL w 3 (xs.map iv) k e) := by
  have hl : Hid (l.length = n) := Lib.hid (by have := hr.len; simpa using this)
  obtain ⟨N, j, f, hq⟩ : ∃ N j f, decCount 1 l = (N, j, f) := ⟨_, _, _, rfl⟩
  by_cases he : f = 0
  · subst he
    obtain ⟨_, h2, h3⟩ := count_good hq
    rw [hl.out] at h2 h3
    have HJ := decList_start hd hq
    have H1 := Lib.hid hq
    clear hq hd
    go_enter Try.func35, Try.ntmps35
    go_wp2_with (go_at_call 65; refine (rcount1_ok _ _ _ _ _ hr hbd _ _ H1.out).mono ?_; rintro e w1 ⟨rfl, hb⟩)
    go_loopw [6, 8, 9, 10, 11, 12] (fun ai v ct _ _ _ wr => ∃ (i m : Nat) (ys : List Int) (ao2 : Option Addr) (cap2 : Nat), i + (N - i) = N ∧ m ≤ n ∧ ys.length = i ∧ i ≤ N ∧ ct = .int .i64 i ∧ ai = .int .i64 m ∧ v = .slice ao2 i cap2 ∧ Hid (joinN ys m (decN decInt (N - i) (l.drop m)) = (xs, k, e)) ∧ wr.ownsRow w.heap.size 3 1 (.slice ao2 i cap2) i (ys.map iv) ∧ Below w.heap.size w wr) (fun _ _ ct _ _ _ _ => N - (intOf ct).toNat)
    case atStart => exact ⟨0, j, [], none, 0, by omega, by omega, rfl, by omega, rfl, rfl, rfl, HJ, World.ownsRow_nil _ _ _ _, hb⟩
    case round =>
      clear hb HJ
      obtain ⟨i, m, ys, ao2, cap2, hi1, hm, hys, hi, rfl, rfl, rfl, HJ, hown, hb⟩ := hrel
      have HY := Lib.hid hys
      clear hys hi1
      have hbs := hb.size
      by_cases hlt : i < N
      · obtain ⟨r, hr1⟩ : ∃ r, N - i = r + 1 := ⟨N - i - 1, by omega⟩
        rw [hr1] at HJ
        obtain ⟨x, kx, ex, hx, hcase⟩ := decN_round HJ hl hm (fun _ _ _ _ h => intDec_good h)
        have hN1 : Hid (N - (i + 1) = r) := Lib.hid (by omega)
        clear HJ hr1
        have hrw := hr.below hb (Nat.le_refl _)
        rcases hcase with ⟨rfl, hmk, HJ⟩ | ⟨hex, HR⟩
        · go_wp2_with (first | (refine cut_from rfl 28 (.tmp 28) (.tmp 29) rfl 5 1 Try.underlying28 Try.size5 _ _ _ _ rfl hrw m _ rfl rfl hm ?_; intro ao' hsl; have hsl' := slv_drop hsl) | (go_at_call 31; refine (rgetint_any _ _ _ _ _ hsl' _ _ _ hx.out).mono ?_; rintro e w2 ⟨rfl, hb2⟩; have hbs2 := hb2.size) | (at_builtin; refine ap_one rfl (.tmp 38) (.tmp 40) 22 rfl w.heap.size 3 (.int .i64 0) 8 Try.underlying22 Try.info3 rfl ao2 cap2 i (ys.map iv) rfl (ownsRow_below hown hb2 (Nat.le_refl _)) (iv x) rfl rfl (by omega) (by unfold maxLen; omega) (by omega) ?_; intro ao' cap' w3 hown3 hb3))
          go_roundw
          case rel => exact ⟨i + 1, m + kx, ys ++ [x], ao', cap', by omega, by omega, by simp [HY.out], by omega, by go_num, by go_num, rfl, by rw [hN1.out]; exact HJ, by simpa using hown3, (hb.trans (hb2.mono hbs)).trans hb3⟩
          case measure => simp [intOf]; omega
        · have hne := err_ne hex
          have HX := Lib.hid hex
          clear hex
          go_wp2_with (first | (refine cut_from rfl 28 (.tmp 28) (.tmp 29) rfl 5 1 Try.underlying28 Try.size5 _ _ _ _ rfl hrw m _ rfl rfl hm ?_; intro ao' hsl; have hsl' := slv_drop hsl) | (go_at_call 31; refine (rgetint_any _ _ _ _ _ hsl' _ _ _ hx.out).mono ?_; rintro e w2 ⟨rfl, hb2⟩; have hbs2 := hb2.size))
          go_ret3
          have hR := HR.out
          simp only [Prod.mk.injEq] at hR
          obtain ⟨rfl, rfl, rfl⟩ := hR
          exact ⟨none, 0, rfl, World.ownsRow_nil _ _ _ _, hb.trans (hb2.mono hbs)⟩
      · obtain rfl : i = N := by omega
        have HE := HJ.out
        rw [Nat.sub_self, join_end] at HE
        simp only [Prod.mk.injEq] at HE
        obtain ⟨rfl, rfl, rfl⟩ := HE
        clear HJ
        go_wp2
        go_ret3
        have hi' : (ys.map iv).length = i := by rw [List.length_map]; exact HY.out
        refine ⟨ao2, cap2, ?_, ?_, hb⟩
        · rw [hi']; rfl
        · rw [hi']; exact hown
  · have hR := decList_bad hd hq he
    simp only [Prod.mk.injEq] at hR
    obtain ⟨rfl, rfl, rfl⟩ := hR
    obtain ⟨_, _, h23, _⟩ := count_bad hq he
    have hne := err_ne h23
    have H1 := Lib.hid hq
    have HE := Lib.hid he
    clear hq hd h23 he
    go_enter Try.func35, Try.ntmps35
    go_wp2_with (go_at_call 65; refine (rcount1_err _ _ _ _ _ hr hbd _ _ _ H1.out HE.out).mono ?_; rintro e w1 ⟨n1, k1, rfl, hb⟩)
    go_ret3
    exact ⟨none, 0, rfl, World.ownsRow_nil _ _ _ _, hb⟩

set_option maxHeartbeats 400000 in
/-- wire.GetStrings. -/
theorem getstrs_any (ao : Option Addr) (n c : Nat) (l : List UInt8) (w : World) (hr : SlV w ao n c 1 (bvs l)) (hbd : n ≤ 1000000000000) (xs : List ByteArray) (k : Nat) (e : Int) (hd : decList 1 decBytes l = (xs, k, e)) :
    Calls Try.prog 37 #[.slice ao n c] w (GotL w 9 (xs.map Value.string) k e) := by
  have hl : Hid (l.length = n) := Lib.hid (by have := hr.len; simpa using this)
  obtain ⟨N, j, f, hq⟩ : ∃ N j f, decCount 1 l = (N, j, f) := ⟨_, _, _, rfl⟩
  by_cases he : f = 0
  · subst he
    obtain ⟨_, h2, h3⟩ := count_good hq
    rw [hl.out] at h2 h3
    have HJ := decList_start hd hq
    have H1 := Lib.hid hq
    clear hq hd
    go_enter Try.func37, Try.ntmps37
    go_wp2_with (go_at_call 64; refine (count1_ok _ _ _ _ _ hr hbd _ _ H1.out).mono ?_; rintro e w1 ⟨rfl, hb⟩)
    go_loopw [6, 8, 9, 10, 11, 22] (fun ai v _ _ _ ct wr => ∃ (i m : Nat) (ys : List ByteArray) (ao2 : Option Addr) (cap2 : Nat), i + (N - i) = N ∧ m ≤ n ∧ ys.length = i ∧ i ≤ N ∧ ct = .int .i64 i ∧ ai = .int .i64 m ∧ v = .slice ao2 i cap2 ∧ Hid (joinN ys m (decN decBytes (N - i) (l.drop m)) = (xs, k, e)) ∧ wr.ownsRow w.heap.size 9 1 (.slice ao2 i cap2) i (ys.map Value.string) ∧ Below w.heap.size w wr) (fun _ _ _ _ _ ct _ => N - (intOf ct).toNat)
    case atStart => exact ⟨0, j, [], none, 0, by omega, by omega, rfl, by omega, rfl, rfl, rfl, HJ, World.ownsRow_nil _ _ _ _, hb⟩
    case round =>
      clear hb HJ
      obtain ⟨i, m, ys, ao2, cap2, hi1, hm, hys, hi, rfl, rfl, rfl, HJ, hown, hb⟩ := hrel
      have HY := Lib.hid hys
      clear hys hi1
      have hbs := hb.size
      by_cases hlt : i < N
      · obtain ⟨r, hr1⟩ : ∃ r, N - i = r + 1 := ⟨N - i - 1, by omega⟩
        rw [hr1] at HJ
        obtain ⟨x, kx, ex, hx, hcase⟩ := decN_round HJ hl hm (fun _ _ _ _ h => bytesDec_good h)
        have hN1 : Hid (N - (i + 1) = r) := Lib.hid (by omega)
        clear HJ hr1
        have hrw := hr.below hb (Nat.le_refl _)
        rcases hcase with ⟨rfl, hmk, HJ⟩ | ⟨hex, HR⟩
        · go_wp2_with (first | (refine cut_from rfl 28 (.tmp 25) (.tmp 26) rfl 5 1 Try.underlying28 Try.size5 _ _ _ _ rfl hrw m _ rfl rfl hm ?_; intro ao' hsl; have hsl' := slv_drop hsl) | (go_at_call 32; refine (getbytes_any _ _ _ _ _ hsl' (by omega) _ _ _ hx.out).mono ?_; rintro e w2 ⟨rfl, hb2⟩; have hbs2 := hb2.size) | (at_builtin; refine ap_one rfl (.tmp 35) (.tmp 37) 23 rfl w.heap.size 9 (.string ByteArray.empty) 16 Try.underlying23 Try.info9 rfl ao2 cap2 i (ys.map Value.string) rfl (ownsRow_below hown hb2 (Nat.le_refl _)) (Value.string x) rfl rfl (by omega) (by unfold maxLen; omega) (by omega) ?_; intro ao' cap' w3 hown3 hb3))
          go_roundw
          case rel => exact ⟨i + 1, m + kx, ys ++ [x], ao', cap', by omega, by omega, by simp [HY.out], by omega, by go_num, by go_num, rfl, by rw [hN1.out]; exact HJ, by simpa using hown3, (hb.trans (hb2.mono hbs)).trans hb3⟩
          case measure => simp [intOf]; omega
        · have hne := err_ne hex
          have HX := Lib.hid hex
          clear hex
          go_wp2_with (first | (refine cut_from rfl 28 (.tmp 25) (.tmp 26) rfl 5 1 Try.underlying28 Try.size5 _ _ _ _ rfl hrw m _ rfl rfl hm ?_; intro ao' hsl; have hsl' := slv_drop hsl) | (go_at_call 32; refine (getbytes_any _ _ _ _ _ hsl' (by omega) _ _ _ hx.out).mono ?_; rintro e w2 ⟨rfl, hb2⟩; have hbs2 := hb2.size))
          go_ret3
          have hR := HR.out
          simp only [Prod.mk.injEq] at hR
          obtain ⟨rfl, rfl, rfl⟩ := hR
          exact ⟨none, 0, rfl, World.ownsRow_nil _ _ _ _, hb.trans (hb2.mono hbs)⟩
      · obtain rfl : i = N := by omega
        have HE := HJ.out
        rw [Nat.sub_self, join_end] at HE
        simp only [Prod.mk.injEq] at HE
        obtain ⟨rfl, rfl, rfl⟩ := HE
        clear HJ
        go_wp2
        go_ret3
        have hi' : (ys.map Value.string).length = i := by rw [List.length_map]; exact HY.out
        refine ⟨ao2, cap2, ?_, ?_, hb⟩
        · rw [hi']; rfl
        · rw [hi']; exact hown
  · have hR := decList_bad hd hq he
    simp only [Prod.mk.injEq] at hR
    obtain ⟨rfl, rfl, rfl⟩ := hR
    obtain ⟨_, _, h23, _⟩ := count_bad hq he
    have hne := err_ne h23
    have H1 := Lib.hid hq
    have HE := Lib.hid he
    clear hq hd h23 he
    go_enter Try.func37, Try.ntmps37
    go_wp2_with (go_at_call 64; refine (count1_err _ _ _ _ _ hr hbd _ _ _ H1.out HE.out).mono ?_; rintro e w1 ⟨n1, k1, rfl, hb⟩)
    go_ret3
    exact ⟨none, 0, rfl, World.ownsRow_nil _ _ _ _, hb⟩

set_option maxHeartbeats 400000 in
/-- dioramaref01.GetStrings. -/
theorem rgetstrs_any (ao : Option Addr) (n c : Nat) (l : List UInt8) (w : World) (hr : SlV w ao n c 1 (bvs l)) (hbd : n ≤ 1000000000000) (xs : List ByteArray) (k : Nat) (e : Int) (hd : decList 1 decBytes l = (xs, k, e)) :
    Calls Try.prog 38 #[.slice ao n c] w (GotL w 9 (xs.map Value.string) k e) := by
  have hl : Hid (l.length = n) := Lib.hid (by have := hr.len; simpa using this)
  obtain ⟨N, j, f, hq⟩ : ∃ N j f, decCount 1 l = (N, j, f) := ⟨_, _, _, rfl⟩
  by_cases he : f = 0
  · subst he
    obtain ⟨_, h2, h3⟩ := count_good hq
    rw [hl.out] at h2 h3
    have HJ := decList_start hd hq
    have H1 := Lib.hid hq
    clear hq hd
    go_enter Try.func38, Try.ntmps38
    go_wp2_with (go_at_call 65; refine (rcount1_ok _ _ _ _ _ hr hbd _ _ H1.out).mono ?_; rintro e w1 ⟨rfl, hb⟩)
    go_loopw [6, 8, 9, 10, 11, 12] (fun ai v ct _ _ _ wr => ∃ (i m : Nat) (ys : List ByteArray) (ao2 : Option Addr) (cap2 : Nat), i + (N - i) = N ∧ m ≤ n ∧ ys.length = i ∧ i ≤ N ∧ ct = .int .i64 i ∧ ai = .int .i64 m ∧ v = .slice ao2 i cap2 ∧ Hid (joinN ys m (decN decBytes (N - i) (l.drop m)) = (xs, k, e)) ∧ wr.ownsRow w.heap.size 9 1 (.slice ao2 i cap2) i (ys.map Value.string) ∧ Below w.heap.size w wr) (fun _ _ ct _ _ _ _ => N - (intOf ct).toNat)
    case atStart => exact ⟨0, j, [], none, 0, by omega, by omega, rfl, by omega, rfl, rfl, rfl, HJ, World.ownsRow_nil _ _ _ _, hb⟩
    case round =>
      clear hb HJ
      obtain ⟨i, m, ys, ao2, cap2, hi1, hm, hys, hi, rfl, rfl, rfl, HJ, hown, hb⟩ := hrel
      have HY := Lib.hid hys
      clear hys hi1
      have hbs := hb.size
      by_cases hlt : i < N
      · obtain ⟨r, hr1⟩ : ∃ r, N - i = r + 1 := ⟨N - i - 1, by omega⟩
        rw [hr1] at HJ
        obtain ⟨x, kx, ex, hx, hcase⟩ := decN_round HJ hl hm (fun _ _ _ _ h => bytesDec_good h)
        have hN1 : Hid (N - (i + 1) = r) := Lib.hid (by omega)
        clear HJ hr1
        have hrw := hr.below hb (Nat.le_refl _)
        rcases hcase with ⟨rfl, hmk, HJ⟩ | ⟨hex, HR⟩
        · go_wp2_with (first | (refine cut_from rfl 28 (.tmp 28) (.tmp 29) rfl 5 1 Try.underlying28 Try.size5 _ _ _ _ rfl hrw m _ rfl rfl hm ?_; intro ao' hsl; have hsl' := slv_drop hsl) | (go_at_call 33; refine (rgetbytes_any _ _ _ _ _ hsl' (by omega) _ _ _ hx.out).mono ?_; rintro e w2 ⟨rfl, hb2⟩; have hbs2 := hb2.size) | (at_builtin; refine ap_one rfl (.tmp 38) (.tmp 40) 23 rfl w.heap.size 9 (.string ByteArray.empty) 16 Try.underlying23 Try.info9 rfl ao2 cap2 i (ys.map Value.string) rfl (ownsRow_below hown hb2 (Nat.le_refl _)) (Value.string x) rfl rfl (by omega) (by unfold maxLen; omega) (by omega) ?_; intro ao' cap' w3 hown3 hb3))
          go_roundw
          case rel => exact ⟨i + 1, m + kx, ys ++ [x], ao', cap', by omega, by omega, by simp [HY.out], by omega, by go_num, by go_num, rfl, by rw [hN1.out]; exact HJ, by simpa using hown3, (hb.trans (hb2.mono hbs)).trans hb3⟩
          case measure => simp [intOf]; omega
        · have hne := err_ne hex
          have HX := Lib.hid hex
          clear hex
          go_wp2_with (first | (refine cut_from rfl 28 (.tmp 28) (.tmp 29) rfl 5 1 Try.underlying28 Try.size5 _ _ _ _ rfl hrw m _ rfl rfl hm ?_; intro ao' hsl; have hsl' := slv_drop hsl) | (go_at_call 33; refine (rgetbytes_any _ _ _ _ _ hsl' (by omega) _ _ _ hx.out).mono ?_; rintro e w2 ⟨rfl, hb2⟩; have hbs2 := hb2.size))
          go_ret3
          have hR := HR.out
          simp only [Prod.mk.injEq] at hR
          obtain ⟨rfl, rfl, rfl⟩ := hR
          exact ⟨none, 0, rfl, World.ownsRow_nil _ _ _ _, hb.trans (hb2.mono hbs)⟩
      · obtain rfl : i = N := by omega
        have HE := HJ.out
        rw [Nat.sub_self, join_end] at HE
        simp only [Prod.mk.injEq] at HE
        obtain ⟨rfl, rfl, rfl⟩ := HE
        clear HJ
        go_wp2
        go_ret3
        have hi' : (ys.map Value.string).length = i := by rw [List.length_map]; exact HY.out
        refine ⟨ao2, cap2, ?_, ?_, hb⟩
        · rw [hi']; rfl
        · rw [hi']; exact hown
  · have hR := decList_bad hd hq he
    simp only [Prod.mk.injEq] at hR
    obtain ⟨rfl, rfl, rfl⟩ := hR
    obtain ⟨_, _, h23, _⟩ := count_bad hq he
    have hne := err_ne h23
    have H1 := Lib.hid hq
    have HE := Lib.hid he
    clear hq hd h23 he
    go_enter Try.func38, Try.ntmps38
    go_wp2_with (go_at_call 65; refine (rcount1_err _ _ _ _ _ hr hbd _ _ _ H1.out HE.out).mono ?_; rintro e w1 ⟨n1, k1, rfl, hb⟩)
    go_ret3
    exact ⟨none, 0, rfl, World.ownsRow_nil _ _ _ _, hb⟩

end Go.Proofs.Ytcpemgfpiapaaaa
