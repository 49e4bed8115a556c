/- The decoders of lengths and of strings, of the program and of the reference, decode as the plain ones do. -/
import Derived.Test.YtcpemgfpiapaaaaWRGetInt
import Derived.Test.YtcpemgfpiapaaaaDec2
namespace Go.Proofs.Ytcpemgfpiapaaaa
open Go.RowKit

theorem err_ne {e : Int} (h : e = 2 ∨ e = 3) : (e != 0) = true := by rcases h with rfl | rfl <;> rfl

/-- What a decoder of a length gives beside an error. -/
def GotBad (W : World) (x : Int) (e : Ending) (w' : World) : Prop := ∃ n k : Int, e = .returned (.tuple #[.int .i64 n, .int .i64 k, .int .i64 x]) ∧ Below W.heap.size W w'

theorem count1_ok (ao : Option Addr) (n c : Nat) (l : List UInt8) (w : World) (hr : SlV w ao n c 1 (bvs l)) (hbd : n ≤ 1000000000000) (N k : Nat) (hd : decCount 1 l = (N, k, 0)) :
    Calls Try.prog 64 #[.slice ao n c, .int .i64 1] w (Got3 w (.int .i64 (N : Int)) k 0) := by
  obtain ⟨h1, h2, h3⟩ := count_good hd
  have hl : l.length = n := by have := hr.len; simpa using this
  rw [hl] at h2 h3
  have H1 := Lib.hid h1
  clear hd h1 hl
  go_enter Try.func64, Try.ntmps64
  go_wp2_with (go_at_call 30; refine (getint_any _ _ _ _ _ hr _ _ _ H1.out).mono ?_; rintro e w1 ⟨rfl, hb⟩)
  go_ret3
  exact ⟨rfl, hb⟩

theorem count1_err (ao : Option Addr) (n c : Nat) (l : List UInt8) (w : World) (hr : SlV w ao n c 1 (bvs l)) (hbd : n ≤ 1000000000000) (N k : Nat) (e : Int) (hd : decCount 1 l = (N, k, e)) (he : e ≠ 0) :
    Calls Try.prog 64 #[.slice ao n c, .int .i64 1] w (GotBad w e) := by
  obtain ⟨_, _, _, x, j, f, h1, h2⟩ := count_bad hd he
  have hl : l.length = n := by have := hr.len; simpa using this
  rw [hl] at h2
  have H1 := Lib.hid h1
  have hf := (dec_err h1).1
  clear hd h1 hl
  rcases h2 with ⟨h2, rfl⟩ | ⟨rfl, h2, rfl⟩ | ⟨rfl, h2, h3, h4, rfl⟩
  · have hne := err_ne (show f = 2 ∨ f = 3 by omega)
    clear he hf h2
    go_enter Try.func64, Try.ntmps64
    go_wp2_with (go_at_call 30; refine (getint_any _ _ _ _ _ hr _ _ _ H1.out).mono ?_; rintro e w1 ⟨rfl, hb⟩)
    go_ret3
    exact ⟨_, _, rfl, hb⟩
  · clear he hf
    go_enter Try.func64, Try.ntmps64
    go_wp2_with (go_at_call 30; refine (getint_any _ _ _ _ _ hr _ _ _ H1.out).mono ?_; rintro e w1 ⟨rfl, hb⟩)
    go_ret3
    exact ⟨_, _, rfl, hb⟩
  · clear he hf
    go_enter Try.func64, Try.ntmps64
    go_wp2_with (go_at_call 30; refine (getint_any _ _ _ _ _ hr _ _ _ H1.out).mono ?_; rintro e w1 ⟨rfl, hb⟩)
    go_ret3
    exact ⟨_, _, rfl, hb⟩

theorem rcount1_ok (ao : Option Addr) (n c : Nat) (l : List UInt8) (w : World) (hr : SlV w ao n c 1 (bvs l)) (hbd : n ≤ 1000000000000) (N k : Nat) (hd : decCount 1 l = (N, k, 0)) :
    Calls Try.prog 65 #[.slice ao n c, .int .i64 1] w (Got3 w (.int .i64 (N : Int)) k 0) := by
  obtain ⟨h1, h2, h3⟩ := count_good hd
  have hl : l.length = n := by have := hr.len; simpa using this
  rw [hl] at h2 h3
  have H1 := Lib.hid h1
  clear hd h1 hl
  go_enter Try.func65, Try.ntmps65
  go_wp2_with (go_at_call 31; refine (rgetint_any _ _ _ _ _ hr _ _ _ H1.out).mono ?_; rintro e w1 ⟨rfl, hb⟩)
  go_ret3
  exact ⟨rfl, hb⟩

theorem rcount1_err (ao : Option Addr) (n c : Nat) (l : List UInt8) (w : World) (hr : SlV w ao n c 1 (bvs l)) (hbd : n ≤ 1000000000000) (N k : Nat) (e : Int) (hd : decCount 1 l = (N, k, e)) (he : e ≠ 0) :
    Calls Try.prog 65 #[.slice ao n c, .int .i64 1] w (GotBad w e) := by
  obtain ⟨_, _, _, x, j, f, h1, h2⟩ := count_bad hd he
  have hl : l.length = n := by have := hr.len; simpa using this
  rw [hl] at h2
  have H1 := Lib.hid h1
  have hf := (dec_err h1).1
  clear hd h1 hl
  rcases h2 with ⟨h2, rfl⟩ | ⟨rfl, h2, rfl⟩ | ⟨rfl, h2, h3, h4, rfl⟩
  · have hne := err_ne (show f = 2 ∨ f = 3 by omega)
    clear he hf h2
    go_enter Try.func65, Try.ntmps65
    go_wp2_with (go_at_call 31; refine (rgetint_any _ _ _ _ _ hr _ _ _ H1.out).mono ?_; rintro e w1 ⟨rfl, hb⟩)
    go_ret3
    exact ⟨_, _, rfl, hb⟩
  · clear he hf
    go_enter Try.func65, Try.ntmps65
    go_wp2_with (go_at_call 31; refine (rgetint_any _ _ _ _ _ hr _ _ _ H1.out).mono ?_; rintro e w1 ⟨rfl, hb⟩)
    go_ret3
    exact ⟨_, _, rfl, hb⟩
  · clear he hf
    by_cases hx : (n : Int) < x
    · go_enter Try.func65, Try.ntmps65
      go_wp2_with (go_at_call 31; refine (rgetint_any _ _ _ _ _ hr _ _ _ H1.out).mono ?_; rintro e w1 ⟨rfl, hb⟩)
      go_ret3
      exact ⟨_, _, rfl, hb⟩
    · go_enter Try.func65, Try.ntmps65
      go_wp2_with (go_at_call 31; refine (rgetint_any _ _ _ _ _ hr _ _ _ H1.out).mono ?_; rintro e w1 ⟨rfl, hb⟩)
      go_ret3
      exact ⟨_, _, rfl, hb⟩

theorem count16_ok (ao : Option Addr) (n c : Nat) (l : List UInt8) (w : World) (hr : SlV w ao n c 1 (bvs l)) (hbd : n ≤ 1000000000000) (N k : Nat) (hd : decCount 16 l = (N, k, 0)) :
    Calls Try.prog 64 #[.slice ao n c, .int .i64 16] w (Got3 w (.int .i64 (N : Int)) k 0) := by
  obtain ⟨h1, h2, h3⟩ := count_good hd
  have hl : l.length = n := by have := hr.len; simpa using this
  rw [hl] at h2 h3
  have H1 := Lib.hid h1
  clear hd h1 hl
  go_enter Try.func64, Try.ntmps64
  go_wp2_with (go_at_call 30; refine (getint_any _ _ _ _ _ hr _ _ _ H1.out).mono ?_; rintro e w1 ⟨rfl, hb⟩)
  go_ret3
  exact ⟨rfl, hb⟩

theorem count16_err (ao : Option Addr) (n c : Nat) (l : List UInt8) (w : World) (hr : SlV w ao n c 1 (bvs l)) (hbd : n ≤ 1000000000000) (N k : Nat) (e : Int) (hd : decCount 16 l = (N, k, e)) (he : e ≠ 0) :
    Calls Try.prog 64 #[.slice ao n c, .int .i64 16] w (GotBad w e) := by
  obtain ⟨_, _, _, x, j, f, h1, h2⟩ := count_bad hd he
  have hl : l.length = n := by have := hr.len; simpa using this
  rw [hl] at h2
  have H1 := Lib.hid h1
  have hf := (dec_err h1).1
  clear hd h1 hl
  rcases h2 with ⟨h2, rfl⟩ | ⟨rfl, h2, rfl⟩ | ⟨rfl, h2, h3, h4, rfl⟩
  · have hne := err_ne (show f = 2 ∨ f = 3 by omega)
    clear he hf h2
    go_enter Try.func64, Try.ntmps64
    go_wp2_with (go_at_call 30; refine (getint_any _ _ _ _ _ hr _ _ _ H1.out).mono ?_; rintro e w1 ⟨rfl, hb⟩)
    go_ret3
    exact ⟨_, _, rfl, hb⟩
  · clear he hf
    go_enter Try.func64, Try.ntmps64
    go_wp2_with (go_at_call 30; refine (getint_any _ _ _ _ _ hr _ _ _ H1.out).mono ?_; rintro e w1 ⟨rfl, hb⟩)
    go_ret3
    exact ⟨_, _, rfl, hb⟩
  · clear he hf
    go_enter Try.func64, Try.ntmps64
    go_wp2_with (go_at_call 30; refine (getint_any _ _ _ _ _ hr _ _ _ H1.out).mono ?_; rintro e w1 ⟨rfl, hb⟩)
    go_ret3
    exact ⟨_, _, rfl, hb⟩

theorem rcount16_ok (ao : Option Addr) (n c : Nat) (l : List UInt8) (w : World) (hr : SlV w ao n c 1 (bvs l)) (hbd : n ≤ 1000000000000) (N k : Nat) (hd : decCount 16 l = (N, k, 0)) :
    Calls Try.prog 65 #[.slice ao n c, .int .i64 16] w (Got3 w (.int .i64 (N : Int)) k 0) := by
  obtain ⟨h1, h2, h3⟩ := count_good hd
  have hl : l.length = n := by have := hr.len; simpa using this
  rw [hl] at h2 h3
  have H1 := Lib.hid h1
  clear hd h1 hl
  go_enter Try.func65, Try.ntmps65
  go_wp2_with (go_at_call 31; refine (rgetint_any _ _ _ _ _ hr _ _ _ H1.out).mono ?_; rintro e w1 ⟨rfl, hb⟩)
  go_ret3
  exact ⟨rfl, hb⟩

theorem rcount16_err (ao : Option Addr) (n c : Nat) (l : List UInt8) (w : World) (hr : SlV w ao n c 1 (bvs l)) (hbd : n ≤ 1000000000000) (N k : Nat) (e : Int) (hd : decCount 16 l = (N, k, e)) (he : e ≠ 0) :
    Calls Try.prog 65 #[.slice ao n c, .int .i64 16] w (GotBad w e) := by
  obtain ⟨_, _, _, x, j, f, h1, h2⟩ := count_bad hd he
  have hl : l.length = n := by have := hr.len; simpa using this
  rw [hl] at h2
  have H1 := Lib.hid h1
  have hf := (dec_err h1).1
  clear hd h1 hl
  rcases h2 with ⟨h2, rfl⟩ | ⟨rfl, h2, rfl⟩ | ⟨rfl, h2, h3, h4, rfl⟩
  · have hne := err_ne (show f = 2 ∨ f = 3 by omega)
    clear he hf h2
    go_enter Try.func65, Try.ntmps65
    go_wp2_with (go_at_call 31; refine (rgetint_any _ _ _ _ _ hr _ _ _ H1.out).mono ?_; rintro e w1 ⟨rfl, hb⟩)
    go_ret3
    exact ⟨_, _, rfl, hb⟩
  · clear he hf
    go_enter Try.func65, Try.ntmps65
    go_wp2_with (go_at_call 31; refine (rgetint_any _ _ _ _ _ hr _ _ _ H1.out).mono ?_; rintro e w1 ⟨rfl, hb⟩)
    go_ret3
    exact ⟨_, _, rfl, hb⟩
  · clear he hf
    by_cases hx : (n : Int) < x
    · go_enter Try.func65, Try.ntmps65
      go_wp2_with (go_at_call 31; refine (rgetint_any _ _ _ _ _ hr _ _ _ H1.out).mono ?_; rintro e w1 ⟨rfl, hb⟩)
      go_ret3
      exact ⟨_, _, rfl, hb⟩
    · go_enter Try.func65, Try.ntmps65
      go_wp2_with (go_at_call 31; refine (rgetint_any _ _ _ _ _ hr _ _ _ H1.out).mono ?_; rintro e w1 ⟨rfl, hb⟩)
      go_ret3
      exact ⟨_, _, rfl, hb⟩

set_option maxHeartbeats 400000 in
/-- wire.GetBytes. -/
theorem getbytes_any (ao : Option Addr) (n c : Nat) (l : List UInt8) (w : World) (hr : SlV w ao n c 1 (bvs l)) (hbd : n ≤ 1000000000000) (s : ByteArray) (k : Nat) (e : Int) (hd : decBytes l = (s, k, e)) :
    Calls Try.prog 32 #[.slice ao n c] w (Got3 w (.string s) k e) := by
  have hl : l.length = n := by have := hr.len; simpa using this
  have hu := hd
  unfold decBytes at hu
  dsimp only at hu
  obtain ⟨N, j, f, hq⟩ : ∃ N j f, decCount 1 l = (N, j, f) := ⟨_, _, _, rfl⟩
  rw [hq] at hu
  by_cases he : f = 0
  · subst he
    rw [if_neg (by simp)] at hu
    simp only [Prod.mk.injEq] at hu
    obtain ⟨rfl, rfl, rfl⟩ := hu
    obtain ⟨_, h2, h3⟩ := count_good hq
    rw [hl] at h2 h3
    have H1 := Lib.hid hq
    clear hq hd hl
    go_enter Try.func32, Try.ntmps32
    go_wp2_with (first | (go_at_call 64; refine (count1_ok _ _ _ _ _ hr hbd _ _ H1.out).mono ?_; rintro e w1 ⟨rfl, hb⟩; have hr1 := hr.below hb (Nat.le_refl _)) | (refine cut_mid rfl 28 (.tmp 17) (.tmp 18) (.tmp 21) rfl 5 1 Try.underlying28 Try.size5 _ _ _ _ rfl hr1 j (j + N) _ _ rfl rfl rfl rfl (by omega) (by omega) N (by omega) ?_; intro ao' hsl) | (refine cv_string rfl (.tmp 22) rfl _ _ _ ((l.drop j).take N) rfl (by simpa [bvs] using hsl) ?_))
    go_ret3
    exact ⟨by simp, hb⟩
  · rw [if_pos (by simpa using he)] at hu
    simp only [Prod.mk.injEq] at hu
    obtain ⟨rfl, rfl, rfl⟩ := hu
    obtain ⟨_, _, h23, _⟩ := count_bad hq he
    have hne := err_ne h23
    have H1 := Lib.hid hq
    have HE := Lib.hid he
    clear hq hd hl h23 he
    go_enter Try.func32, Try.ntmps32
    go_wp2_with (go_at_call 64; refine (count1_err _ _ _ _ _ hr hbd _ _ _ H1.out HE.out).mono ?_; rintro e w1 ⟨n1, k1, rfl, hb⟩)
    go_ret3
    exact ⟨rfl, hb⟩

set_option maxHeartbeats 400000 in
/-- dioramaref01.GetBytes. -/
theorem rgetbytes_any (ao : Option Addr) (n c : Nat) (l : List UInt8) (w : World) (hr : SlV w ao n c 1 (bvs l)) (hbd : n ≤ 1000000000000) (s : ByteArray) (k : Nat) (e : Int) (hd : decBytes l = (s, k, e)) :
    Calls Try.prog 33 #[.slice ao n c] w (Got3 w (.string s) k e) := by
  have hl : l.length = n := by have := hr.len; simpa using this
  have hu := hd
  unfold decBytes at hu
  dsimp only at hu
  obtain ⟨N, j, f, hq⟩ : ∃ N j f, decCount 1 l = (N, j, f) := ⟨_, _, _, rfl⟩
  rw [hq] at hu
  by_cases he : f = 0
  · subst he
    rw [if_neg (by simp)] at hu
    simp only [Prod.mk.injEq] at hu
    obtain ⟨rfl, rfl, rfl⟩ := hu
    obtain ⟨_, h2, h3⟩ := count_good hq
    rw [hl] at h2 h3
    have H1 := Lib.hid hq
    clear hq hd hl
    go_enter Try.func33, Try.ntmps33
    go_wp2_with (first | (go_at_call 65; refine (rcount1_ok _ _ _ _ _ hr hbd _ _ H1.out).mono ?_; rintro e w1 ⟨rfl, hb⟩; have hr1 := hr.below hb (Nat.le_refl _)) | (refine cut_mid rfl 28 (.tmp 17) (.tmp 18) (.tmp 21) rfl 5 1 Try.underlying28 Try.size5 _ _ _ _ rfl hr1 j (j + N) _ _ rfl rfl rfl rfl (by omega) (by omega) N (by omega) ?_; intro ao' hsl) | (refine cv_string rfl (.tmp 22) rfl _ _ _ ((l.drop j).take N) rfl (by simpa [bvs] using hsl) ?_))
    go_ret3
    exact ⟨by simp, hb⟩
  · rw [if_pos (by simpa using he)] at hu
    simp only [Prod.mk.injEq] at hu
    obtain ⟨rfl, rfl, rfl⟩ := hu
    obtain ⟨_, _, h23, _⟩ := count_bad hq he
    have hne := err_ne h23
    have H1 := Lib.hid hq
    have HE := Lib.hid he
    clear hq hd hl h23 he
    go_enter Try.func33, Try.ntmps33
    go_wp2_with (go_at_call 65; refine (rcount1_err _ _ _ _ _ hr hbd _ _ _ H1.out HE.out).mono ?_; rintro e w1 ⟨n1, k1, rfl, hb⟩)
    go_ret3
    exact ⟨rfl, hb⟩

end Go.Proofs.Ytcpemgfpiapaaaa
