/- link.End.In, a packet that is taken. -/
import Derived.Test.YtcpemgfpiapaaaaLkH
namespace Go.Proofs.Ytcpemgfpiapaaaa
open Go.RowKit

/-- While a packet is taken: the end, and the packet's variable. -/
structure Tak (c : Nat → Nat) (k p P : Nat) (w wx : World) (M : EndM) (seq ack : Int) (l : List UInt8) (ta : Option Addr) (tc : Nat) : Prop where
  stp : Stp c c k w wx
  fin : EndV c k wx p M
  pkt : wx.heap[P]? = some (.cells #[.int .i64 seq, .int .i64 ack, .slice ta l.length tc] 103 (0, 0))
  col : c P = 0
  row : RowC c wx (.slice ta l.length tc) l

theorem Tak.step {c : Nat → Nat} {k p P : Nat} {w wx W : World} {M M' : EndM} {seq ack : Int} {l : List UInt8} {ta : Option Addr} {tc : Nat} (h : Tak c k p P w wx M seq ack l ta tc) (hk : k ≠ 0) (hs : Stp c c k wx W) (hE : EndV c k W p M') : Tak c k p P w W M' seq ack l ta tc :=
  ⟨h.stp.trans hs, hE, (hs.keep P (Array.getElem?_eq_some_iff.1 h.pkt).1 (by rw [h.col]; exact fun e => hk e.symm)).trans h.pkt, h.col, h.row.stp hs hk⟩

theorem Tak.drewN {c : Nat → Nat} {k p P : Nat} {w wx : World} {M : EndM} {seq ack : Int} {l : List UInt8} {ta : Option Addr} {tc : Nat} (h : Tak c k p P w wx M seq ack l ta tc) (hk : k ≠ 0) (q : Nat) : Tak c k p P w (wx.drewN q) M seq ack l ta tc :=
  h.step hk (Stp.of_below h.stp.fr (below_drewN (Below.refl _ _) q)) (h.fin.below h.stp.fr (below_drewN (Below.refl _ _) q))

/-- The message is held, if it is new. -/
theorem ackM_fields (M : EndM) (ack : Int) : (ackM M ack).delivered = M.delivered ∧ (ackM M ack).held = M.held ∧ (ackM M ack).key = M.key := by
  unfold ackM; split <;> exact ⟨rfl, rfl, rfl⟩

set_option maxRecDepth 100000 in
set_option maxHeartbeats 2000000 in
theorem in_main (c : Nat → Nat) (k p : Nat) (M : EndM) (w : World) (hf : Fr c w) (hk : k ≠ 0) (hw : Wf M) (hsm : M.acked ≤ 999000000 ∧ M.delivered ≤ 999000000) (h : EndV c k w p M) (ao : Option Addr) (n cp : Nat) (b : List UInt8) (hr : SlV w ao n cp 1 (bvs b)) (hn : n ≤ 100000000000) (m : List UInt8) (ho : openB M.key b = (m, 0)) (hm : m.length ≤ 100000000000) (seq ack : Int) (l : List UInt8) (hrd : readB m = some (seq, ack, l))
    (hA : ¬ (M.acked : Int) + M.waiting.length < ack) (hB : ¬ (M.delivered : Int) + 16 < seq) :
    Calls Try.prog 50 #[.pointer (some ⟨p, 0, none⟩), .slice ao n cp] w (InP c k w p (if seq = 0 then ackM M ack else delivM (holdM (ackM M ack) seq l)) (if seq = 0 then [] else delivL (holdM (ackM M ack) seq l)) 0) := by
  have hke := hw.key
  have hac := hw.ack
  have hwa := hw.wait
  have hde := hw.del
  have hva := read_valid hrd
  have hseq0 : 0 ≤ seq := hva.1
  have hack0 : 0 ≤ ack := hva.2.1
  have hll : l.length ≤ 65536 := hva.2.2.1
  have hwA := ackM_wf hw (ack := ack) (by omega) hsm.1
  obtain ⟨nd, nh, nk⟩ := ackM_fields M ack
  obtain ⟨N', hN'⟩ : ∃ N', ackM M ack = N' := ⟨_, rfl⟩
  rw [hN'] at hwA nd nh nk ⊢
  obtain ⟨R1, hR1⟩ : ∃ R1, (if seq = 0 then N' else delivM (holdM N' seq l)) = R1 := ⟨_, rfl⟩
  obtain ⟨R2, hR2⟩ : ∃ R2, (if seq = 0 then ([] : List (List UInt8)) else delivL (holdM N' seq l)) = R2 := ⟨_, rfl⟩
  rw [hR1, hR2]
  have HN' := Lib.hid hN'
  have HR1 := Lib.hid hR1
  have HR2 := Lib.hid hR2
  clear hN' hR1 hR2
  obtain ⟨wo, wc, mb, vs, hQ⟩ := h.open
  obtain ⟨x0, x1, x2, x3, x4, x5, x6, x7, f2, f3, f4, f6, f7⟩ := end_cells hQ.str
  have HQ := Lib.hid hQ
  have HW := Lib.hid hw
  have HWA := Lib.hid hwA
  clear h hQ hw hva hwA
  have s0 := True.intro
  go_enter Try.func50, Try.ntmps50
  go_upto_region 9 with (first
    | (clear s0; go_at_call 46; refine (lopen_any M.key hke ao n cp b _ hr hn m 0 ho).mono ?_; rintro e w1 ⟨a1, c1, rfl, ho1, hb1⟩; have s1 := True.intro)
    | (clear s1; go_at_call 70; refine (read_any a1 _ c1 m _ ho1 hm _ hrd).mono ?_; rintro e w2 ⟨ta, tc, rfl, hta, htb, hb2⟩; have s2 := True.intro))
  have hb12 := hb1.trans (hb2.mono hb1.size)
  have hb3 := hb12.alloc hb12.size (.cells #[.int .i64 seq, .int .i64 ack, .slice ta l.length tc] 103)
  have hT : Tak c k p w2.heap.size w (w2.alloc (.cells #[.int .i64 seq, .int .i64 ack, .slice ta l.length tc] 103)) M seq ack l ta tc :=
    ⟨Stp.of_below hf hb3, (HQ.out.below hf hb3).shut, heap_alloc_new w2 _, hf _ hb12.size, ta, tc, rfl, hta.below ((Below.refl _ _).alloc (Nat.le_refl _) _) (Nat.le_refl _), fun x hx _ => hf _ (Nat.le_trans hb1.size (htb x hx))⟩
  generalize w2.alloc (.cells #[.int .i64 seq, .int .i64 ack, .slice ta l.length tc] 103) = W3 at hb3 hT ⊢
  generalize w2.heap.size = P at hT ⊢
  clear x0 x1 x2 x3 x4 x5 x6 x7 f2 f3 f4 f6 f7 hta ho1 htb
  have HQ3 := Lib.hid (HQ.out.below hf hb3)
  obtain ⟨x0, x1, x2, x3, x4, x5, x6, x7, f2, f3, f4, f6, f7⟩ := end_cells HQ3.out.str
  obtain ⟨y0, y1, y2⟩ := pkt_cells hT.pkt
  have HT := Lib.hid hT
  clear hT
  have e1 : IntKind.i64.wrap ((M.acked : Int) + (M.waiting.length : Int)) = (M.acked : Int) + M.waiting.length := IntWalk.i64_in _ (by omega)
  have e2 : IntKind.i64.wrap ((M.delivered : Int) + 16) = (M.delivered : Int) + 16 := IntWalk.i64_in _ (by omega)
  have hdA : decide ((M.acked : Int) + M.waiting.length < ack) = false := by simpa using hA
  have hdB : decide ((M.delivered : Int) + 16 < seq) = false := by simpa using hB
  obtain ⟨D, hD⟩ : ∃ D, ack - (M.acked : Int) = D := ⟨_, rfl⟩
  have e3 : IntKind.i64.wrap (ack - (M.acked : Int)) = D := by rw [← hD]; exact IntWalk.i64_in _ (by omega)
  have HD := Lib.hid hD
  clear hD
  go_quiet (fail)
  have hT4 := HT.out.drewN hk nq
  have hQ4 := HQ3.out.below HT.out.stp.fr (below_drewN (Below.refl _ _) nq)
  generalize W3.drewN nq = W4 at hT4 hQ4 ⊢
  clear x0 x1 x2 x3 x4 x5 x6 x7 f2 f3 f4 f6 f7 y0 y1 y2 HT HQ3 hb3
  obtain ⟨x0, x1, x2, x3, x4, x5, x6, x7, f2, f3, f4, f6, f7⟩ := end_cells hQ4.str
  obtain ⟨y0, y1, y2⟩ := pkt_cells hT4.pkt
  have HT4 := Lib.hid hT4
  have HQ4 := Lib.hid hQ4
  clear hT4 hQ4
  go_upto_region 11 with fail
  go_quiet (fail)
  have hT5 := HT4.out.drewN hk nq
  have hQ5 := HQ4.out.below HT4.out.stp.fr (below_drewN (Below.refl _ _) nq)
  generalize W4.drewN nq = W5 at hT5 hQ5 ⊢
  clear x0 x1 x2 x3 x4 x5 x6 x7 f2 f3 f4 f6 f7 y0 y1 y2 HT4 HQ4
  obtain ⟨x0, x1, x2, x3, x4, x5, x6, x7, f2, f3, f4, f6, f7⟩ := end_cells hQ5.str
  obtain ⟨y0, y1, y2⟩ := pkt_cells hT5.pkt
  have HT5 := Lib.hid hT5
  have HQ5 := Lib.hid hQ5
  clear hT5 hQ5
  go_upto_if 72 with fail
  go_cut [71] (fun _ wx => Tak c k p P w wx N' seq ack l ta tc)
  case first =>
    by_cases hpos : 0 < D
    · obtain ⟨N, rfl⟩ : ∃ N : Nat, D = N := ⟨D.toNat, by omega⟩
      have hN1 : 1 ≤ N := by omega
      have hNL : N ≤ M.waiting.length := by have := HD.out; omega
      obtain ⟨g, cap, hg, _, _⟩ := HQ5.out.own.form (by omega)
      obtain ⟨rfl, rfl⟩ : wo = some ⟨g, 0, none⟩ ∧ wc = cap := by injection hg with a b c; exact ⟨a, c⟩
      have hackN : (ack.toNat : Int) = ack := by omega
      have hA : ackM M ack = { M with waiting := M.waiting.drop N, acked := ack.toNat } := by
        unfold ackM
        rw [HD.out, if_pos hpos]
        simp
      clear hg
      have s3 := True.intro
      go_wp2_with (first
        | (clear s3; go_at_call 71; refine (delete_any g wc M.waiting.length N vs _ HQ5.out.own HQ5.out.rows.one hN1 hNL hwa).mono ?_; rintro e w5 ⟨rfl, hown5, hgrow5⟩; obtain ⟨q1, q2, q3⟩ := HQ5.out.drop HT5.out.stp.fr hk hown5 hgrow5; obtain ⟨z0, z1, z2, z3, z4, z5, z6, z7, t2, t3, t4, t6, t7⟩ := end_cells (q3.trans HQ5.out.str); have hT6 := HT5.out.step hk q2 q1.shut; obtain ⟨v0, v1, v2⟩ := pkt_cells hT6.pkt; obtain ⟨r0, r1, r2, r3, r4, r5, r6, r7, o2, o3, o4, o6, o7⟩ := end_cells q1.str; have s4 := True.intro))
      go_meet
      obtain ⟨s1', s2'⟩ := q1.store hT6.stp.fr hk (M' := { M with waiting := M.waiting.drop N, acked := ack.toNat }) 3 (.int .i64 ack) (by simp [endCells, hackN]) rfl rfl
      rw [← HN'.out, hA]
      exact hT6.step hk s2' s1'.shut
    · have hA : ackM M ack = M := by
        unfold ackM
        rw [HD.out, if_neg hpos]
      go_wp2_with fail
      go_meet
      rw [← HN'.out, hA]
      exact HT5.out
  case rest =>
    clear x0 x1 x2 x3 x4 x5 x6 x7 f2 f3 f4 f6 f7 y0 y1 y2 HT5 HQ5 e1 e3 HD e2 HN'
    obtain ⟨wo6, wc6, mb6, vs6, hQ6⟩ := hcut.fin.open
    obtain ⟨x0, x1, x2, x3, x4, x5, x6, x7, f2, f3, f4, f6, f7⟩ := end_cells hQ6.str
    obtain ⟨y0, y1, y2⟩ := pkt_cells hcut.pkt
    have HT6 := Lib.hid hcut
    have HQ6 := Lib.hid hQ6
    clear hcut hQ6
    by_cases h0 : seq = 0
    · have h1 := HR1.out
      have h2 := HR2.out
      rw [if_pos h0] at h1 h2
      subst h1 h2
      have h0' : (seq == 0) = true := by simpa using h0
      go_wp2
      go_ret2
      exact ⟨c, _, HT6.out.stp, HT6.out.fin, rfl, ListC.nil _ _⟩
    · have h1 := HR1.out
      have h2 := HR2.out
      rw [if_neg h0] at h1 h2
      subst h1 h2
      clear HR1 HR2
      have h0' : (seq == 0) = false := by simpa using h0
      obtain ⟨hQ7, s7⟩ := HQ6.out.store HT6.out.stp.fr hk (M' := { N' with owing := true }) 6 (.bool true) (by simp [endCells]) rfl rfl
      have hT7 := HT6.out.step hk s7 hQ7.shut
      have hwh := holdM_wf HWA.out (seq := seq) (l := l) (by rw [nd]; omega) hll
      have hsd : seq ≤ (N'.delivered : Int) + 16 := by rw [nd]; omega
      have hdn : N'.delivered ≤ 1000000000 := HWA.out.del
      clear nd nh nk
      go_upto_region 18 with fail
      generalize wc.setCell ⟨p, 6, none⟩ (.bool true) = W7 at hQ7 s7 hT7 ⊢
      clear x0 x1 x2 x3 x4 x5 x6 x7 f2 f3 f4 f6 f7 y0 y1 y2 HT6 HQ6 s7 hdA hdB
      obtain ⟨x0, x1, x2, x3, x4, x5, x6, x7, f2, f3, f4, f6, f7⟩ := end_cells hQ7.str
      obtain ⟨y0, y1, y2⟩ := pkt_cells hT7.pkt
      have HT7 := Lib.hid hT7
      have HQ7 := Lib.hid hQ7
      clear hT7 hQ7
      obtain ⟨is, v, hlk, his⟩ : ∃ (is : Bool) (v : Value), (∀ n, (Instr.lookup 99 (.map (some mb6)) (.int .i64 seq) true).run Try.prog (W7.drewN n) = .ok (.tuple #[v, .bool is]) (W7.drewN n)) ∧ (is = false ↔ N'.held seq = none) := by
        cases hq : N'.held seq with
        | none => exact ⟨false, _, fun n => (HQ7.out.map.look (w' := W7.drewN n) seq rfl).1 hq, by simp⟩
        | some l0 =>
          obtain ⟨v, _, hlk0⟩ := (HQ7.out.map.look (w' := W7) seq rfl).2 l0 hq
          exact ⟨true, v, fun n => hlk0 (W7.drewN n) rfl, by simp⟩
      have HI := Lib.hid his
      clear his
      go_quiet (fail)
      have hT8 := HT7.out.drewN hk nq
      have hQ8 := HQ7.out.below HT7.out.stp.fr (below_drewN (Below.refl _ _) nq)
      generalize W7.drewN nq = W8 at hT8 hQ8 ⊢
      clear x0 x1 x2 x3 x4 x5 x6 x7 f2 f3 f4 f6 f7 y0 y1 y2 HT7 HQ7 hlk
      obtain ⟨x0, x1, x2, x3, x4, x5, x6, x7, f2, f3, f4, f6, f7⟩ := end_cells hQ8.str
      obtain ⟨y0, y1, y2⟩ := pkt_cells hT8.pkt
      have HT8 := Lib.hid hT8
      have HQ8 := Lib.hid hQ8
      clear hT8 hQ8
      by_cases hc : (N'.delivered : Int) < seq ∧ N'.held seq = none
      · obtain rfl : is = false := HI.out.2 hc.2
        have hcd : decide ((N'.delivered : Int) < seq) = true := by simpa using hc.1
        have hHM : holdM N' seq l = { N' with owing := true, held := putH N'.held seq l } := by unfold holdM; rw [if_pos hc]
        have HC := Lib.hid hc
        clear hc
        go_upto_region 19 with fail
        go_quiet (fail)
        have hT9 := HT8.out.drewN hk nq
        have hQ9 := HQ8.out.below HT8.out.stp.fr (below_drewN (Below.refl _ _) nq)
        generalize W8.drewN nq = W9 at hT9 hQ9 ⊢
        clear x0 x1 x2 x3 x4 x5 x6 x7 f2 f3 f4 f6 f7 y0 y1 y2 HT8 HQ8
        obtain ⟨x0, x1, x2, x3, x4, x5, x6, x7, f2, f3, f4, f6, f7⟩ := end_cells hQ9.str
        obtain ⟨y0, y1, y2⟩ := pkt_cells hT9.pkt
        have HT9 := Lib.hid hT9
        have HQ9 := Lib.hid hQ9
        clear hT9 hQ9
        have hsl : SlV W9 ta l.length tc 1 (bvs l) := by
          obtain ⟨a, b, e, h, _⟩ := HT9.out.row
          injection e with e1 _ e2
          subst e1 e2
          exact h
        have hfr : Fr c W9 := HT9.out.stp.fr
        have hPm : P ≠ mb6 := fun e => hk (by rw [← HQ9.out.cm, ← e]; exact HT9.out.col)
        have hPl : P < W9.heap.size := (Array.getElem?_eq_some_iff.1 HT9.out.pkt).1
        have hS : ∀ (w' : World) (K : EndM) , w'.heap[p]? = some (.cells (endCells K wo6 wc6 mb6) 101 (0, 0)) → w'.heap[P]? = some (.cells #[.int .i64 seq, .int .i64 ack, .slice ta l.length tc] 103 (0, 0)) → w'.cell? ⟨p, 5, none⟩ = some (.map (some mb6)) ∧ w'.cell? ⟨P, 0, none⟩ = some (.int .i64 seq) ∧ w'.cell? ⟨P, 2, none⟩ = some (.slice ta l.length tc) := fun w' K h1 h2 => by
          obtain ⟨z0, z1, z2, z3, z4, z5, _⟩ := end_cells h1
          obtain ⟨v0, v1, v2⟩ := pkt_cells h2
          exact ⟨z5, v0, v2⟩
        have m0 : W9.drew.cell? ⟨p, 5, none⟩ = some (.map (some mb6)) ∧ W9.drew.cell? ⟨P, 0, none⟩ = some (.int .i64 seq) ∧ W9.drew.cell? ⟨P, 2, none⟩ = some (.slice ta l.length tc) := hS _ _ HQ9.out.str HT9.out.pkt
        clear x0 x1 x2 x3 x4 x5 x6 x7 f2 f3 f4 f6 f7 y0 y1 y2
        go_upto_region 20 with fail
        go_region_held_law (fun w' => w'.cell? ⟨p, 5, none⟩ = some (.map (some mb6)) ∧ w'.cell? ⟨P, 0, none⟩ = some (.int .i64 seq) ∧ w'.cell? ⟨P, 2, none⟩ = some (.slice ta l.length tc)) (first | exact m2 | exact m1 | exact m0) (first
          | (go_at_call 69; refine (clone_any ta l.length tc l _ hsl.drew (by omega)).mono ?_; rintro e w4 ⟨a4, c4, rfl, ho4, hb4⟩; have hb0 := below_of_drew hb4; obtain ⟨W10, hrun, hQ10, s10, hoth⟩ := (HQ9.out.below hfr hb0).put (hfr.below hb0) hk HC.out.2 (RowC.own (w := W9.drew) hfr ho4); have m1 := hS _ _ ((HQ9.out.below hfr hb0).str) ((hb0.block P hPl).trans HT9.out.pkt); have m2 := hS _ _ hQ10.str ((hoth P hPm).trans ((hb0.block P hPl).trans HT9.out.pkt))))
        have hE := hQ10.shut
        rw [← hHM] at hE
        have hst : Stp c c k w W10 := (HT9.out.stp.trans (Stp.of_below hfr hb0)).trans s10
        have s9 := True.intro
        go_wp2_with (first
          | (clear s9; go_at_call 72; refine (deliver_any c k p _ _ hst.fr hk hwh hE).mono ?_; rintro e w9 ⟨c9, v9, st9, en9, rfl, li9⟩; have s10' := True.intro))
        go_ret2
        exact ⟨c9, v9, hst.trans st9, en9, rfl, li9⟩
      · have hHM : holdM N' seq l = { N' with owing := true } := by unfold holdM; rw [if_neg hc]
        have hE8 := HQ8.out.shut
        rw [← hHM] at hE8
        by_cases hd : (N'.delivered : Int) < seq
        · have hcd : decide ((N'.delivered : Int) < seq) = true := by simpa using hd
          obtain rfl : is = true := by
            cases is with
            | true => rfl
            | false => exact absurd ⟨hd, HI.out.1 rfl⟩ hc
          clear hc
          go_upto_region 19 with fail
          go_quiet (fail)
          have hst := (HT8.out.drewN hk nq).stp
          have hE9 := hE8.below HT8.out.stp.fr (below_drewN (Below.refl _ _) nq)
          have s9 := True.intro
          go_wp2_with (first
            | (clear s9; go_at_call 72; refine (deliver_any c k p _ _ hst.fr hk hwh hE9).mono ?_; rintro e w9 ⟨c9, v9, st9, en9, rfl, li9⟩; have s10' := True.intro))
          go_ret2
          exact ⟨c9, v9, hst.trans st9, en9, rfl, li9⟩
        · have hcd : decide ((N'.delivered : Int) < seq) = false := by simpa using hd
          clear hc
          go_upto_region 19 with fail
          go_quiet (fail)
          have hst := (HT8.out.drewN hk nq).stp
          have hE9 := hE8.below HT8.out.stp.fr (below_drewN (Below.refl _ _) nq)
          have s9 := True.intro
          go_wp2_with (first
            | (clear s9; go_at_call 72; refine (deliver_any c k p _ _ hst.fr hk hwh hE9).mono ?_; rintro e w9 ⟨c9, v9, st9, en9, rfl, li9⟩; have s10' := True.intro))
          go_ret2
          exact ⟨c9, v9, hst.trans st9, en9, rfl, li9⟩

/-- In. -/
theorem in_any (c : Nat → Nat) (k p : Nat) (M : EndM) (w : World) (hf : Fr c w) (hk : k ≠ 0) (hw : Wf M) (hsm : M.acked ≤ 999000000 ∧ M.delivered ≤ 999000000) (h : EndV c k w p M) (ao : Option Addr) (n cp : Nat) (b : List UInt8) (hr : SlV w ao n cp 1 (bvs b)) (hn : n ≤ 100000000000) :
    Calls Try.prog 50 #[.pointer (some ⟨p, 0, none⟩), .slice ao n cp] w (InP c k w p (inM M b).1 (inM M b).2.1 (inM M b).2.2) := by
  have hbn : b.length = n := by have := hr.len; simpa using this
  by_cases he : (openB M.key b).2 ≠ 0
  · unfold inM
    rw [if_pos he]
    exact in_err c k p M w hf hk hw h ao n cp b hr hn he
  · have he0 : (openB M.key b).2 = 0 := by omega
    obtain ⟨m, hm⟩ : ∃ m, (openB M.key b).1 = m := ⟨_, rfl⟩
    have ho : openB M.key b = (m, 0) := by rw [← hm, ← he0]
    have hml : m.length ≤ 100000000000 := by
      rw [← hm]
      unfold openB
      split
      · simp
      · split
        · simp only [List.length_take]; omega
        · simp
    unfold inM
    rw [if_neg he, hm]
    cases hrd : readB m with
    | none => exact in_none c k p M w hf hw h ao n cp b hr hn m ho hml hrd
    | some t =>
      obtain ⟨seq, ack, l⟩ := t
      simp only
      by_cases hfar : (M.acked : Int) + M.waiting.length < ack ∨ (M.delivered : Int) + 16 < seq
      · rw [if_pos hfar]
        exact in_far c k p M w hf hw h ao n cp b hr hn m ho hml seq ack l hrd hfar
      · rw [if_neg hfar]
        have := in_main c k p M w hf hk hw hsm h ao n cp b hr hn m ho hml seq ack l hrd (fun h => hfar (.inl h)) (fun h => hfar (.inr h))
        by_cases h0 : seq = 0
        · rw [if_pos h0]
          rw [if_pos h0, if_pos h0] at this
          exact this
        · rw [if_neg h0]
          rw [if_neg h0, if_neg h0] at this
          exact this

end Go.Proofs.Ytcpemgfpiapaaaa
