/- An argument's row, as the claims' frames tell it, read as a list. -/
import Derived.Test.YtcpemgfpiapaaaaMem
import Derived.Test.YtcpemgfpiapaaaaDec
namespace Go.Proofs.Ytcpemgfpiapaaaa
open Go.RowKit

/-- What the frame tells of a row of numbers. -/
def RowOf (k : IntKind) (w : World) (a : Option Addr) (len cap : Nat) (zs : List Int) : Prop :=
  (a = none ∧ len = 0 ∧ cap = 0 ∧ zs = []) ∨
  ∃ x, a = some x ∧ len ≤ cap ∧ cap ≤ maxLen ∧ zs.length = cap ∧ (∀ i, i < zs.length → w.cell? (x.add i) = some (.int k (zs.getD i 0))) ∧ ∀ n ∈ zs, (Lit.int k n).wf = true

theorem slv_of_row {k : IntKind} {w : World} {a : Option Addr} {len cap : Nat} {zs : List Int} (h : RowOf k w a len cap zs) : SlV w a len cap 1 ((zs.take len).map (Value.int k)) := by
  rcases h with ⟨rfl, rfl, rfl, rfl⟩ | ⟨x, rfl, h1, h2, h3, h4, h5⟩
  · exact ⟨rfl, Nat.le_refl _, by simp, fun _ => rfl, fun a ha => by cases ha⟩
  · refine ⟨by simp; omega, h1, h2, fun h => by (cases h), fun a ha j u hj => ?_⟩
    cases ha
    have hj' : j < len := by
      have := (List.getElem?_eq_some_iff.1 hj).1
      rw [List.length_map, List.length_take] at this
      omega
    rw [h4 j (by omega), ← hj, List.getElem?_map, List.getElem?_take_of_lt hj', List.getD_eq_getElem?_getD, List.getElem?_eq_getElem (by omega)]
    rfl

theorem sl_bytes {w : World} {a : Option Addr} {len cap : Nat} {zs : List Int} (h : RowOf .u8 w a len cap zs) : ∃ l, SlV w a len cap 1 (bvs l) := by
  refine ⟨(zs.take len).map (fun z => UInt8.ofNat z.toNat), ?_⟩
  have hs := slv_of_row h
  have e : bvs ((zs.take len).map (fun z => UInt8.ofNat z.toNat)) = (zs.take len).map (Value.int .u8) := by
    unfold bvs
    rw [List.map_map]
    apply List.map_congr_left
    intro z hz
    have hz' : z ∈ zs := List.mem_of_mem_take hz
    rcases h with ⟨_, _, _, rfl⟩ | ⟨x, _, _, _, _, _, h5⟩
    · cases hz'
    · have := h5 z hz'
      simp [Lit.wf] at this
      rw [show IntKind.u8.min = 0 from by decide, show IntKind.u8.max = 255 from by decide] at this
      show bv _ = _
      unfold bv
      congr 1
      simp
      omega
  rw [e]
  exact hs

theorem sl_ints {w : World} {a : Option Addr} {len cap : Nat} {zs : List Int} (h : RowOf .i64 w a len cap zs) : ∃ l : List Int, SlV w a len cap 1 (l.map iv) ∧ ∀ x ∈ l, InR x := by
  refine ⟨zs.take len, slv_of_row h, ?_⟩
  intro z hz
  have hz' : z ∈ zs := List.mem_of_mem_take hz
  rcases h with ⟨_, _, _, rfl⟩ | ⟨x, _, _, _, _, _, h5⟩
  · cases hz'
  · have := h5 z hz'
    simp [Lit.wf] at this
    rw [show IntKind.i64.min = -9223372036854775808 from by decide] at this
    unfold InR
    omega

theorem inr_wf {n : Int} (h : (Lit.int .i64 n).wf = true) : InR n := by
  simp [Lit.wf] at h
  rw [show IntKind.i64.min = -9223372036854775808 from by decide] at h
  unfold InR
  omega

end Go.Proofs.Ytcpemgfpiapaaaa
