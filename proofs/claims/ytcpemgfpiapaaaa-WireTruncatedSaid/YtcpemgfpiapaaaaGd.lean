/- An operation under a guard that holds is carried out as one without a guard. -/
import Derived.Test.YtcpemgfpiapaaaaMem
namespace Go.Proofs.Ytcpemgfpiapaaaa

theorem wpList_unguard {P : Program} {ops : Array Oper} {Q : Exit → Act → World → Prop} {a : Act} {w : World} {rest : List Oper} {o : Oper} (hw : Region.wanted o (yielded ops a.tmps) = true)
    (h : wpList P ops Q ({ o with guard := none } :: rest) a w) : wpList P ops Q (o :: rest) a w := by
  unfold wpList at h ⊢
  rw [if_pos hw]
  rw [if_pos (show Region.wanted { o with guard := none } (yielded ops a.tmps) = true from rfl)] at h
  exact h

end Go.Proofs.Ytcpemgfpiapaaaa
