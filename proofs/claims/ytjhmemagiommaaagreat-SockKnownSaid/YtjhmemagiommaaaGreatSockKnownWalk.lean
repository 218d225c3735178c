/- SockKnown: the run of the law, by the kernel. No conditions. -/
import Derived.Test.YtjhmemagiommaaaGreatRowSumm
namespace Go.Proofs.YtjhmemagiommaaaGreat
open Go.RowKit
theorem sockKnownRun : callK (A := Bool) Tryz.prog rowS (fev Tryz.prog rowS 200000) 4 [] emptyH asB = some true := by kernel_rfl
theorem sockKnownWalk (w : World) : Calls Tryz.prog 4 #[] w fun e w' => e = .returned (.bool true) ∧ Below w.heap.size w w' := by
  obtain ⟨v, h', wr, hc, he⟩ := callRun_of rowS_ok sockKnownRun
  obtain rfl := asB_true he
  exact calls_of (by kernel_rfl) hc (by simp) rfl w
end Go.Proofs.YtjhmemagiommaaaGreat
