/- The document's Same of two answers is true: the walks. -/
import Derived.Test.YtefdedjnkmpkjaaOotbRef
namespace Go.Proofs.Ytefdedjnkmpkjaa
set_option linter.unusedVariables false
open Go.RowKit

set_option maxRecDepth 100000 in
set_option maxHeartbeats 1000000 in
theorem same05_ans (k : Int) (w : World) :
    Calls Try.prog 46 #[.agg (ansCells k), .agg (ansCells k)] w fun e w' => e = .returned (.bool true) ∧ Below w.heap.size w w' := by
  unfold ansCells
  have hnil := fun (w : World) => run_convert_bytes_nil (P := Try.prog) w 23 5 Try.underlying23 Try.underlying5 0 0 9 Try.underlying9
  have hkk : (k != k) = false := by simp
  go_enter Try.func46, Try.ntmps46
  go_wp2
  refine wp_loop_once ?_
  go_wp2
  refine wp_loop_once ?_
  go_wp2
  refine wp_loop_once ?_
  go_wp2
  refine wp_loop_once ?_
  go_wp2
  go_ret
  exact ⟨rfl, (Below.one _).alloc (Below.one _).size _⟩
end Go.Proofs.Ytefdedjnkmpkjaa
