/- FlightKnown: the run of the law, by the kernel. No conditions. -/
import Derived.Test.YtedncncfcmnnbaaAbsZD
import Derived.Test.YtedncncfcmnnbaaChecked
import Derived.KernelRfl
namespace Go.Proofs.Ytedncncfcmnnbaa
open Go.RowKit
def asB : Value → AHeap → List Nat → Option Bool
  | .bool b, _, _ => some b
  | _, _, _ => none
theorem asB_true {v : Value} {h : AHeap} {wr : List Nat} (e : asB v h wr = some true) : v = .bool true := by
  unfold asB at e
  split at e
  · cases e; rfl
  · cases e
theorem flightKnownRun : callK (A := Bool) Try.prog noS (fev Try.prog noS 5000) 3 [] emptyH asB = some true := by kernel_rfl
theorem flightKnownWalk (w : World) : Calls Try.prog 3 #[] w fun e w' => e = .returned (.bool true) ∧ Below w.heap.size w w' := by
  obtain ⟨v, h', wr, hc, he⟩ := callRun_of (noS_ok _) flightKnownRun
  obtain rfl := asB_true he
  exact calls_of (by kernel_rfl) hc (by simp) rfl w
end Go.Proofs.Ytedncncfcmnnbaa
