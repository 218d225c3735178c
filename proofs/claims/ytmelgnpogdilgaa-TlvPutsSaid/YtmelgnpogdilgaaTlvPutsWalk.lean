/- TlvPuts: the walk: the law returns true and turns nothing that was there. -/
import Derived.Test.YtmelgnpogdilgaaTlvPutsS
import Derived.Test.YtmelgnpogdilgaaTlvI
import Derived.ProofKit
import Derived.OpenShut
import Derived.ChangeOld
namespace Go.Proofs.Ytmelgnpogdilgaa
set_option linter.unusedVariables false
open Go.ChangeShapes Go.WideShapes Go.ChangeAt Go.RowKit
set_option maxRecDepth 100000
theorem plainTlv : plainB Try.prog 3 25 = true := by kernel_rfl
theorem tlvPutsWalk {H : Type} {enc : TypeId × Value → H} {base : Nat} {d1 : DataW H} {p1 : List MemPlace} (a0 : Bool) (v1 : Value) (W : World) (o1 : Value.okWide Try.prog W .any base 25 v1) (h1 : DataW.Trod enc Try.prog W 0 (fun _ => true) true 25 v1 d1 p1) : Calls Try.prog 3 #[.bool a0, v1] W fun e w' => e = .returned (.bool true) ∧ Below W.heap.size W w' := by
  obtain ⟨c1, rfl, hsz⟩ := okWide_struct Try.underlying25 o1
  obtain ⟨m, h, cs, I, _, _, hA, hR, hl⟩ := imp_val plainTlv h1 (Im.empty Try.prog W)
  have hv := vrel_agg hA
  obtain ⟨kind, flags, a, cap, zs, rfl, hk, hf, hz, hm⟩ := tlv_of hR
  refine calls_imp noGlobals I rfl (tlvPuts_spec a0 kind flags a cap hk hf zs hm h hz) ?_
  exact (ARel.single (.bool a0)).push hv
end Go.Proofs.Ytmelgnpogdilgaa
