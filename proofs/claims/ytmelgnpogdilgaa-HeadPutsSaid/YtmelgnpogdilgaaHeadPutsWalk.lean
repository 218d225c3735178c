/- HeadPuts: the walk: the law returns true and turns nothing that was there. -/
import Derived.Test.YtmelgnpogdilgaaHeadPutsS
import Derived.Test.YtmelgnpogdilgaaHeadI
import Derived.ProofKit
import Derived.OpenShut
import Derived.ChangeOld
namespace Go.Proofs.Ytmelgnpogdilgaa
set_option linter.unusedVariables false
open Go.ChangeShapes Go.WideShapes Go.ChangeAt Go.RowKit
set_option maxRecDepth 100000
theorem headPutsWalk {H : Type} {enc : TypeId × Value → H} {base : Nat} {d0 d1 : DataW H} {p0 p1 : List MemPlace} (v0 v1 : Value) (W : World) (o0 : Value.okWide Try.prog W .any base 46 v0) (h0 : DataW.Trod enc Try.prog W 0 (fun _ => true) true 46 v0 d0 p0) (o1 : Value.okWide Try.prog W .any base 23 v1) (h1 : DataW.Trod enc Try.prog W 0 (fun _ => true) true 23 v1 d1 p1) : Calls Try.prog 6 #[v0, v1] W fun e w' => e = .returned (.bool true) ∧ Below W.heap.size W w' := by
  obtain ⟨m, h, I, _, _, f, t, g, hv0, b1, b2, b3⟩ := imp_head o0 h0 (Im.empty Try.prog W)
  obtain ⟨m', h', I', hm, _, a, cap, zs, hv1, hz, hc⟩ := imp_bytes o1 h1 I
  refine calls_imp noGlobals I' rfl (headPuts_spec f t g b1 b2 b3 a cap zs hc h' hz) ?_
  exact (ARel.single (hv0.mono hm)).push hv1
end Go.Proofs.Ytmelgnpogdilgaa
