/- Headers and bytes that come in. No conditions. -/
import Derived.Test.YtmelgnpogdilgaaHeadT
import Derived.Test.YtmelgnpogdilgaaSymI
import Derived.WideShapes
namespace Go.Proofs.Ytmelgnpogdilgaa
set_option linter.unusedVariables false
set_option maxRecDepth 100000
theorem hu8 : Try.prog.underlying 5 = some (.int .u8) := by kernel_rfl
theorem hu16 : Try.prog.underlying 22 = some (.int .u16) := by kernel_rfl
theorem hu32 : Try.prog.underlying 44 = some (.int .u32) := by kernel_rfl
theorem hbytesU : Try.prog.underlying 23 = some (.slice 5) := by kernel_rfl
theorem head_of {h : AHeap} {H : Type} {cs : List Value} {d : DataW H} (r : ARd Try.prog h 46 cs d) : ∃ f t g : Nat, cs = [.int .u16 f, .int .u16 t, .int .u32 g] ∧ f < 65536 ∧ t < 65536 ∧ g < 4294967296 := by
  obtain ⟨hl, hf⟩ := r.field Try.underlying46
  rw [show Try.prog.cellsOf 46 = 3 from by kernel_rfl] at hl
  match cs, hl with
  | [c0, c1, c2], _ =>
    obtain ⟨d0, r0⟩ := hf 0 22 0 1 rfl (by kernel_rfl)
    obtain ⟨d1, r1⟩ := hf 1 22 1 1 rfl (by kernel_rfl)
    obtain ⟨d2, r2⟩ := hf 2 44 2 1 rfl (by kernel_rfl)
    obtain ⟨f, e0, h0⟩ := r0.u_inv rfl hu16
    obtain ⟨t, e1, h1⟩ := r1.u_inv rfl hu16
    obtain ⟨g, e2, h2⟩ := r2.u_inv rfl hu32
    simp at e0 e1 e2
    subst e0 e1 e2
    exact ⟨f, t, g, rfl, h0, h1, h2⟩
theorem plainHead : plainB Try.prog 3 46 = true := by kernel_rfl
theorem plainBytes : plainB Try.prog 3 23 = true := by kernel_rfl
/-- A header that comes in. -/
theorem imp_head {H : Type} {enc : TypeId × Value → H} {W : World} {m : Mp} {h : AHeap} {base : Nat} {v : Value} {d : DataW H} {ps : List MemPlace} (o : Value.okWide Try.prog W .any base 46 v) (ht : DataW.Trod enc Try.prog W 0 (fun _ => true) true 46 v d ps) (I : Im Try.prog W m h) :
    ∃ m' h', Im Try.prog W m' h' ∧ m.le m' ∧ Same h h' ∧ ∃ f t g : Nat, VRel m' (hdV f t g) v ∧ f < 65536 ∧ t < 65536 ∧ g < 4294967296 := by
  obtain ⟨c, rfl, _⟩ := WideShapes.okWide_struct Try.underlying46 o
  obtain ⟨m', h', cs, I', hm, hs, hA, hR, _⟩ := imp_val plainHead ht I
  have hv := vrel_agg hA
  obtain ⟨f, t, g, rfl, b1, b2, b3⟩ := head_of hR
  exact ⟨m', h', I', hm, hs, f, t, g, hv, b1, b2, b3⟩
/-- Bytes that come in. -/
theorem imp_bytes {H : Type} {enc : TypeId × Value → H} {W : World} {m : Mp} {h : AHeap} {base : Nat} {v : Value} {d : DataW H} {ps : List MemPlace} (o : Value.okWide Try.prog W .any base 23 v) (ht : DataW.Trod enc Try.prog W 0 (fun _ => true) true 23 v d ps) (I : Im Try.prog W m h) :
    ∃ m' h', Im Try.prog W m' h' ∧ m.le m' ∧ Same h h' ∧ ∃ (a : Option Addr) (cap : Nat) (zs : List UInt8), VRel m' (.slice a zs.length cap) v ∧ Rv Try.prog h' 1 a zs.length cap (zs.map bv) ∧ cap ≤ maxLen := by
  obtain ⟨a0, l0, c0, rfl⟩ := WideShapes.okWide_slice hbytesU o
  obtain ⟨m', h', cs, I', hm, hs, hA, hR, hl⟩ := imp_val plainBytes ht I
  obtain ⟨x, rfl, hv⟩ := vrel_one hA (by rw [hl]; kernel_rfl) rfl
  obtain ⟨a, cap, zs, e, hz, hc⟩ := hR.bytes hbytesU hu8 (by kernel_rfl)
  cases e
  exact ⟨m', h', I', hm, hs, a, cap, zs, hv, hz, hc⟩
end Go.Proofs.Ytmelgnpogdilgaa
