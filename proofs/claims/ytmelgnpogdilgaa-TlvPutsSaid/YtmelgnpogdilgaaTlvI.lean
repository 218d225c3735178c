/- Things that come in. No conditions. -/
import Derived.Test.YtmelgnpogdilgaaTlvS
namespace Go.Proofs.Ytmelgnpogdilgaa
set_option linter.unusedVariables false
theorem u8b : Try.prog.underlying 5 = some (.int .u8) := by kernel_rfl
theorem u16b : Try.prog.underlying 22 = some (.int .u16) := by kernel_rfl
theorem bytesB : Try.prog.underlying 23 = some (.slice 5) := by kernel_rfl
theorem tlv_of {h : AHeap} {H : Type} {cs : List Value} {d : DataW H} (r : ARd Try.prog h 25 cs d) : ∃ (kind flags : Nat) (a : Option Addr) (cap : Nat) (zs : List UInt8), cs = [.int .u16 kind, .int .u8 flags, .slice a zs.length cap] ∧ kind < 65536 ∧ flags < 256 ∧ Rv Try.prog h 1 a zs.length cap (zs.map bv) ∧ cap ≤ maxLen := by
  obtain ⟨hl, hf⟩ := r.field Try.underlying25
  rw [show Try.prog.cellsOf 25 = 3 from by kernel_rfl] at hl
  match cs, hl with
  | [c0, c1, c2], _ =>
    obtain ⟨d0, r0⟩ := hf 0 22 0 1 rfl (by kernel_rfl)
    obtain ⟨d1, r1⟩ := hf 1 5 1 1 rfl (by kernel_rfl)
    obtain ⟨d2, r2⟩ := hf 2 23 2 1 rfl (by kernel_rfl)
    obtain ⟨kind, e0, hk⟩ := r0.u_inv rfl u16b
    obtain ⟨flags, e1, hfl⟩ := r1.u_inv rfl u8b
    obtain ⟨a, cap, zs, e2, hR, hm⟩ := r2.bytes bytesB u8b (by kernel_rfl)
    simp at e0 e1 e2
    subst e0 e1 e2
    exact ⟨kind, flags, a, cap, zs, rfl, hk, hfl, hR, hm⟩
end Go.Proofs.Ytmelgnpogdilgaa
