/- CrcSums: the walk: the law returns true and turns nothing that was there. -/
import Derived.Test.YtefdedjnkmpkjaaCrcKnown
import Derived.Test.YtefdedjnkmpkjaaOpen
namespace Go.Proofs.Ytefdedjnkmpkjaa
set_option linter.unusedVariables false
open Go.RowKit

set_option maxHeartbeats 400000 in
theorem crcSumsWalk (a0 : Int) (a1 : Option Addr) (len1 cap1 : Nat) (z1 : List UInt8) (w : World) (w0 : (Lit.int .u32 a0).wf = true) (w1 : IsBytes w a1 len1 cap1 z1) :
    Calls Try.prog 3 #[.int .u32 a0, .slice a1 len1 cap1] w fun e w' => e = .returned (.bool true) ∧ Below w.heap.size w w' := by
  obtain ⟨rfl, hlc, hcm, _, hr⟩ := w1
  have hb0 : 0 ≤ a0 ∧ a0 < 4294967296 := by
    have : 0 ≤ a0 ∧ a0 ≤ 4294967295 := by simpa [Lit.wf, IntKind.min, IntKind.max, IntKind.signed, IntKind.bits] using w0
    omega
  clear w0
  have HR := Lib.hid hr; clear hr
  go_enter Try.func3, Try.ntmps3
  go_wp2_with fail
  refine (crcKnown _).mono ?_
  rintro e w1 ⟨rfl, hb1⟩
  by_cases h5 : z1.length ≤ 5000
  · have h5' : ¬ (5000 : Int) < (z1.length : Int) := by omega
    go_wp2_with fail
    refine (sum_any _ _ z1 (by omega) _ ((HR.out.below hb1 (Nat.le_refl _)).more hb1.size)).mono ?_
    rintro e w2 ⟨rfl, hb2⟩
    have hb2' := hb1.trans (hb2.mono hb1.size)
    clear hb2
    go_wp2_with fail
    refine (refSum_any _ _ z1 (by omega) _ ((HR.out.below hb2' (Nat.le_refl _)).more hb2'.size)).mono ?_
    rintro e w3 ⟨rfl, rfl⟩
    go_wp2_with fail
    refine (more_any _ hb0.1 hb0.2 _ _ z1 (by omega) _ ((HR.out.below hb2' (Nat.le_refl _)).more hb2'.size)).mono ?_
    rintro e w4 ⟨rfl, hb4⟩
    have hb4' := hb2'.trans (hb4.mono hb2'.size)
    clear hb4
    go_wp2_with fail
    refine (refMore_any _ hb0.1 hb0.2 _ _ z1 (by omega) _ ((HR.out.below hb4' (Nat.le_refl _)).more hb4'.size)).mono ?_
    rintro e w5 ⟨rfl, rfl⟩
    go_wp2_with fail
    go_ret
    exact ⟨rfl, hb4'⟩
  · have h5' : (5000 : Int) < (z1.length : Int) := by omega
    go_wp2_with fail
    go_ret
    exact ⟨rfl, hb1⟩
end Go.Proofs.Ytefdedjnkmpkjaa
