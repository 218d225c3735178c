/- The statements' own known() of layer 1 returns true. -/
import Derived.Test.YtefdedjnkmpkjaaCrcWalk
import Derived.Lib.SlBytesConst
namespace Go.Proofs.Ytefdedjnkmpkjaa
open Go.RowKit
theorem sumKnown : Crc.sum [49, 50, 51, 52, 53, 54, 55, 56, 57] = 3808858755 := by decide +kernel
set_option maxHeartbeats 400000 in
theorem crcKnown (w : World) : Calls Try.prog 15 #[] w fun e w' => e = .returned (.bool true) ∧ Below w.heap.size w w' := by
  have kc := fun (w : World) (C : Array Value) (n c : Nat) => Lib.run_convert_bytes_const (P := Try.prog) w 23 5 C n c Try.underlying23 Try.underlying5
  go_enter Try.func15, Try.ntmps15
  go_wp2_with fail
  refine (sum_any _ 9 [49, 50, 51, 52, 53, 54, 55, 56, 57] (by decide) _ (Rd.new w _ _ _)).mono ?_
  rintro e w1 ⟨rfl, hb1⟩
  have hb1' : Below w.heap.size w w1 := ((Below.refl _ _).alloc (Nat.le_refl _) _).trans (hb1.mono (by simp))
  clear hb1
  rw [sumKnown]
  go_wp2_with fail
  refine (sum_any _ 0 [] (by decide) _ (Rd.nil _ _ _)).mono ?_
  rintro e w2 ⟨rfl, hb2⟩
  have hb2' := hb1'.trans (hb2.mono hb1'.size)
  clear hb2
  have hs : Crc.sum [] = 0 := by decide
  rw [hs]; clear hs
  go_wp2_with fail
  refine (more_any _ (by omega) (by omega) _ 0 [] (by decide) _ (Rd.nil _ _ _)).mono ?_
  rintro e w3 ⟨rfl, hb3⟩
  have hb3' := hb2'.trans (hb3.mono hb2'.size)
  clear hb3
  have hs : Crc.more (5 : Int).toNat [] = 5 := by decide
  rw [hs]; clear hs
  go_wp2_with fail
  go_ret
  exact ⟨rfl, hb3'⟩
end Go.Proofs.Ytefdedjnkmpkjaa
