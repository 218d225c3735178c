/- CrcParts: the walk: the law returns true and turns nothing that was there. -/
import Derived.Test.YtefdedjnkmpkjaaCrcKnown
import Derived.Test.YtefdedjnkmpkjaaOpen
namespace Go.Proofs.Ytefdedjnkmpkjaa
set_option linter.unusedVariables false
open Go.RowKit

set_option maxRecDepth 100000 in
set_option maxHeartbeats 400000 in
theorem crcPartsWalk (a0 : Option Addr) (len0 cap0 : Nat) (z0 : List UInt8) (a1 : Int) (w : World) (w0 : IsBytes w a0 len0 cap0 z0) (w1 : (Lit.int .i64 a1).wf = true) :
    Calls Try.prog 4 #[.slice a0 len0 cap0, .int .i64 a1] w fun e w' => e = .returned (.bool true) ∧ Below w.heap.size w w' := by
  obtain ⟨rfl, hlc, hcm, _, hr⟩ := w0
  have hcm' : cap0 ≤ 9223372036854775807 := hcm
  clear w1 hcm
  have HR := Lib.hid hr; clear hr
  by_cases h5 : z0.length ≤ 20000 ∧ 0 ≤ a1 ∧ a1 ≤ z0.length
  · obtain ⟨h5, hc0, hc1⟩ := h5
    obtain ⟨c, rfl⟩ := Int.eq_ofNat_of_zero_le hc0
    go_enter Try.func4, Try.ntmps4
    go_wp2_with fail
    refine (crcKnown _).mono ?_
    rintro e w1 ⟨rfl, hb1⟩
    have g1 : decide ((20000 : Int) < (z0.length : Int)) = false := by simp; omega
    have g2 : decide ((c : Int) < 0) = false := by simp
    have g3 : decide (z0.length < c) = false := by simp; omega
    have hcv : ∀ n : Sub w.heap.size w, (convert 23 9 (.slice a0 z0.length cap0)).run Try.prog n.val = .ok (.string ⟨z0.toArray⟩) n.val := fun n =>
      run_bytes_string Try.underlying23 Try.underlying5 Try.underlying9 cap0 (HR.out.below n.ok (Nat.le_refl _))
    have hcv1 := hcv ⟨w1, hb1⟩
    simp only at hcv1
    go_wp2_with fail
    refine wp_region_below w.heap.size w hb1 (by kernel_rfl) (by kernel_rfl) ?_
    have hcl : c ≤ z0.length := by omega
    have hcc : c ≤ cap0 := by omega
    have hcl2 : (z0.length : Int) ≤ (cap0 : Int) := by omega
    have hRn : ∀ n : Sub w.heap.size w, Rd n.val n.val.heap.size a0 (z0.map bv) := fun n => (HR.out.below n.ok (Nat.le_refl _)).more n.ok.size
    have HRn := Lib.hid hRn; clear hRn
    have HM : Hid (Crc.more (Crc.sum (z0.take c)) (z0.drop c) = Crc.sum z0) := by
      show _ = _
      unfold Crc.sum
      rw [Crc.more_append 0 _ _ (by decide), List.take_append_drop]
    have hsl := Crc.more_lt 0 (z0.take c)
    repeat (quiet_step (first
      | (go_at_call 16; refine Calls.sub_of (Nat.le_refl _) (sum_at _ _ _ (z0.take c) (by simp; omega) (by omega) _ ?_); rw [List.map_take]; exact (HRn.out _).take c)
      | (go_at_call 16; refine Calls.sub_of (Nat.le_refl _) (sum_at _ _ _ z0 rfl (by omega) _ (HRn.out _)))
      | (go_at_call 18; refine Calls.sub_of (v := .int .u32 (Crc.sum z0 : Nat)) (Nat.le_refl _) (by rw [← HM.out]; refine more_at _ (by omega) (by unfold Crc.sum; omega) _ _ _ (z0.drop c) (by simp) (by omega) _ ?_; rw [List.map_drop]; exact (HRn.out _).cut (by simp; omega)))))
    refine wpQuiet_nil ?_
    intro _ hw'
    obtain ⟨⟨W, hW⟩, rfl⟩ := hw'
    go_wp2
    all_goals
      go_ret
      exact ⟨rfl, hW⟩
  · have hcase : (z0.length : Int) > 20000 ∨ ((z0.length : Int) ≤ 20000 ∧ a1 < 0) ∨ ((z0.length : Int) ≤ 20000 ∧ 0 ≤ a1 ∧ (z0.length : Int) < a1) := by omega
    clear h5
    rcases hcase with h | ⟨h1, h2⟩ | ⟨h1, h2, h3⟩
    · have g1 : decide ((20000 : Int) < (z0.length : Int)) = true := by simp; omega
      go_enter Try.func4, Try.ntmps4
      go_wp2_with fail
      refine (crcKnown _).mono ?_
      rintro e w1 ⟨rfl, hb1⟩
      go_wp2_with fail
      go_ret
      exact ⟨rfl, hb1⟩
    · have g1 : decide ((20000 : Int) < (z0.length : Int)) = false := by simp; omega
      have g2 : decide (a1 < 0) = true := by simp; omega
      go_enter Try.func4, Try.ntmps4
      go_wp2_with fail
      refine (crcKnown _).mono ?_
      rintro e w1 ⟨rfl, hb1⟩
      go_wp2_with fail
      go_ret
      exact ⟨rfl, hb1⟩
    · have g1 : decide ((20000 : Int) < (z0.length : Int)) = false := by simp; omega
      have g2 : decide (a1 < 0) = false := by simp; omega
      have g3 : decide ((z0.length : Int) < a1) = true := by simp; omega
      go_enter Try.func4, Try.ntmps4
      go_wp2_with fail
      refine (crcKnown _).mono ?_
      rintro e w1 ⟨rfl, hb1⟩
      go_wp2_with fail
      go_ret
      exact ⟨rfl, hb1⟩
end Go.Proofs.Ytefdedjnkmpkjaa
