/- The document's Same of two packets that answer: the walks. -/
import Derived.Test.YtefdedjnkmpkjaaOotbSame
namespace Go.Proofs.Ytefdedjnkmpkjaa
set_option linter.unusedVariables false
open Go.RowKit

set_option maxRecDepth 100000 in
set_option maxHeartbeats 1000000 in
theorem same06_none (w : World) :
    Calls Try.prog 23 #[pk0, pk0] w fun e w' => e = .returned (.bool true) ∧ Below w.heap.size w w' := by
  unfold pk0 pk
  go_enter Try.func23, Try.ntmps23
  go_wp2
  refine wp_loop_once ?_
  go_wp2
  go_ret
  exact ⟨rfl, (Below.one _).alloc (Below.one _).size _⟩

set_option maxRecDepth 100000 in
set_option maxHeartbeats 1000000 in
theorem same06_one (f t g k : Int) (g1 g2 : Nat) (w : World) (h1 : Bk w g1 45 (ansCells k)) (h2 : Bk w g2 45 (ansCells k)) :
    Calls Try.prog 23 #[pk f t g (some ⟨g1, 0, none⟩) 1 1, pk f t g (some ⟨g2, 0, none⟩) 1 1] w fun e w' => e = .returned (.bool true) ∧ Below w.heap.size w w' := by
  unfold pk
  have hff : (f == f) = true := by simp
  have htt : (t == t) = true := by simp
  have hgg : (g == g) = true := by simp
  go_enter Try.func23, Try.ntmps23
  go_wp2
  obtain ⟨W, hW, hB, p1, p2⟩ : ∃ W : World, W = (w.alloc (Obj.cells #[Value.int IntKind.u16 f, Value.int IntKind.u16 t, Value.int IntKind.u32 g, Value.slice (some ⟨g1, 0, none⟩) 1 1] 36)).alloc (Obj.cells #[Value.int IntKind.u16 f, Value.int IntKind.u16 t, Value.int IntKind.u32 g, Value.slice (some ⟨g2, 0, none⟩) 1 1] 36) ∧ Below w.heap.size w W ∧ Bk W w.heap.size 36 _ ∧ Bk W (w.heap.size + 1) 36 _ :=
    ⟨_, rfl, (Below.one _).alloc (Below.one _).size _, (Bk.new _ _ _).alloc _, Bk.new2 _ _ _ _⟩
  rw [← hW]
  clear hW
  replace h1 := h1.below hB h1.lt
  replace h2 := h2.below hB h2.lt
  go_loopw [5] (fun i wr => ∃ k : Nat, k ≤ 1 ∧ i = .int .i64 k ∧ Below W.heap.size W wr) (fun i _ => 1 - (intOf i).toNat)
  case atStart => exact ⟨0, by omega, rfl, Below.refl _ _⟩
  case round =>
    obtain ⟨j, hj, rfl, hb⟩ := hrel
    have r1 := p1.below hb p1.lt
    have r2 := p2.below hb p2.lt
    have q1 := r1.at 3 rfl
    have q2 := r2.at 3 rfl
    simp only [List.getElem_toArray, List.getElem_cons_succ, List.getElem_cons_zero] at q1 q2
    have s1 := h1.below hb h1.lt
    have s2 := h2.below hb h2.lt
    by_cases hj0 : j = 0
    · subst hj0
      have u1 : ∀ n : Sub wr.heap.size wr, n.val.cell? ⟨w.heap.size, 3, none⟩ = _ := fun n => (n.ok.cell (p := ⟨w.heap.size, 3, none⟩) r1.lt).trans q1
      have u2 : ∀ n : Sub wr.heap.size wr, n.val.cell? ⟨w.heap.size + 1, 3, none⟩ = _ := fun n => (n.ok.cell (p := ⟨w.heap.size + 1, 3, none⟩) r2.lt).trans q2
      have v1 : Hid (∀ n : Sub wr.heap.size wr, n.val.rangeAt g1 0 (ansCells k).toList) := fun n => (s1.below n.ok s1.lt).range
      have v2 : Hid (∀ n : Sub wr.heap.size wr, n.val.rangeAt g2 0 (ansCells k).toList) := fun n => (s2.below n.ok s2.lt).range
      go_wp2
      refine wp_region_below wr.heap.size wr (Below.refl _ _) (by kernel_rfl) (by kernel_rfl) ?_
      repeat (first
        | (refine wpQuiet_load rfl 45 (.tmp 30) rfl g1 0 rfl (ansCells k).toList _ v1.out Try.underlying45 rfl (by kernel_rfl) ?_)
        | (refine wpQuiet_load rfl 45 (.tmp 35) rfl g2 0 rfl (ansCells k).toList _ v2.out Try.underlying45 rfl (by kernel_rfl) ?_)
        | (quiet_step ((go_at_call 46; exact Calls.sub_of (Nat.le_refl _) (same05_ans k _)))))
      refine wpQuiet_nil ?_
      intro _ hw'
      obtain ⟨⟨W2, hW2⟩, rfl⟩ := hw'
      go_wp2
      go_roundw
      case rel => exact ⟨1, by omega, by go_num, hb.trans (hW2.mono hb.size)⟩
      case measure => simp [intOf]
    · obtain rfl : j = 1 := by omega
      go_wp2
      go_ret
      exact ⟨rfl, hB.trans (hb.mono hB.size)⟩
end Go.Proofs.Ytefdedjnkmpkjaa
