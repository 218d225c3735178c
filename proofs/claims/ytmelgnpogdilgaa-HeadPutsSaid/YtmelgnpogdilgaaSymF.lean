/- What is known of types: how the facts that the walk asks for come out of a program's tables. No conditions. -/
import Derived.Test.YtmelgnpogdilgaaSymE
namespace Go.Proofs.Ytmelgnpogdilgaa
set_option linter.unusedVariables false
section
variable {P : Program} {t e : TypeId}
theorem IC.of {src dst : TypeId} {d : TypeDesc} {k : IntKind} (h1 : P.underlying src = some d) (h2 : P.underlying dst = some (.int k)) : IC P src dst k :=
  ⟨fun k' n => .inr fun w => by simp [convert, run_under h1, run_under h2, Conv.intToInt]⟩
theorem ST.of {z : Value} {fs : Array Field} {cs : List Value} {pl : List (Nat × Nat)} (hz : zeroT P t = some z) (hf : flatB z = true) (hu : P.underlying t = some (.struct fs)) (hp : placesOf P fs = some pl) (hc : cellsL z = cs) : ST P t cs pl :=
  ⟨fun ps c h => by subst hc; simp [aBuild, hz, hf, hu, hp, cellsL_eq, h]⟩
theorem BS.of {z : Value} {sz : Nat} (hu : P.underlying t = some (.slice e)) (hs : sizeT P e = some sz) (hz : zeroT P e = some z) (hf : flatB z = true) (hl : (cellsL z).length = sz) : BS P t e sz z :=
  ⟨fun len ps c hle h => by
    simp only [aBuildSlice, hu, hs, if_pos hle]
    have ez : aZeros P e sz len = some ((List.replicate len z.cells.toList).flatten) := by
      unfold aZeros
      by_cases h0 : len * sz = 0
      · rw [if_pos h0]
        rcases Nat.mul_eq_zero.1 h0 with h1 | h1
        · subst h1; rfl
        · rw [cellsL_eq]
          have : cellsL z = [] := List.length_eq_zero_iff.1 (by omega)
          rw [this]
          congr 1
          clear h h0 ps hle
          induction len with
          | zero => rfl
          | succ n ih => rw [List.replicate_succ, List.flatten_cons]; simp
      · rw [if_neg h0]
        simp only [hz]
        rw [if_pos ⟨hf, by rw [cellsL_eq]; exact hl⟩]
        rfl
    simp only [ez, h, Option.map_some]⟩
theorem MK.of {inf : TypeInfo} {z : Value} {bytes : Nat} (hu : P.underlying t = some (.slice e)) (hi : P.info? e = some inf) (h1 : inf.size = 1) (h2 : inf.bytes = bytes) (hz : inf.zero = some z) (hf : flatB z = true) (hc : cellsL z = [z]) : MK P t e bytes z :=
  ⟨hu, ⟨inf, hi, h1, h2⟩, by simp [zeroT, hi, hz], ⟨hf, hc⟩⟩
theorem AP.of {inf : TypeInfo} {z : Value} {sz bytes : Nat} {t₂ e₂ : TypeId} (hu : P.underlying t = some (.slice e)) (hu2 : P.underlying t₂ = some (.slice e₂)) (hi : P.info? e = some inf) (h1 : inf.size = sz) (h2 : inf.bytes = bytes) (hz : inf.zero = some z) (h0 : 0 < sz) (hf : flatB z = true) (hc : (cellsL z).length = sz) : AP P t t₂ e sz bytes :=
  ⟨hu, by simp [sizeT, hi, h1], ⟨inf, z, hi, h1, h2, hz, h0, hf, by rw [cellsL_eq]; exact hc⟩, ⟨e₂, hu2⟩⟩
end
end Go.Proofs.Ytmelgnpogdilgaa
