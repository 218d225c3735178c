/- The reading of a struct, field by field; of a packet; of a slice of chunks. -/
import Derived.Test.YtefdedjnkmpkjaaOpen
import Derived.Test.YtefdedjnkmpkjaaOotbWalk
import Derived.Deep.Slices
namespace Go.Proofs.Ytefdedjnkmpkjaa
set_option linter.unusedVariables false
open Go.ChangeShapes Go.WideShapes Go.ChangeAt Go.RowKit

section
variable {H : Type} {enc : TypeId × Value → H} {P : Program} {w : World} {base : Nat} {spare : Nat → Bool} {held : Bool}
theorem trod_field {t : TypeId} {fs : Array Field} {fuel : Nat} {cs : List Value} {x : DataW H × List MemPlace} (ht : P.underlying t = some (.struct fs)) (h : DataW.trod enc P w base spare held fuel t cs = some x) (i : Nat) {f : Field} (hf : fs[i]? = some f) :
    ∃ n x', DataW.trod enc P w base spare held n f.type ((cs.drop f.offset).take (P.cellsOf f.type)) = some x' := by
  obtain ⟨xs, n, _, _, _, hl, hg⟩ := DataW.trod_struct ht h
  have hi : i < fs.size := (Array.getElem?_eq_some_iff.1 hf).1
  have := hg i f hf
  rw [List.getElem?_eq_getElem (by omega)] at this
  exact ⟨n, _, this⟩
theorem trod_at {t : TypeId} {fs : Array Field} {fuel : Nat} {cs : List Value} {x : DataW H × List MemPlace} (ht : P.underlying t = some (.struct fs)) (h : DataW.trod enc P w base spare held fuel t cs = some x) (i ty off c : Nat)
    (hf : (fs[i]?).map (fun f => (f.type, f.offset)) = some (ty, off)) (hc : P.cellsOf ty = c) : ∃ n x', DataW.trod enc P w base spare held n ty ((cs.drop off).take c) = some x' := by
  subst hc
  cases hq : fs[i]? with
  | none => simp [hq] at hf
  | some f =>
    simp only [hq, Option.map_some, Option.some.injEq, Prod.mk.injEq] at hf
    obtain ⟨rfl, rfl⟩ := hf
    exact trod_field ht h i hq
theorem trod_size {t : TypeId} {fs : Array Field} {fuel : Nat} {cs : List Value} {x : DataW H × List MemPlace} (ht : P.underlying t = some (.struct fs)) (h : DataW.trod enc P w base spare held fuel t cs = some x) : cs.length = P.cellsOf t := by
  obtain ⟨xs, n, _, _, hc, _, _⟩ := DataW.trod_struct ht h
  exact hc
end

theorem cellsChunk : Try.prog.cellsOf 45 = 15 := by kernel_rfl
theorem cellsHeader : Try.prog.cellsOf 33 = 3 := by kernel_rfl
theorem cellsPacket : Try.prog.cellsOf 36 = 4 := by kernel_rfl
theorem cellsU16 : Try.prog.cellsOf 31 = 1 := by kernel_rfl
theorem cellsU32 : Try.prog.cellsOf 22 = 1 := by kernel_rfl
theorem cellsU8 : Try.prog.cellsOf 5 = 1 := by kernel_rfl
theorem cellsChunks : Try.prog.cellsOf 34 = 1 := by kernel_rfl

section
variable {H : Type} {enc : TypeId × Value → H} {w : World} {base : Nat} {spare : Nat → Bool} {held : Bool}
theorem chs_of {fuel : Nat} {v : Value} {x : DataW H × List MemPlace} (h : DataW.trod enc Try.prog w base spare held fuel 34 [v] = some x) :
    ∃ A n cap K, v = .slice A n cap ∧ K.length = n ∧ n ≤ cap ∧ cap ≤ maxLen ∧ Chs w w.heap.size A K := by
  rcases Go.Deep.open_slice Try.underlying34 h with ⟨h0, _⟩ | ⟨a, len, cap, m, n, D, Pl, hcs, _, hl, hm, hmm, _, hi⟩
  · simp only [List.cons.injEq, and_true] at h0
    exact ⟨none, 0, 0, [], h0, rfl, Nat.le_refl _, Nat.zero_le _, fun hk => absurd rfl hk⟩
  · simp only [List.cons.injEq, and_true] at hcs
    have hlm : len ≤ m := by rw [hmm]; split <;> omega
    have each : ∀ i, i < len → ∃ k : Nat, ∃ cs, ChCells k cs ∧ (∀ j, j < 15 → w.cell? ((a.add (i * 15)).add j) = cs[j]?) := by
      intro i hil
      obtain ⟨cs', hc, ht⟩ := hi i (by omega)
      rw [cellsChunk] at hc
      obtain ⟨_, hlen, hat⟩ := World.cells?_some hc
      obtain ⟨n', x', h0⟩ := trod_at Try.underlying45 ht 0 5 0 1 rfl cellsU8
      obtain ⟨k, hk, _, hwf⟩ := DataW.trod_int Try.underlying5 h0
      have hb2 : 0 ≤ k ∧ k ≤ 255 := by simpa [Lit.wf, IntKind.min, IntKind.max, IntKind.signed, IntKind.bits] using hwf
      refine ⟨k.toNat, cs', ⟨hlen, ?_⟩, hat⟩
      match cs', hlen with
      | c0 :: r, _ =>
        simp only [List.drop_zero, List.take_succ_cons, List.take_zero, List.cons.injEq, and_true] at hk
        subst hk
        simp only [List.getElem?_cons_zero, Option.some.injEq, Value.int.injEq, true_and]
        omega
    refine ⟨some a, len, cap, (List.range len).map (fun i => if h : i < len then (each i h).choose else 0), hcs, by simp, hl, hm, fun hk => ?_⟩
    have hpos : 0 < len := by
      rcases Nat.eq_zero_or_pos len with h0 | h0
      · subst h0; simp at hk
      · exact h0
    obtain ⟨b, off, spot⟩ := a
    have hc0 : ∃ v, w.cell? ⟨b, off, spot⟩ = some v := by
      obtain ⟨k, cs, hcc, hat⟩ := each 0 hpos
      have := hat 0 (by omega)
      rw [hcc.2] at this
      exact ⟨_, by simpa [Addr.add] using this⟩
    obtain ⟨v0, hc0⟩ := hc0
    have hspot : spot = none := by simpa using World.cell?_spot hc0
    subst hspot
    refine ⟨b, off, rfl, by have := block_lt_of_cell hc0; simpa using this, fun i k hik => ?_⟩
    simp only [List.getElem?_map, Option.map_eq_some_iff] at hik
    obtain ⟨i', hi', hk'⟩ := hik
    have hlt : i < len := by
      rcases Nat.lt_or_ge i len with h1 | h1
      · exact h1
      · rw [List.getElem?_eq_none (by simpa using h1)] at hi'; cases hi'
    have : i' = i := by simpa [hlt] using hi'.symm
    subst this
    rw [dif_pos hlt] at hk'
    obtain ⟨cs, hcc, hat⟩ := (each i' hlt).choose_spec
    rw [hk'] at hcc
    refine ⟨cs, hcc, fun j u hj => ?_⟩
    have hj15 : j < 15 := by
      rcases Nat.lt_or_ge j 15 with h1 | h1
      · exact h1
      · rw [List.getElem?_eq_none (by rw [hcc.1]; exact h1)] at hj; cases hj
    have := hat j hj15
    rw [Addr.add_mid, Addr.add_mid] at this
    rw [this, hj]

theorem open_pk {b0 : Nat} {v : Value} {d : DataW H} {p : List MemPlace} (hv : Value.okWide Try.prog w .any b0 36 v) (h : DataW.Trod enc Try.prog w base spare held 36 v d p) :
    ∃ f t g A n cap K, v = pk f t g A n cap ∧ K.length = n ∧ n ≤ cap ∧ cap ≤ maxLen ∧ Chs w w.heap.size A K := by
  obtain ⟨cs, rfl, hsz⟩ := okWide_struct Try.underlying36 hv
  rw [cellsPacket] at hsz
  obtain ⟨l⟩ := cs
  obtain ⟨fuel, hf⟩ := h
  match l, hsz with
  | [c0, c1, c2, c3], _ =>
    simp only [Value.cells] at hf
    obtain ⟨n1, x1, h1⟩ := trod_at Try.underlying36 hf 0 33 0 3 rfl cellsHeader
    obtain ⟨n2, x2, h2⟩ := trod_at Try.underlying36 hf 1 34 3 1 rfl cellsChunks
    obtain ⟨_, _, g0⟩ := trod_at Try.underlying33 h1 0 31 0 1 rfl cellsU16
    obtain ⟨_, _, g1⟩ := trod_at Try.underlying33 h1 1 31 1 1 rfl cellsU16
    obtain ⟨_, _, g2⟩ := trod_at Try.underlying33 h1 2 22 2 1 rfl cellsU32
    obtain ⟨a, ha, _⟩ := DataW.trod_int Try.underlying31 g0
    obtain ⟨b, hb, _⟩ := DataW.trod_int Try.underlying31 g1
    obtain ⟨c, hc, _⟩ := DataW.trod_int Try.underlying22 g2
    simp at ha hb hc
    subst ha hb hc
    obtain ⟨A, n, cap, K, rfl, hK⟩ := chs_of (v := c3) (by simpa using h2)
    exact ⟨_, _, _, A, n, cap, K, rfl, hK⟩
end
end Go.Proofs.Ytefdedjnkmpkjaa
