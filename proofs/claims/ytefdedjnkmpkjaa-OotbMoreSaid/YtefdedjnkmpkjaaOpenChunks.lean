/- What the reading of packets and chunks that came in says of memory. -/

import Derived.Test.YtefdedjnkmpkjaaOpenStruct
namespace Go.Proofs.Ytefdedjnkmpkjaa
set_option linter.unusedVariables false
open Go.ChangeShapes Go.WideShapes Go.ChangeAt Go.RowKit

/-- A slice of chunks whose cells are 'fs', one behind the other. -/
def ChF (w : World) (B : Nat) (A : Option Addr) (K : List Nat) (fs : List Value) : Prop :=
  fs.length = K.length * 15 ∧ Rd w B A fs ∧ (∀ u ∈ fs, u.oneCell' = true) ∧ ∀ i k, K[i]? = some k → fs[i * 15]? = some (.int .u8 (k : Int))
theorem ChF.chs {w : World} {B : Nat} {A : Option Addr} {K : List Nat} {fs : List Value} (h : ChF w B A K fs) : Chs w B A K := fun hk => by
  obtain ⟨hl, hr, _, hc⟩ := h
  have hpos : 0 < K.length := List.length_pos_iff.2 hk
  obtain ⟨b, off, rfl, hb, hcell⟩ := hr (by intro e; subst e; simp at hl; omega)
  refine ⟨b, off, rfl, hb, fun i k hi => ?_⟩
  have hil : i < K.length := by
    rcases Nat.lt_or_ge i K.length with h | h
    · exact h
    · rw [List.getElem?_eq_none h] at hi; cases hi
  refine ⟨(fs.drop (i * 15)).take 15, ⟨by simp; omega, ?_⟩, fun j v hj => ?_⟩
  · rw [List.getElem?_take, if_pos (by omega), List.getElem?_drop]; simpa using hc i k hi
  · rw [Nat.add_assoc]
    refine hcell (i * 15 + j) v ?_
    rw [List.getElem?_take] at hj
    split at hj
    · rwa [List.getElem?_drop] at hj
    · cases hj
theorem ChF.cons {w : World} {B : Nat} {A : Option Addr} {K : List Nat} {fs cs : List Value} {k : Nat} (hr : Rd w B A (cs ++ fs)) (hc : ChCells k cs) (h1 : ∀ u ∈ cs, u.oneCell' = true) (hl : fs.length = K.length * 15) (h2 : ∀ u ∈ fs, u.oneCell' = true)
    (h3 : ∀ i k, K[i]? = some k → fs[i * 15]? = some (.int .u8 (k : Int))) : ChF w B A (k :: K) (cs ++ fs) := by
  refine ⟨by simp [hc.1, hl]; omega, hr, fun u hu => ?_, fun i k' hi => ?_⟩
  · rcases List.mem_append.1 hu with h | h
    · exact h1 u h
    · exact h2 u h
  · cases i with
    | zero =>
      simp only [List.getElem?_cons_zero, Option.some.injEq] at hi
      subst hi
      rw [Nat.zero_mul, List.getElem?_append_left (by rw [hc.1]; omega)]; exact hc.2
    | succ i =>
      simp only [List.getElem?_cons_succ] at hi
      rw [List.getElem?_append_right (by rw [hc.1]; omega), hc.1, show (i + 1) * 15 - 15 = i * 15 from by omega]
      exact h3 i k' hi

section
variable {H : Type} {enc : TypeId × Value → H} {w : World} {base : Nat} {spare : Nat → Bool} {held : Bool}
theorem one_int {P : Program} {t : TypeId} {k : IntKind} {fuel : Nat} {v : Value} {x : DataW H × List MemPlace} (ht : P.underlying t = some (.int k)) (h : DataW.trod enc P w base spare held fuel t [v] = some x) : v.oneCell' = true := by
  obtain ⟨n, hn, _⟩ := DataW.trod_int ht h
  simp at hn
  subst hn
  rfl
theorem one_slice {P : Program} {t e : TypeId} {fuel : Nat} {v : Value} {x : DataW H × List MemPlace} (ht : P.underlying t = some (.slice e)) (h : DataW.trod enc P w base spare held fuel t [v] = some x) : v.oneCell' = true := by
  rcases Go.Deep.open_slice ht h with ⟨h0, _⟩ | ⟨a, len, cap, m, n, D, Pl, hcs, _⟩
  · simp at h0; subst h0; rfl
  · simp at hcs; subst hcs; rfl
theorem cellsBytes : Try.prog.cellsOf 23 = 1 := by kernel_rfl
theorem cellsAddrs : Try.prog.cellsOf 41 = 1 := by kernel_rfl
theorem cellsGaps : Try.prog.cellsOf 42 = 1 := by kernel_rfl
theorem cellsCauses : Try.prog.cellsOf 43 = 1 := by kernel_rfl
/-- A chunk's cells: its kind, and that each is one cell. -/
theorem chunk_cells {fuel : Nat} {cs : List Value} {x : DataW H × List MemPlace} (h : DataW.trod enc Try.prog w base spare held fuel 45 cs = some x) : ∃ k : Nat, ChCells k cs ∧ ∀ u ∈ cs, u.oneCell' = true := by
  have hlen := trod_size Try.underlying45 h
  rw [cellsChunk] at hlen
  match cs, hlen with
  | [c0, c1, c2, c3, c4, c5, c6, c7, c8, c9, c10, c11, c12, c13, c14], _ =>
    obtain ⟨_, _, h0⟩ := trod_at Try.underlying45 h 0 5 0 1 rfl cellsU8
    obtain ⟨_, _, h1⟩ := trod_at Try.underlying45 h 1 5 1 1 rfl cellsU8
    obtain ⟨_, _, h2⟩ := trod_at Try.underlying45 h 2 22 2 1 rfl cellsU32
    obtain ⟨_, _, h3⟩ := trod_at Try.underlying45 h 3 22 3 1 rfl cellsU32
    obtain ⟨_, _, h4⟩ := trod_at Try.underlying45 h 4 22 4 1 rfl cellsU32
    obtain ⟨_, _, h5⟩ := trod_at Try.underlying45 h 5 31 5 1 rfl cellsU16
    obtain ⟨_, _, h6⟩ := trod_at Try.underlying45 h 6 31 6 1 rfl cellsU16
    obtain ⟨_, _, h7⟩ := trod_at Try.underlying45 h 7 31 7 1 rfl cellsU16
    obtain ⟨_, _, h8⟩ := trod_at Try.underlying45 h 8 31 8 1 rfl cellsU16
    obtain ⟨_, _, h9⟩ := trod_at Try.underlying45 h 9 22 9 1 rfl cellsU32
    obtain ⟨_, _, h10⟩ := trod_at Try.underlying45 h 10 23 10 1 rfl cellsBytes
    obtain ⟨_, _, h11⟩ := trod_at Try.underlying45 h 11 41 11 1 rfl cellsAddrs
    obtain ⟨_, _, h12⟩ := trod_at Try.underlying45 h 12 42 12 1 rfl cellsGaps
    obtain ⟨_, _, h13⟩ := trod_at Try.underlying45 h 13 41 13 1 rfl cellsAddrs
    obtain ⟨_, _, h14⟩ := trod_at Try.underlying45 h 14 43 14 1 rfl cellsCauses
    simp only [List.drop_succ_cons, List.drop_zero, List.take_succ_cons, List.take_zero] at h0 h1 h2 h3 h4 h5 h6 h7 h8 h9 h10 h11 h12 h13 h14
    obtain ⟨k, hk, _, hwf⟩ := DataW.trod_int Try.underlying5 h0
    have hb2 : 0 ≤ k ∧ k ≤ 255 := by simpa [Lit.wf, IntKind.min, IntKind.max, IntKind.signed, IntKind.bits] using hwf
    refine ⟨k.toNat, ⟨rfl, ?_⟩, ?_⟩
    · simp only [List.cons.injEq, and_true] at hk
      subst hk
      simp only [List.getElem?_cons_zero, Option.some.injEq, Value.int.injEq, true_and]
      omega
    · intro u hu
      simp only [List.mem_cons, List.not_mem_nil, or_false] at hu
      rcases hu with rfl | rfl | rfl | rfl | rfl | rfl | rfl | rfl | rfl | rfl | rfl | rfl | rfl | rfl | rfl
      · exact one_int Try.underlying5 h0
      · exact one_int Try.underlying5 h1
      · exact one_int Try.underlying22 h2
      · exact one_int Try.underlying22 h3
      · exact one_int Try.underlying22 h4
      · exact one_int Try.underlying31 h5
      · exact one_int Try.underlying31 h6
      · exact one_int Try.underlying31 h7
      · exact one_int Try.underlying31 h8
      · exact one_int Try.underlying22 h9
      · exact one_slice Try.underlying23 h10
      · exact one_slice Try.underlying41 h11
      · exact one_slice Try.underlying42 h12
      · exact one_slice Try.underlying41 h13
      · exact one_slice Try.underlying43 h14
/-- A slice of chunks that came in. -/
theorem chF_of {fuel : Nat} {v : Value} {x : DataW H × List MemPlace} (h : DataW.trod enc Try.prog w base spare held fuel 34 [v] = some x) :
    ∃ A n cap K fs, v = .slice A n cap ∧ K.length = n ∧ n ≤ cap ∧ cap ≤ maxLen ∧ ChF w w.heap.size A K fs := by
  rcases Go.Deep.open_slice Try.underlying34 h with ⟨h0, _⟩ | ⟨a, len, cap, m, n, D, Pl, hcs, _, hl, hm, hmm, _, hi⟩
  · simp only [List.cons.injEq, and_true] at h0
    exact ⟨none, 0, 0, [], [], h0, rfl, Nat.le_refl _, Nat.zero_le _, rfl, Rd.nil _ _ _, (fun _ hu => by cases hu), fun i k hi => by simp at hi⟩
  · simp only [List.cons.injEq, and_true] at hcs
    have hlm : len ≤ m := by rw [hmm]; split <;> omega
    have each : ∀ i, i < len → ∃ k : Nat, ∃ cs, ChCells k cs ∧ (∀ u ∈ cs, u.oneCell' = true) ∧ (∀ j, j < 15 → w.cell? ((a.add (i * 15)).add j) = cs[j]?) := by
      intro i hil
      obtain ⟨cs', hc, ht⟩ := hi i (by omega)
      rw [cellsChunk] at hc
      obtain ⟨_, hlen, hat⟩ := World.cells?_some hc
      obtain ⟨k, h1, h2⟩ := chunk_cells ht
      exact ⟨k, cs', h1, h2, hat⟩
    rcases Nat.eq_zero_or_pos len with h0 | hpos
    · subst h0
      exact ⟨some a, 0, cap, [], [], hcs, rfl, hl, hm, rfl, Rd.nil _ _ _, (fun _ hu => by cases hu), fun i k hi => by simp at hi⟩
    obtain ⟨b, off, spot⟩ := a
    have hc0 : ∃ v, w.cell? ⟨b, off, spot⟩ = some v := by
      obtain ⟨k, cs, hcc, _, hat⟩ := each 0 hpos
      have := hat 0 (by omega)
      rw [hcc.2] at this
      exact ⟨_, by simpa [Addr.add] using this⟩
    obtain ⟨v0, hc0⟩ := hc0
    have hspot : spot = none := by simpa using World.cell?_spot hc0
    subst hspot
    have hb : b < w.heap.size := by have := block_lt_of_cell hc0; simpa using this
    have cell : ∀ i j, i < len → j < 15 → ∃ u : Value, w.cell? ⟨b, off + (i * 15 + j), none⟩ = some u ∧ u.oneCell' = true := by
      intro i j hi hj
      obtain ⟨k, cs, hcc, h1, hat⟩ := each i hi
      have := hat j hj
      rw [Addr.add_mid, Addr.add_mid, List.getElem?_eq_getElem (by rw [hcc.1]; exact hj), Nat.add_assoc] at this
      exact ⟨_, this, h1 _ (List.getElem_mem _)⟩
    have cell' : ∀ q, q < len * 15 → ∃ u : Value, w.cell? ⟨b, off + q, none⟩ = some u ∧ u.oneCell' = true := by
      intro q hq
      have := cell (q / 15) (q % 15) (by omega) (by omega)
      rwa [show q / 15 * 15 + q % 15 = q from by omega] at this
    have kind : ∀ i, i < len → ∃ k : Nat, w.cell? ⟨b, off + i * 15, none⟩ = some (.int .u8 (k : Int)) := by
      intro i hi
      obtain ⟨k, cs, hcc, h1, hat⟩ := each i hi
      have := hat 0 (by omega)
      rw [hcc.2, Addr.add_mid, Addr.add_mid] at this
      exact ⟨k, by simpa using this⟩
    refine ⟨some ⟨b, off, none⟩, len, cap, (List.range len).map (fun i => if h : i < len then (kind i h).choose else 0), (List.range (len * 15)).map (fun q => (w.cell? ⟨b, off + q, none⟩).getD undef), hcs, by simp, hl, hm, by simp, fun _ => ⟨b, off, rfl, hb, fun q u hu => ?_⟩, fun u hu => ?_, fun i k hi => ?_⟩
    · simp only [List.getElem?_map, Option.map_eq_some_iff] at hu
      obtain ⟨q', hq', rfl⟩ := hu
      have hq : q < len * 15 := by
        rcases Nat.lt_or_ge q (len * 15) with h1 | h1
        · exact h1
        · rw [List.getElem?_eq_none (by simpa using h1)] at hq'; cases hq'
      have : q' = q := by simpa [hq] using hq'.symm
      subst this
      obtain ⟨u, hu, _⟩ := cell' q' hq
      rw [hu]; rfl
    · obtain ⟨q, hq, rfl⟩ := List.mem_map.1 hu
      obtain ⟨u, hu, h1⟩ := cell' q (by simpa using hq)
      rw [hu]; exact h1
    · simp only [List.getElem?_map, Option.map_eq_some_iff] at hi
      obtain ⟨i', hi', hk'⟩ := hi
      have hlt : i < len := by
        rcases Nat.lt_or_ge i len with h1 | h1
        · exact h1
        · rw [List.getElem?_eq_none (by simpa using h1)] at hi'; cases hi'
      have : i' = i := by simpa [hlt] using hi'.symm
      subst this
      rw [dif_pos hlt] at hk'
      have hs := (kind i' hlt).choose_spec
      rw [hk'] at hs
      simp only [List.getElem?_map]
      rw [List.getElem?_range (by omega)]
      simp only [Option.map_some, hs, Option.getD_some]
theorem open_pkF {b0 : Nat} {v : Value} {d : DataW H} {p : List MemPlace} (hv : Value.okWide Try.prog w .any b0 36 v) (h : DataW.Trod enc Try.prog w base spare held 36 v d p) :
    ∃ f t g A n cap K fs, v = pk f t g A n cap ∧ K.length = n ∧ n ≤ cap ∧ cap ≤ maxLen ∧ ChF w w.heap.size A K fs := by
  obtain ⟨cs, rfl, hsz⟩ := okWide_struct Try.underlying36 hv
  rw [cellsPacket] at hsz
  obtain ⟨l⟩ := cs
  obtain ⟨fuel, hf⟩ := h
  match l, hsz with
  | [c0, c1, c2, c3], _ =>
    simp only [Value.cells] at hf
    obtain ⟨n1, x1, h1⟩ := trod_at Try.underlying36 hf 0 33 0 3 rfl cellsHeader
    obtain ⟨n2, x2, h2⟩ := trod_at Try.underlying36 hf 1 34 3 1 rfl cellsChunks
    obtain ⟨_, _, g0⟩ := trod_at Try.underlying33 h1 0 31 0 1 rfl cellsU16
    obtain ⟨_, _, g1⟩ := trod_at Try.underlying33 h1 1 31 1 1 rfl cellsU16
    obtain ⟨_, _, g2⟩ := trod_at Try.underlying33 h1 2 22 2 1 rfl cellsU32
    obtain ⟨a, ha, _⟩ := DataW.trod_int Try.underlying31 g0
    obtain ⟨b, hb, _⟩ := DataW.trod_int Try.underlying31 g1
    obtain ⟨c, hc, _⟩ := DataW.trod_int Try.underlying22 g2
    simp at ha hb hc
    subst ha hb hc
    obtain ⟨A, n, cap, K, fs, rfl, hK⟩ := chF_of (v := c3) (by simpa using h2)
    exact ⟨_, _, _, A, n, cap, K, fs, rfl, hK⟩
theorem open_ck {b0 : Nat} {v : Value} {d : DataW H} {p : List MemPlace} (hv : Value.okWide Try.prog w .any b0 45 v) (h : DataW.Trod enc Try.prog w base spare held 45 v d p) :
    ∃ (k : Nat) (cs : List Value), v = .agg cs.toArray ∧ ChCells k cs ∧ ∀ u ∈ cs, u.oneCell' = true := by
  obtain ⟨cs, rfl, hsz⟩ := okWide_struct Try.underlying45 hv
  obtain ⟨l⟩ := cs
  obtain ⟨fuel, hf⟩ := h
  obtain ⟨k, h1, h2⟩ := chunk_cells (by simpa [Value.cells] using hf)
  exact ⟨k, l, rfl, h1, h2⟩
end
end Go.Proofs.Ytefdedjnkmpkjaa
