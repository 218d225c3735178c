/- Cuts of slices, append, copy, on related memories. No conditions. -/
import Derived.Test.YtmelgnpogdilgaaAbsF
import Derived.Laws.Append
namespace Go.Proofs.Ytmelgnpogdilgaa
set_option linter.unusedVariables false
section
variable {P : Program} {D W : Nat → Prop} {o : Oper} {tm : List Value} {h : AHeap}
/-! ### cuts -/
def bnd (d : Nat) : Option Value → Option Nat
  | none => some d
  | some (.int _ i) => if 0 ≤ i then some i.toNat else none
  | some _ => none
/-- May the room that is told be less than there is, so that the elements' size matters? -/
def tight (P : Program) (h : AHeap) (b o cap : Nat) : Bool := match h.get b with
  | some (.cells c t) => match sizeT P t with
    | some sz => o + cap * sz == c.length
    | none => true
  | some (.ro _) => false
  | _ => true
def sameSize (P : Program) (h : AHeap) (b n : Nat) : Bool := match h.get b with
  | some (.cells c t) => sizeT P t == some n
  | _ => false
theorem capOk_exact {m : Mp} {w : World} (H : HRel P m D h w) {b o cap cap' : Nat} {l : Loc} (hm : m b = some l) (ht : tight P h b o cap = false) (hc : CapOk l o cap cap') : cap' = cap := by
  rcases hc with hc | ⟨h1, h2⟩
  · exact hc
  · unfold tight at ht
    split at ht
    · rename_i c t hg
      have ht' := H.typ b l c t hm hg
      rw [ht'.1] at ht
      simp at ht
      omega
    · rename_i c hg
      have := H.roS b l c hm hg
      omega
    · cases ht
def aSlice (P : Program) (h : AHeap) (t : TypeId) (lo hi mx : Option Value) : Value → Option Value
  | .slice (some ⟨b, o, none⟩) len cap => match P.underlying t with
    | some (.slice e) => match sizeT P e, bnd 0 lo, bnd len hi, bnd cap mx with
      | some n, some l, some r, some x => if l ≤ r ∧ r ≤ x ∧ x ≤ cap ∧ (mx.isSome ∧ hi.isSome ∨ mx = none ∧ (sameSize P h b n = true ∨ tight P h b o cap = false)) then some (.slice (some ⟨b, o + l * n, none⟩) (r - l) (x - l)) else none
      | _, _, _, _ => none
    | _ => none
  | .slice none 0 0 => match P.underlying t with
    | some (.slice e) => match sizeT P e, bnd 0 lo, bnd 0 hi, bnd 0 mx with
      | some _, some 0, some 0, some 0 => if mx.isSome → hi.isSome then some (.slice none 0 0) else none
      | _, _, _, _ => none
    | _ => none
  | .pointer (some ⟨b, o, none⟩) => match P.underlying t with
    | some (.array k e) => match sizeT P e, bnd 0 lo, bnd k hi, bnd k mx with
      | some n, some l, some r, some x => if l ≤ r ∧ r ≤ x ∧ x ≤ k ∧ (mx.isSome → hi.isSome) then some (.slice (some ⟨b, o + l * n, none⟩) (r - l) (x - l)) else none
      | _, _, _, _ => none
    | _ => none
  | .string s => match P.underlying t with
    | some .string => match bnd 0 lo, bnd s.size hi with
      | some l, some r => if l ≤ r ∧ r ≤ s.size ∧ mx = none then some (.string ⟨((s.data.toList.take r).drop l).toArray⟩) else none
      | _, _ => none
    | _ => none
  | _ => none
def sameO : Option Value → Option Value → Prop
  | none, none => True
  | some (.int k i), v => v = some (.int k i)
  | some _, _ => True
  | none, some _ => False
theorem bnd_run {x : Option Value} {d l y : Nat} (he : bnd d x = some l) (hx : x.isSome = true) (hle : l ≤ y) (code : BoundsCode) (w : World) : ∃ v, x = some v ∧ (Instr.sliceBound v y code).run P w = .ok l w := by
  unfold bnd at he
  split at he
  · cases hx
  · rename_i k i
    split at he
    · rename_i h0
      cases he
      have : i ≤ (y : Int) := by omega
      exact ⟨_, rfl, by simp [Instr.sliceBound, asIntOf, h0, this]⟩
    · cases he
  · cases he
theorem bnd_none {d l : Nat} (he : bnd d none = some l) : l = d := by simp [bnd] at he; exact he.symm
theorem run_bounds {isS : Bool} {lo hi mx : Option Value} {len cap cap' l r x : Nat} (hl : bnd 0 lo = some l) (hr : bnd len hi = some r) (hx : bnd cap mx = some x) (h1 : l ≤ r) (h2 : r ≤ x) (h3 : x ≤ cap) (h4 : cap ≤ cap') (h5 : mx.isSome → hi.isSome) (w : World) :
    (Instr.sliceBounds isS len cap' lo hi mx).run P w = .ok (l, r, if mx.isSome then x else cap') w := by
  cases mx with
  | none =>
    have := bnd_none hx
    subst this
    cases hi with
    | none =>
      have := bnd_none hr
      subst this
      cases lo with
      | none => have := bnd_none hl; subst this; simp [Instr.sliceBounds]
      | some v =>
        obtain ⟨v', e, hrun⟩ := bnd_run (P := P) (y := r) hl rfl h1 .sliceB w
        cases e
        simp [Instr.sliceBounds, hrun]
    | some u =>
      obtain ⟨u', e, hrun⟩ := bnd_run (P := P) (y := cap') hr rfl (by omega) (if isS then .sliceAcap else .sliceAlen) w
      cases e
      cases lo with
      | none => have := bnd_none hl; subst this; simp [Instr.sliceBounds, hrun]
      | some v =>
        obtain ⟨v', e, hrun'⟩ := bnd_run (P := P) (y := r) hl rfl h1 .sliceB w
        cases e
        simp [Instr.sliceBounds, hrun, hrun']
  | some z =>
    obtain ⟨z', e, hrunz⟩ := bnd_run (P := P) (y := cap') hx rfl (by omega) (if isS then .slice3Acap else .slice3Alen) w
    cases e
    cases hi with
    | none => simp at h5
    | some u =>
      obtain ⟨u', e, hrun⟩ := bnd_run (P := P) (y := x) hr rfl h2 .slice3B w
      cases e
      cases lo with
      | none => have := bnd_none hl; subst this; simp [Instr.sliceBounds, hrunz, hrun]
      | some v =>
        obtain ⟨v', e, hrun'⟩ := bnd_run (P := P) (y := r) hl rfl h1 .slice3C w
        cases e
        simp [Instr.sliceBounds, hrunz, hrun, hrun']
theorem bnd_rel {m : Mp} {d l : Nat} {x x' : Option Value} (he : bnd d x = some l) (hn : x.isSome = x'.isSome) (hr : ∀ v v', x = some v → x' = some v' → VRel m v v') : x' = x := by
  cases x with
  | none => cases x' with
    | none => rfl
    | some v => cases hn
  | some v => cases x' with
    | none => cases hn
    | some v' =>
      have := hr v v' rfl rfl
      cases v with
      | int k i => rw [VRel.eq_of_flat this rfl]
      | _ => simp [bnd] at he
theorem OpRun.slice {t : TypeId} {x : Operand} {lo hi mx : Option Operand} {v : Value} (ho : o.op = .slice t x lo hi mx) (he : aSlice P h t (lo.map (evalT tm)) (hi.map (evalT tm)) (mx.map (evalT tm)) (evalT tm x) = some v) : OpRun P D W o tm h v h :=
  .ofPure (by simp [ho]) fun m w A hm hx H => by
    have ha := hx x (by simp [ho, Op.operands])
    have hlo : ∀ v v', lo.map (evalT tm) = some v → lo.map A.eval = some v' → VRel m v v' := fun v v' e e' => by
      cases lo with
      | none => cases e
      | some y => cases e; cases e'; exact hx y (by simp [ho, Op.operands])
    have hhi : ∀ v v', hi.map (evalT tm) = some v → hi.map A.eval = some v' → VRel m v v' := fun v v' e e' => by
      cases hi with
      | none => cases e
      | some y => cases e; cases e'; exact hx y (by simp [ho, Op.operands])
    have hmx : ∀ v v', mx.map (evalT tm) = some v → mx.map A.eval = some v' → VRel m v v' := fun v v' e e' => by
      cases mx with
      | none => cases e
      | some y => cases e; cases e'; exact hx y (by simp [ho, Op.operands])
    unfold aSlice at he
    split at he
    · rename_i b oo len cap e1
      rw [e1] at ha
      split at he
      · rename_i e hu
        split at he
        · rename_i n l r z hn b1 b2 b3
          split at he
          · rename_i hcond
            obtain ⟨c1, c2, c3, c4⟩ := hcond
            cases he
            rw [← bnd_rel b1 (by simp) hlo] at b1
            rw [← bnd_rel b2 (by simp) hhi] at b2
            have emx := bnd_rel b3 (by simp) hmx
            rw [← emx] at b3
            have c5 : (mx.map A.eval).isSome → (hi.map A.eval).isSome := by
              rcases c4 with ⟨_, c4⟩ | ⟨c4, _⟩
              · intro _; simpa using c4
              · intro e; rw [emx, c4] at e; cases e
            generalize hy : A.eval x = y at ha
            cases ha with
            | @slice _ _ _ _ cap' k hk hc =>
              have hcc : cap ≤ cap' := by rcases hc with rfl | ⟨_, rfl⟩ <;> omega
              have hrun := run_bounds (P := P) (isS := true) (len := len) (cap' := cap') b1 b2 b3 c1 c2 c3 hcc c5 w
              generalize hz' : (if (mx.map A.eval).isSome then z else cap') = z' at hrun
              have hcap : CapOk k (oo + l * n) (z - l) (z' - l) ∧ z ≤ z' := by
                rcases c4 with ⟨c4, _⟩ | ⟨c4, c6⟩
                · rw [if_pos (by rw [emx]; exact c4)] at hz'
                  subst hz'; exact ⟨.inl rfl, Nat.le_refl _⟩
                · rw [if_neg (by rw [emx, c4]; simp)] at hz'
                  subst hz'
                  rw [emx, c4] at b3
                  have hzc := bnd_none b3
                  subst hzc
                  refine ⟨?_, hcc⟩
                  rcases hc with rfl | ⟨t1, t2⟩
                  · exact .inl rfl
                  · rcases c6 with c6 | c7
                    · unfold sameSize at c6
                      split at c6
                      · rename_i c ct hg
                        simp at c6
                        have := H.typ b k c ct hk hg
                        rw [c6] at this
                        have hsz : n = k.sz := by simpa using this.1
                        refine .inr ⟨?_, by omega⟩
                        rw [← hsz] at t1 ⊢
                        rw [← t1, Nat.add_assoc, ← Nat.add_mul]
                        congr 2
                        omega
                      · cases c6
                    · have := capOk_exact H hk c7 (.inr ⟨t1, t2⟩)
                      exact .inl (by omega)
              by_cases hz : z' = l
              · have : z = l := by omega
                have : r = l := by omega
                subst hz
                refine ⟨.slice (some ⟨k.b, oo + k.sh, none⟩) 0 0, ?_, ?_⟩
                · have e1 : r - z' = 0 := by omega
                  have e2 : z - z' = 0 := by omega
                  rw [e1, e2]
                  exact .slice0 _ _ _
                · simp [execOp, ho, Instr.sliceAt, Instr.slice, run_under hu, hy, hrun, run_sizeOf hn]
                  omega
              · refine ⟨.slice (some ⟨k.b, oo + l * n + k.sh, none⟩) (r - l) (z' - l), .slice hk hcap.1, ?_⟩
                simp [execOp, ho, Instr.sliceAt, Instr.slice, run_under hu, hy, hrun, run_sizeOf hn, hz, addr_add]
            | slice0 _ _ a =>
              obtain ⟨rfl, rfl, rfl⟩ : l = 0 ∧ r = 0 ∧ z = 0 := by omega
              have hrun := run_bounds (P := P) (isS := true) (len := 0) (cap' := 0) b1 b2 b3 c1 c2 c3 (Nat.le_refl _) c5 w
              have hz : (if (mx.map A.eval).isSome then 0 else 0) = 0 := by split <;> rfl
              rw [hz] at hrun
              exact ⟨.slice (some a) 0 0, .slice0 _ _ _, by simp [execOp, ho, Instr.sliceAt, Instr.slice, run_under hu, hy, hrun, run_sizeOf hn]⟩
          · cases he
        · cases he
      · cases he
    · rename_i e1
      rw [e1] at ha
      have ha := VRel.eq_of_flat ha rfl
      split at he
      · rename_i e hu
        split at he
        · rename_i n hn b1 b2 b3
          split at he
          · rename_i hcond
            cases he
            rw [← bnd_rel b1 (by simp) hlo] at b1
            rw [← bnd_rel b2 (by simp) hhi] at b2
            rw [← bnd_rel b3 (by simp) hmx] at b3
            have hrun := run_bounds (P := P) (isS := true) (len := 0) (cap' := 0) b1 b2 b3 (Nat.le_refl _) (Nat.le_refl _) (Nat.le_refl _) (Nat.le_refl _) (by simpa using hcond) w
            have hz : (if (mx.map A.eval).isSome then 0 else 0) = 0 := by split <;> rfl
            rw [hz] at hrun
            exact ⟨_, .snil, by simp [execOp, ho, Instr.sliceAt, Instr.slice, run_under hu, ha, hrun, run_sizeOf hn]⟩
          · cases he
        · cases he
      · cases he
    · rename_i b oo e1
      rw [e1] at ha
      split at he
      · rename_i kk e hu
        split at he
        · rename_i n l r z hn b1 b2 b3
          split at he
          · rename_i hcond
            obtain ⟨c1, c2, c3, c4⟩ := hcond
            cases he
            rw [← bnd_rel b1 (by simp) hlo] at b1
            rw [← bnd_rel b2 (by simp) hhi] at b2
            rw [← bnd_rel b3 (by simp) hmx] at b3
            have hrun := run_bounds (P := P) (isS := false) (len := kk) (cap' := kk) b1 b2 b3 c1 c2 c3 (Nat.le_refl _) (by simpa using c4) w
            have hz : (if (mx.map A.eval).isSome then z else kk) = z := by
              split
              · rfl
              · rename_i hh
                cases mx with
                | none => exact (bnd_none b3).symm
                | some _ => simp at hh
            rw [hz] at hrun
            generalize hy : A.eval x = y at ha
            cases ha with
            | @ptr _ _ k hk =>
              by_cases hz : z = l
              · have : r = l := by omega
                subst hz
                refine ⟨.slice (some ⟨k.b, oo + k.sh, none⟩) 0 0, ?_, ?_⟩
                · have e1 : r - z = 0 := by omega
                  rw [e1, Nat.sub_self]
                  exact .slice0 _ _ _
                · simp [execOp, ho, Instr.sliceAt, run_under hu, hy, hrun, run_sizeOf hn, Instr.sureAddr]
                  omega
              · refine ⟨.slice (some ⟨k.b, oo + l * n + k.sh, none⟩) (r - l) (z - l), .slice hk (.inl rfl), ?_⟩
                simp [execOp, ho, Instr.sliceAt, run_under hu, hy, hrun, run_sizeOf hn, hz, addr_add, Instr.sureAddr]
          · cases he
        · cases he
      · cases he
    · rename_i s e1
      rw [e1] at ha
      have ha := VRel.eq_of_flat ha rfl
      split at he
      · rename_i hu
        split at he
        · rename_i l r b1 b2
          split at he
          · rename_i hcond
            obtain ⟨c1, c2, c3⟩ := hcond
            cases he
            rw [← bnd_rel b1 (by simp) hlo] at b1
            rw [← bnd_rel b2 (by simp) hhi] at b2
            have c3' : mx = none := by cases mx with
              | none => rfl
              | some _ => cases c3
            subst c3'
            have hrun := run_bounds (P := P) (isS := false) (len := s.size) (cap := s.size) (cap' := s.size) (mx := none) b1 b2 rfl c1 c2 (Nat.le_refl _) (Nat.le_refl _) (by simp) w
            refine ⟨_, .string _, ?_⟩
            have es : s.extract l r = ⟨((s.data.toList.take r).drop l).toArray⟩ := by
              apply ByteArray.ext
              rw [ByteArray.data_extract]
              apply Array.toList_inj.1
              simp [List.extract, List.drop_take]
            simp [execOp, ho, Instr.sliceAt, Instr.slice, run_under hu, ha, hrun, es]
          · cases he
        · cases he
      · cases he
    · cases he
end
end Go.Proofs.Ytmelgnpogdilgaa
