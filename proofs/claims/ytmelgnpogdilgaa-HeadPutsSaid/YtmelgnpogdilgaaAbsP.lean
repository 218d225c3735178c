/- Nil tests and maps, on related memories. No conditions. -/
import Derived.Test.YtmelgnpogdilgaaAbsO
import Derived.LaidEql
namespace Go.Proofs.Ytmelgnpogdilgaa
set_option linter.unusedVariables false
section
variable {P : Program} {D W : Nat → Prop} {o : Oper} {tm : List Value} {h : AHeap}
/-! ### Equality of references -/
def notU8 (P : Program) (h : AHeap) (b : Nat) : Bool := match h.get b with
  | some (.cells _ t) => match P.underlying t with
    | some (.int .u8) => false
    | _ => true
  | _ => false
def aEq (P : Program) (h : AHeap) (t : TypeId) (x y : Value) : Option (Bool × List Nat) :=
  match P.underlying t, x, y with
  | some (.pointer _), .pointer none, .pointer b => some (b.isNone, [])
  | some (.pointer _), .pointer (some _), .pointer none => some (false, [])
  | some (.pointer e), .pointer (some ⟨b, p, none⟩), .pointer (some ⟨c, q, none⟩) => match sizeT P e with
    | some (_ + 1) => if b = c then (if h.get b = none then none else some (p == q, [])) else if notU8 P h b && notU8 P h c then some (false, [b, c]) else none
    | _ => none
  | some (.slice _), .slice none _ _, .slice b _ _ => some (b.isNone, [])
  | some (.slice _), .slice (some _) _ _, .slice none _ _ => some (false, [])
  | some (.map _ _), .map none, .map b => some (b.isNone, [])
  | some (.map _ _), .map (some _), .map none => some (false, [])
  | some (.func _ _ _), .nilFunc, .nilFunc => some (true, [])
  | some (.func _ _ _), .nilFunc, .func _ _ _ => some (false, [])
  | some (.func _ _ _), .func _ _ _, .nilFunc => some (false, [])
  | _, _, _ => none
theorem notU8_run {b : Nat} (hn : notU8 P h b = true) {m : Mp} {w : World} (H : HRel P m D h w) (hD : D b) {l : Loc} (hl : m b = some l) : ∃ c t, w.heap[l.b]? = some (.cells c t (0, 0)) ∧ h.live b := by
  unfold notU8 at hn
  split at hn
  · rename_i c t hg
    obtain ⟨c', fz, a, _, hf, _⟩ := H.cells hD hl hg
    rcases hf with rfl | ⟨hu, _⟩
    · exact ⟨c', t, a, AHeap.live_of hg rfl⟩
    · rw [hu] at hn; cases hn
  · cases hn
theorem sameAddr_ne {b c : Nat} {w : World} {x y : Nat} {cx cy : Array Value} {tx ty : TypeId} (hne : b ≠ c) (h1 : w.heap[b]? = some (.cells cx tx (0, 0))) (h2 : w.heap[c]? = some (.cells cy ty (0, 0))) : (sameAddr ⟨b, x, none⟩ ⟨c, y, none⟩).run P w = .ok false w := by
  exact run_sameAddr_other w (a := ⟨b, x, none⟩) (b := ⟨c, y, none⟩) (fun e => hne (by cases e; rfl)) h1 h2
theorem equal_run {t : TypeId} {x y x' y' : Value} {b : Bool} {rd : List Nat} (he : aEq P h t x y = some (b, rd)) (hD : ∀ i ∈ rd, D i) {m : Mp} {w : World} (H : HRel P m D h w) (hx : VRel m x x') (hy : VRel m y y') : (Op.equal t x' y').run P w = .ok b w := by
  unfold Op.equal
  obtain ⟨d, hd⟩ : ∃ d, Op.maxDepth = d + 1 := ⟨9999, rfl⟩
  rw [hd]
  unfold aEq at he
  split at he
  · rename_i hu
    cases he
    cases hx
    cases hy <;> simp [Op.equalIn, run_under hu]
  · rename_i hu
    cases he
    cases hy
    cases hx <;> simp [Op.equalIn, run_under hu]
  · rename_i e b p c q hu
    split at he
    · rename_i n hn
      cases hx with
      | @ptr _ _ l hl =>
        cases hy with
        | @ptr _ _ k hk =>
          split at he
          · rename_i hbc
            subst hbc
            rw [hl] at hk; cases hk
            split at he
            · cases he
            · cases he
              have e1 : ((⟨l.b, p + l.sh, none⟩ : Addr) == ⟨l.b, q + l.sh, none⟩) = (p == q) := by
                by_cases hpq : p = q
                · subst hpq; simp
                · have : ¬ (⟨l.b, p + l.sh, none⟩ : Addr) = ⟨l.b, q + l.sh, none⟩ := fun e => hpq (by have := congrArg Addr.off e; simpa using this)
                  rw [beq_eq_false_iff_ne.2 this, beq_eq_false_iff_ne.2 hpq]
              simp [Op.equalIn, run_under hu, run_sizeOf hn, sameAddr, e1]
          · rename_i hbc
            split at he
            · rename_i hcond
              cases he
              rw [Bool.and_eq_true] at hcond
              obtain ⟨cx, tx, w1, a1⟩ := notU8_run hcond.1 H (hD b (by simp)) hl
              obtain ⟨cy, ty, w2, a2⟩ := notU8_run hcond.2 H (hD c (by simp)) hk
              have hne : l.b ≠ k.b := fun e => hbc (H.inj b c l k hl hk a1.ne a2 e)
              simp [Op.equalIn, run_under hu, run_sizeOf hn, sameAddr_ne hne w1 w2]
            · cases he
    · cases he
  · rename_i hu
    cases he
    cases hx
    cases hy <;> simp [Op.equalIn, run_under hu]
  · rename_i hu
    cases he
    cases hy
    cases hx <;> simp [Op.equalIn, run_under hu]
  · rename_i hu
    cases he
    cases hx
    cases hy <;> simp [Op.equalIn, run_under hu]
  · rename_i hu
    cases he
    cases hy
    cases hx <;> simp [Op.equalIn, run_under hu]
  · rename_i hu
    cases he
    cases hx
    cases hy <;> simp [Op.equalIn, run_under hu]
  · rename_i hu
    cases he
    cases hx
    cases hy <;> simp [Op.equalIn, run_under hu]
  · rename_i hu
    cases he
    cases hy
    cases hx <;> simp [Op.equalIn, run_under hu]
  · cases he
/-- Values that are compared by 'Op.equal' at once. -/
def refB : Value → Bool
  | .pointer _ | .slice _ _ _ | .map _ | .nilFunc | .func _ _ _ => true
  | _ => false
theorem aEq_ref {t : TypeId} {x y : Value} {b : Bool} {rd : List Nat} (he : aEq P h t x y = some (b, rd)) : refB x = true ∧ refB y = true := by
  unfold aEq at he
  split at he <;> first | exact ⟨rfl, rfl⟩ | cases he
theorem refB_rel {m : Mp} {x x' : Value} (h : VRel m x x') (hx : refB x = true) : refB x' = true := by
  cases h <;> first | rfl | cases hx
theorem OpRun.eq {op : BinOp} {t t₂ : TypeId} {x y : Operand} {b : Bool} {rd : List Nat} (ho : o.op = .binOp op t x y t₂) (hop : op = .eql ∨ op = .neq) (he : aEq P h t (evalT tm x) (evalT tm y) = some (b, rd)) (hD : ∀ i ∈ rd, D i) : OpRun P D W o tm h (.bool (if op = .eql then b else !b)) h :=
  .ofPure (by simp [ho]) fun m w A hm hx H => by
    have h1 := hx x (by simp [ho, Op.operands])
    have h2 := hx y (by simp [ho, Op.operands])
    have hr := equal_run he hD H h1 h2
    obtain ⟨r1, r2⟩ := aEq_ref he
    have r1 := refB_rel h1 r1
    have r2 := refB_rel h2 r2
    refine ⟨_, .bool _, ?_⟩
    simp only [execOp, ho]
    generalize A.eval x = x' at *
    generalize A.eval y = y' at *
    rcases hop with rfl | rfl
    · cases x' <;> simp [refB] at r1 <;> cases y' <;> simp [refB] at r2 <;> simp [eqGuard, binOp, hr]
    · cases x' <;> simp [refB] at r1 <;> cases y' <;> simp [refB] at r2 <;> simp [eqGuard, binOp, hr]
end
end Go.Proofs.Ytmelgnpogdilgaa
