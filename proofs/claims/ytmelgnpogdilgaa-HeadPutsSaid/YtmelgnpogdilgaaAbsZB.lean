/- The fast evaluator's operations are sound (more). No conditions. -/
import Derived.Test.YtmelgnpogdilgaaAbsZ
namespace Go.Proofs.Ytmelgnpogdilgaa
set_option linter.unusedVariables false
section
variable {A B C : Type} {a : A} {P : Program} {CF : CallK A} {E : CodeK A} {o : Oper} {ft : BT} {tm : List Value} {h : AHeap} {K : KO A}
theorem oUn_sound {op : UnOp} {t : TypeId} {x : Operand} (ho : o.op = .unOp op t x) (hr : Rep ft tm) (he : oUn op t x P CF E o ft h K = some a) : Goes P o tm h K a := by
  cases op with
  | not =>
    have he : binK (notV (evalF ft x)) h K none = some a := he
    rw [evalF_eq hr] at he
    rcases binK_inv he with ⟨v, h1, he⟩ | ⟨_, he⟩
    · unfold notV at h1
      split at h1
      · rename_i b hb
        cases h1
        refine .of (fun D W => .ofPure (by simp [ho]) fun m w A hm hx H => ?_) he
        have a1 := hx x (by simp [ho, Op.operands])
        rw [hb] at a1
        have a1 := VRel.eq_of_flat a1 rfl
        exact ⟨_, .bool _, by simp [execOp, ho, a1, Op.unary]⟩
      · cases h1
    · cases he
  | _ => exact slow_sound (CF := CF) (E := E) hr he
theorem oConv_sound {src dst : TypeId} {x : Operand} (ho : o.op = .convert src dst x) (hr : Rep ft tm) (he : oConv src dst x P CF E o ft h K = some a) : Goes P o tm h K a := by
  unfold oConv at he
  rw [evalF_eq hr] at he
  rcases binK_inv he with ⟨v, h1, he⟩ | ⟨_, he⟩
  · unfold convV at h1
    split at h1
    · rename_i k0 n k hx hk
      cases h1
      unfold dstInt at hk
      split at hk
      · rename_i d k' hs hd
        cases hk
        refine .of (fun D W => .ofPure (by simp [ho]) fun m w A hm hxs H => ?_) he
        have a1 := hxs x (by simp [ho, Op.operands])
        rw [hx] at a1
        have a1 := VRel.eq_of_flat a1 rfl
        exact ⟨_, .int _ _, by simp [execOp, ho, a1, convert, run_under hs, run_under hd, Conv.intToInt, wrapF_eq]⟩
      · cases hk
    · cases h1
  · exact slow_sound (CF := CF) (E := E) hr he
theorem oNil_sound {x : Operand} (ho : o.op = .nilCheck x) (hr : Rep ft tm) (he : oNil x P CF E o ft h K = some a) : Goes P o tm h K a := by
  unfold oNil at he
  rw [evalF_eq hr] at he
  rcases binK_inv he with ⟨v, h1, he⟩ | ⟨_, he⟩
  · unfold nilV at h1
    split at h1
    · rename_i b c hx; cases h1; exact .of (fun D W => .nilCheck ho hx) he
    · rename_i f x y hx; cases h1; exact .of (fun D W => .nilCheckF ho hx (by simp)) he
    · cases h1
  · exact slow_sound (CF := CF) (E := E) hr he
theorem oExtract_sound {x : Operand} {i : Nat} (ho : o.op = .extract x i) (hr : Rep ft tm) (he : oExtract x i P CF E o ft h K = some a) : Goes P o tm h K a := by
  unfold oExtract at he
  rw [evalF_eq hr] at he
  rcases binK_inv he with ⟨v, h1, he⟩ | ⟨_, he⟩
  · unfold tupV at h1
    split at h1
    · rename_i vs hx
      rw [nth_eq] at h1
      exact .of (fun D W => .extract ho (by rw [hx]; simpa [aExtract] using h1)) he
    · cases h1
  · cases he
theorem oPick_sound {c x y : Operand} (ho : o.op = .pick c x y) (hr : Rep ft tm) (he : oPick c x y P CF E o ft h K = some a) : Goes P o tm h K a := by
  unfold oPick at he
  rw [evalF_eq hr] at he
  obtain ⟨t, h1, he⟩ := boolK_inv he
  rw [headV_eq] at he
  cases t with
  | false => exact .of (fun D W => by simpa using OpRun.pick (P := P) (D := D) (W := W) (h := h) ho h1) he
  | true => exact .of (fun D W => by simpa using OpRun.pick (P := P) (D := D) (W := W) (h := h) ho h1) he
theorem Goes.new {v : Value} {b : AObj} (k : ∀ D W, OpRun P D W o tm h v (h.push b)) (hk : newK h K v b = some a) : Goes P o tm h K a := by
  unfold newK at hk
  rw [forceC_eq, hpushK_eq] at hk
  exact ⟨⟨v, h.push b, [], [], false, false⟩, .new k, hk⟩
theorem oAlloc_sound {t : TypeId} (ho : o.op = .alloc t) (he : oAlloc t P CF E o ft h K = some a) : Goes P o tm h K a := by
  obtain ⟨b, h1, he⟩ := optK_inv he
  exact .new (fun D W => .alloc ho h1) he
theorem oBox_sound {t : TypeId} {x : Operand} (ho : o.op = .box t x) (hr : Rep ft tm) (he : oBox t x P CF E o ft h K = some a) : Goes P o tm h K a := by
  unfold oBox at he
  rw [evalF_eq hr] at he
  obtain ⟨b, h1, he⟩ := optK_inv he
  exact .new (fun D W => .box ho h1) he
theorem oBuildSlice_sound {t : TypeId} {len : Nat} {ps : Array (Nat × Operand)} (ho : o.op = .buildSlice t len ps) (hr : Rep ft tm) (he : oBuildSlice t len ps P CF E o ft h K = some a) : Goes P o tm h K a := by
  unfold oBuildSlice at he
  rw [evalF_eq hr] at he
  obtain ⟨b, h1, he⟩ := optK_inv he
  exact .new (fun D W => .buildSlice ho h1) he
theorem oMakeSlice_sound {t : TypeId} {x y : Operand} (ho : o.op = .makeSlice t x y) (hr : Rep ft tm) (he : oMakeSlice t x y P CF E o ft h K = some a) : Goes P o tm h K a := by
  unfold oMakeSlice at he
  rw [evalF_eq hr] at he
  obtain ⟨⟨l, c, b⟩, h1, he⟩ := optK_inv he
  exact .new (fun D W => .makeSlice ho h1) he
theorem oBuiltin_sound {b : Builtin} {xs : Array Operand} {ts : Array TypeId} (ho : o.op = .call ⟨.builtin b, xs, ts⟩) (hr : Rep ft tm) (he : oBuiltin b xs ts P CF E o ft h K = some a) : Goes P o tm h K a := by
  have fin : ∀ (x y : Operand) (t u : TypeId), b = .append → xs.toList = [x, y] → ts.toList = [t, u] → (optK (appendA P h t u (evalF ft x) (evalF ft y)) fun r => HA.onK h r.2.1 fun h' => forceV r.1 fun v => K v h' r.2.2.1 r.2.2.2 false false) = some a → Goes P o tm h K a := fun x y t u hb hx ht he2 => by
    clear he
    subst hb
    rw [arr2 hx, arr2 ht] at ho
    rw [evalF_eq hr] at he2
    obtain ⟨⟨v, act, rd, wr⟩, h1, he⟩ := optK_inv he2
    rw [HA.onK_eq, forceV_eq] at he
    exact ⟨⟨v, act.on h, rd, wr, false, false⟩, .write fun D W hr hw => .append ho (appendA_eq h1) hr fun i hi => (hw i hi).2, he⟩
  have fin2 : ∀ (x : Operand) (t : TypeId), b = .len → xs.toList = [x] → ts.toList = [t] → binK (lenF (evalF ft x) (isSliceT P t)) h K (slow P CF E o ft h K) = some a → Goes P o tm h K a := fun x t hb hx ht he2 => by
    clear he fin
    subst hb
    rcases binK_inv he2 with ⟨v, h1, he⟩ | ⟨_, he⟩
    · rw [arr1 hx, arr1 ht] at ho
      rw [evalF_eq hr] at h1
      unfold lenF at h1
      split at h1
      · rename_i ad n c e1 e2
        cases h1
        unfold isSliceT at e2
        split at e2
        · rename_i el hu
          exact .of (fun D W => .len (rd := []) ho (by rw [e1]; simp [aLen, hu]) (by simp)) he
        · cases e2
      · cases h1
    · exact slow_sound (CF := CF) (E := E) hr he
  generalize hxs : xs.toList = lx at fin fin2
  generalize hts : ts.toList = lt at fin fin2
  unfold oBuiltin at he
  rw [hxs, hts] at he
  cases b with
  | len =>
    cases lx with
    | nil => exact slow_sound (CF := CF) (E := E) hr he
    | cons x lx => cases lx with
      | cons y lx => exact slow_sound (CF := CF) (E := E) hr he
      | nil => cases lt with
        | nil => exact slow_sound (CF := CF) (E := E) hr he
        | cons t lt => cases lt with
          | cons u lt => exact slow_sound (CF := CF) (E := E) hr he
          | nil => exact fin2 x t rfl rfl rfl he
  | append =>
    cases lx with
    | nil => exact slow_sound (CF := CF) (E := E) hr he
    | cons x lx => cases lx with
      | nil => exact slow_sound (CF := CF) (E := E) hr he
      | cons y lx => cases lx with
        | cons z lx => exact slow_sound (CF := CF) (E := E) hr he
        | nil => cases lt with
          | nil => exact slow_sound (CF := CF) (E := E) hr he
          | cons t lt => cases lt with
            | nil => exact slow_sound (CF := CF) (E := E) hr he
            | cons u lt => cases lt with
              | cons z lt => exact slow_sound (CF := CF) (E := E) hr he
              | nil => exact fin x y t u rfl rfl rfl he
  | _ => exact slow_sound (CF := CF) (E := E) hr he
/-! ### Frames out of lists, and back -/
theorem ofLK_spec : ∀ (l : List Value) (i : Nat) (t : BT), ∃ t', (∀ j, t'.get j = if i ≤ j ∧ j < i + l.length then l.getD (j - i) undef else t.get j) ∧ ∀ {X : Type} (K : BT → Option X), ofLK l i t K = K t'
  | [], i, t => ⟨t, fun j => by rw [if_neg (by simp)], fun K => rfl⟩
  | v :: l, i, t => by
    obtain ⟨t₁, h1, h2⟩ := BT.setK_spec (i + 1) t i v (by omega)
    obtain ⟨t₂, h3, h4⟩ := ofLK_spec l (i + 1) t₁
    refine ⟨t₂, fun j => ?_, fun K => ?_⟩
    · rw [h3]
      by_cases hj : i + 1 ≤ j ∧ j < i + 1 + l.length
      · rw [if_pos hj, if_pos (by simp; omega)]
        have e : j - i = (j - (i + 1)) + 1 := by omega
        rw [e, List.getD_cons_succ]
      · rw [if_neg hj, h1]
        by_cases e : i = j
        · subst e; simp
        · rw [if_neg e, if_neg (by simp; omega)]
    · show BT.setK (i + 1) t i v (fun t => ofLK l (i + 1) t K) = _
      rw [h2, h4]
theorem ofLK_rep {X : Type} {l : List Value} {K : BT → Option X} {x : X} (he : ofLK l 0 .nil K = some x) (k : Nat) : ∃ ft, Rep ft (l ++ List.replicate k undef) ∧ K ft = some x := by
  obtain ⟨t, h1, h2⟩ := ofLK_spec l 0 .nil
  rw [h2] at he
  refine ⟨t, fun i => ?_, he⟩
  rw [h1]
  by_cases hi : i < l.length
  · rw [if_pos (by omega)]
    simp [List.getElem?_append_left hi]
  · rw [if_neg (by omega), BT.get_nil]
    simp only [List.getD_eq_getElem?_getD]
    rw [List.getElem?_append_right (by omega)]
    by_cases hk : i - l.length < k
    · simp [hk]
    · rw [List.getElem?_eq_none (by simp; omega)]; rfl
theorem toL_eq {ft : BT} {tm : List Value} (hr : Rep ft tm) : ∀ (N i : Nat), i + N = tm.length → toL ft N i = tm.drop i
  | 0, i, h => by rw [List.drop_eq_nil_of_le (by omega)]; rfl
  | N + 1, i, h => by
    have hlt : i < tm.length := by omega
    show ft.get i :: toL ft N (i + 1) = _
    rw [toL_eq hr N (i + 1) (by omega), hr i, List.drop_eq_getElem_cons hlt]
    congr 1
    simp [List.getElem?_eq_getElem hlt]
theorem codeL_inv {c : Code} {l : List Value} {df : List Nat} {K' : CR → Option A} (hE : EKOk P E) (he : codeL E c l df h K' = some a) : ∃ r : CR, Run P (· ∈ r.wr) true c ⟨l, df, h⟩ r.x ⟨r.tm, r.df, r.h⟩ ∧ K' r = some a := by
  obtain ⟨ft, h1, he⟩ := ofLK_rep he 0
  simp only [List.replicate_zero, List.append_nil] at h1
  obtain ⟨x, tm', ft', df', h', wr, h2, h3, h4, h5⟩ := hE _ _ _ _ _ _ _ _ he l rfl h1
  have e : toL ft' l.length 0 = tm' := by rw [toL_eq h3 l.length 0 (by rw [h2]; omega)]; rfl
  rw [e] at h5
  exact ⟨⟨x, tm', df', h', wr⟩, h4, h5⟩
theorem yieldK_sound {f : Operand} {xs : Array Operand} {ts : Array TypeId} {l : Nat} (hE : EKOk P E) (ho : o.op = .call ⟨.value f, xs, ts⟩) (hf : evalT tm f = .func (.yield l) #[] #[]) (he : yieldK E h l (xs.toList.map (evalT tm)) K = some a) : Goes P o tm h K a := by
  unfold yieldK at he
  split at he
  case h_2 => cases he
  rename_i pe tmL ps asg bo df hl
  rw [hget_eq] at hl
  obtain ⟨hsz, he⟩ := ifK_yes he
  have hsz : xs.size = ps.size := by have := Nat.eq_of_beq_eq_true hsz; simpa using this
  obtain ⟨r₁, r1, he⟩ := codeL_inv hE he
  split at he
  case h_2 => cases he
  rename_i tm₁ df₁ h₁ wr₁
  split at he
  case h_2 => cases he
  rename_i pe' tmL' ps' as' bo' df' hl₁
  rw [hget_eq] at hl₁
  rw [hputK_eq] at he
  obtain ⟨r₂, r2, he⟩ := codeL_inv hE he
  split at he
  case h_2 => cases he
  rename_i st₂ pe₂ tm₂ ps₂ as₂ bo₂ df₂ jump hl₂ hj
  rw [hget_eq] at hl₂
  rw [hputK_eq, forceC_eq] at he
  refine ⟨⟨.bool jump.isNone, _, [], l :: (wr₁ ++ r₂.wr), true, false⟩, ⟨(fun e => by cases e), fun D W hall _ hw => ?_⟩, he⟩
  rw [hall rfl]
  exact OpRun.yield (s₁ := ⟨tm₁, df₁, h₁⟩) (s₂ := ⟨r₂.tm, r₂.df, r₂.h⟩) ho hf hl hsz (r1.weak fun i hi => (hw i (by simp at hi ⊢; exact .inr (.inl hi))).2) hl₁ (r2.weak fun i hi => (hw i (by simp at hi ⊢; exact .inr (.inr hi))).2) hl₂ hj (hw l (by simp)).2
theorem oCall_sound {f : Operand} {xs : Array Operand} {ts : Array TypeId} (hCF : CKOk P CF) (hE : EKOk P E) (ho : o.op = .call ⟨.value f, xs, ts⟩) (hr : Rep ft tm) (he : oCall f xs P CF E o ft h K = some a) : Goes P o tm h K a := by
  unfold oCall at he
  rw [evalF_eq hr] at he
  generalize hf : evalT tm f = v at he
  cases v with
  | func fn first cap =>
    cases fn with
    | func g =>
      obtain ⟨hc, he⟩ := ifK_yes he
      rw [forceL_eq] at he
      obtain ⟨fn, h1, h2, h3⟩ := calls_spec hc
      obtain ⟨v, h', wr, hcr, he⟩ := hCF _ _ _ _ _ he
      refine ⟨⟨v, h', [], wr, true, false⟩, ⟨(fun e => by cases e), fun D W hall _ hw => ?_⟩, he⟩
      rw [hall rfl]
      have hcr := hcr.weak (W' := W) fun i hi => (hw i hi).2
      have e : (first.toList ++ xs.toList.map (evalT tm) ++ cap.toList).toArray = first ++ xs.map (evalT tm) ++ cap := by
        apply Array.toList_inj.1
        simp
      rw [e] at hcr
      exact OpRun.call ho hf h1 h2 h3 hcr
    | yield l =>
      obtain ⟨g1, he⟩ := ifK_yes he
      obtain ⟨g2, he3⟩ := ifK_yes he
      have e1 : first = #[] := Array.eq_empty_of_size_eq_zero (Nat.eq_of_beq_eq_true g1)
      have e2 : cap = #[] := Array.eq_empty_of_size_eq_zero (Nat.eq_of_beq_eq_true g2)
      subst e1 e2
      rw [forceL_eq] at he3
      exact yieldK_sound hE ho hf he3
    | _ => cases he
  | _ => cases he
theorem fOpF_sound (hCF : CKOk P CF) (hE : EKOk P E) (hr : Rep ft tm) (he : fOpF o.op P CF E o ft h K = some a) : Goes P o tm h K a := by
  generalize hop : o.op = op at he
  cases op with
  | move x => have he : oMove x P CF E o ft h K = some a := he; unfold oMove at he; rw [evalF_eq hr, headV_eq] at he; exact .of (fun D W => .move hop) he
  | assign x => have he : oMove x P CF E o ft h K = some a := he; unfold oMove at he; rw [evalF_eq hr, headV_eq] at he; exact .of (fun D W => .assign hop) he
  | pick c x y => exact oPick_sound (CF := CF) (E := E) hop hr he
  | alloc t => exact oAlloc_sound (CF := CF) (E := E) (ft := ft) hop he
  | box t x => exact oBox_sound (CF := CF) (E := E) hop hr he
  | buildSlice t len ps => exact oBuildSlice_sound (CF := CF) (E := E) hop hr he
  | load t x => exact oLoad_sound (CF := CF) (E := E) hop hr he
  | store t x y => exact oStore_sound (CF := CF) (E := E) hop hr he
  | nilCheck x => exact oNil_sound (CF := CF) (E := E) hop hr he
  | binOp op t x y t₂ => exact oBin_sound (CF := CF) (E := E) hop hr he
  | unOp op t x => exact oUn_sound (CF := CF) (E := E) hop hr he
  | convert src dst x => exact oConv_sound (CF := CF) (E := E) hop hr he
  | makeSlice t x y => exact oMakeSlice_sound (CF := CF) (E := E) hop hr he
  | fieldAddr s x f => exact oField_sound (CF := CF) (E := E) hop hr he
  | indexAddr t x i => exact oIndex_sound (CF := CF) (E := E) hop hr he
  | extract x i => exact oExtract_sound (CF := CF) (E := E) hop hr he
  | call c =>
    obtain ⟨callee, xs, ts⟩ := c
    cases callee with
    | value f => exact oCall_sound hCF hE hop hr he
    | builtin b => exact oBuiltin_sound (CF := CF) (E := E) hop hr he
    | invoke r m => exact slow_sound (CF := CF) (E := E) hr he
  | _ => exact slow_sound (CF := CF) (E := E) hr he
end
end Go.Proofs.Ytmelgnpogdilgaa
