/- Lengths, copy, conversions of bytes and texts, nil tests, on related memories. No conditions. -/
import Derived.Test.YtmelgnpogdilgaaAbsM
namespace Go.Proofs.Ytmelgnpogdilgaa
set_option linter.unusedVariables false
section
variable {P : Program} {D W : Nat → Prop} {o : Oper} {tm : List Value} {h : AHeap}
theorem exec_builtin {b : Builtin} {xs : Array Operand} {ts : Array TypeId} {ρ : Operand → Value} (ho : o.op = .call { callee := .builtin b, args := xs, argTypes := ts }) (w : World) :
    (execOp ρ o).run P w = (builtin b ts o.type (xs.map fun | .const _ => true | _ => false) (xs.map ρ)).run P w := by
  simp [execOp, ho, resolve, invoke]
  rfl
/-! ### len, cap -/
def aLen (P : Program) (h : AHeap) (t : TypeId) (v : Value) : Option (Int × List Nat) :=
  match P.underlying t, v with
  | some (.slice _), .slice _ n _ => some (n, [])
  | some .string, .string s => some (s.size, [])
  | some (.array n _), _ => some (n, [])
  | some (.map _ _), .map none => some (0, [])
  | some (.map _ _), .map (some r) => match h.get r with
    | some (.map es _) => some (es.size, [r])
    | _ => none
  | _, _ => none
theorem OpRun.len {t : TypeId} {x : Operand} {n : Int} {rd : List Nat} (ho : o.op = .call { callee := .builtin .len, args := #[x], argTypes := #[t] }) (he : aLen P h t (evalT tm x) = some (n, rd)) (hD : ∀ i ∈ rd, D i) : OpRun P D W o tm h (.int .i64 n) h :=
  .ofPure (by simp [ho]) fun m w A hm hx H => by
    have ha := hx x (by simp [ho, Op.operands, Call.operands])
    refine ⟨_, .int _ _, ?_⟩
    rw [exec_builtin ho]
    unfold aLen at he
    split at he
    · rename_i e a n c hu e1
      rw [e1] at ha
      cases he
      generalize hy : A.eval x = y at ha
      cases ha <;> simp [builtin, Builtin.len_, run_under hu, hy, goInt]
    · rename_i s hu e1
      rw [e1] at ha
      cases he
      have := VRel.eq_of_flat ha rfl
      simp [builtin, Builtin.len_, run_under hu, this, goInt]
    · rename_i n e hu
      cases he
      simp [builtin, Builtin.len_, run_under hu, goInt]
    · rename_i a b hu e1
      rw [e1] at ha
      cases he
      have := VRel.eq_of_flat ha rfl
      simp [builtin, Builtin.len_, run_under hu, this, goInt]
    · rename_i a b r hu e1
      rw [e1] at ha
      split at he
      · rename_i es k hg
        cases he
        generalize hy : A.eval x = y at ha
        cases ha with
        | @map _ l hl =>
          obtain ⟨o', a1, a2⟩ := H.obj _ _ _ (hD _ (by simp)) hl hg
          cases a2 with
          | map he => simp [builtin, Builtin.len_, run_under hu, hy, goInt, getObj, Sem.run, a1, he.1]
      · cases he
    · cases he
def aCap (P : Program) (h : AHeap) (t : TypeId) (v : Value) : Option Int :=
  match P.underlying t, v with
  | some (.slice _), .slice none _ n => some n
  | some (.slice _), .slice (some ⟨b, o, none⟩) _ n => if tight P h b o n = false then some n else none
  | some (.array n _), _ => some n
  | _, _ => none
theorem OpRun.cap {t : TypeId} {x : Operand} {n : Int} (ho : o.op = .call { callee := .builtin .cap, args := #[x], argTypes := #[t] }) (he : aCap P h t (evalT tm x) = some n) : OpRun P D W o tm h (.int .i64 n) h :=
  .ofPure (by simp [ho]) fun m w A hm hx H => by
    have ha := hx x (by simp [ho, Op.operands, Call.operands])
    refine ⟨_, .int _ _, ?_⟩
    rw [exec_builtin ho]
    unfold aCap at he
    split at he
    · rename_i e a n hu e1
      rw [e1] at ha
      cases he
      generalize hy : A.eval x = y at ha
      cases ha
      simp [builtin, Builtin.cap_, run_under hu, hy, goInt]
    · rename_i e b o' ln n hu e1
      rw [e1] at ha
      split at he
      · rename_i ht
        cases he
        generalize hy : A.eval x = y at ha
        cases ha with
        | @slice _ _ _ _ cap' l hl hc =>
          have := capOk_exact H hl ht hc
          subst this
          simp [builtin, Builtin.cap_, run_under hu, hy, goInt]
        | slice0 => simp [builtin, Builtin.cap_, run_under hu, hy, goInt]
      · cases he
    · rename_i n e hu
      cases he
      simp [builtin, Builtin.cap_, run_under hu, goInt]
    · cases he
/-! ### copy, clear -/
def lenV : Value → Option Nat
  | .slice _ n _ => some n
  | .string s => some s.size
  | _ => none
def aCopy (P : Program) (h : AHeap) (t : TypeId) (x y : Value) : Option (Nat × AHeap × List Nat × List Nat) :=
  match P.underlying t with
  | some (.slice e) => match sizeT P e, lenV y, x with
    | some size, some ln, .slice a dl _ => match aSrc h size (Nat.min ln dl) y with
      | some (cs, rd) => match a with
        | none => if cs.isEmpty then some (Nat.min ln dl, h, rd, []) else none
        | some ⟨b, o, none⟩ => if cs.isEmpty then some (Nat.min ln dl, h, rd, []) else match h.get b with
          | some (.cells c ct) => if o + cs.length ≤ c.length ∧ cs.all Value.oneCell' = true then some (Nat.min ln dl, h.put b (some (.cells (setL c o cs) ct)), b :: rd, [b]) else none
          | _ => none
        | _ => none
      | none => none
    | _, _, _ => none
  | _ => none
theorem lenV_run {m : Mp} {y y' : Value} {n : Nat} (h : VRel m y y') (he : lenV y = some n) (w : World) : (Builtin.lenOf y').run P w = .ok n w := by
  cases h <;> simp [lenV] at he <;> subst he <;> simp [Builtin.lenOf]
theorem OpRun.copy {t t₂ : TypeId} {x y : Operand} {n : Nat} {h' : AHeap} {rd wr : List Nat} (ho : o.op = .call { callee := .builtin .copy, args := #[x, y], argTypes := #[t, t₂] }) (he : aCopy P h t (evalT tm x) (evalT tm y) = some (n, h', rd, wr)) (hD : ∀ i ∈ rd, D i) (hW : ∀ i ∈ wr, W i) : OpRun P D W o tm h (.int .i64 n) h' := by
  have hnd : ∀ c, o.op ≠ .defer c := by simp [ho]
  unfold aCopy at he
  split at he
  case h_2 => cases he
  rename_i e hu
  split at he
  case h_2 => cases he
  rename_i size ln a dl cp hs hln e1
  split at he
  case h_2 => cases he
  rename_i cs rd₁ hsrc
  have none' : ∀ (m : Mp) (w : World) (A : Act) (a' : Option Addr) (dl' cap' : Nat) (cs' : Array Value), VRel m (evalT tm y) (A.eval y) → A.eval x = .slice a' dl cap' → (Builtin.firstCells size (Nat.min ln dl) (A.eval y)).run P w = .ok cs' w → cs'.toList = [] →
      (execOp A.eval o).run P w = .ok (.value (.int .i64 (Nat.min ln dl : Nat))) w := fun m w A a' dl' cap' cs' hy hx' hr hc => by
    rw [exec_builtin ho]
    simp only [builtin, Builtin.copy_]
    simp [hx', run_under hu, lenV_run hy hln, run_sizeOf hs, hr, hc, goInt]
    cases a' <;> simp [storeCells]
  split at he
  · -- nil
    split at he
    · rename_i hemp
      cases he
      refine .ofPure hnd fun m w A hm hx H => ⟨_, .int _ _, ?_⟩
      have h1 := hx x (by simp [ho, Op.operands, Call.operands])
      have h2 := hx y (by simp [ho, Op.operands, Call.operands])
      obtain ⟨cs', hr, hc⟩ := aSrc_run hsrc hD H h2
      have hc' : cs'.toList = [] := by
        have := hc.1; rw [List.isEmpty_iff.1 hemp] at this
        simpa using (Array.eq_empty_of_size_eq_zero this.symm)
      rw [e1] at h1
      generalize hy : A.eval x = z at h1
      cases h1
      exact none' m w A _ 0 _ cs' h2 hy hr hc'
    · cases he
  · rename_i b oo
    split at he
    · rename_i hemp
      cases he
      refine .ofPure hnd fun m w A hm hx H => ⟨_, .int _ _, ?_⟩
      have h1 := hx x (by simp [ho, Op.operands, Call.operands])
      have h2 := hx y (by simp [ho, Op.operands, Call.operands])
      obtain ⟨cs', hr, hc⟩ := aSrc_run hsrc hD H h2
      have hc' : cs'.toList = [] := by
        have := hc.1; rw [List.isEmpty_iff.1 hemp] at this
        simpa using (Array.eq_empty_of_size_eq_zero this.symm)
      rw [e1] at h1
      generalize hy : A.eval x = z at h1
      cases h1
      · exact none' m w A _ 0 _ cs' h2 hy hr hc'
      · exact none' m w A _ 0 _ cs' h2 hy hr hc'
    · rename_i hemp
      split at he
      · rename_i c ct hg
        split at he
        · rename_i hcond
          cases he
          have hWb : W b := hW b (by simp)
          have hDb : D b := hD b (by simp)
          refine ⟨.put h hWb hg (setL_length hcond.1), fun m w A r hm hf hx H K Q hK => ?_⟩
          have h1 := hx x (by simp [ho, Op.operands, Call.operands])
          have h2 := hx y (by simp [ho, Op.operands, Call.operands])
          obtain ⟨cs', hr, hc⟩ := aSrc_run hsrc (fun i hi => hD i (List.mem_cons_of_mem _ hi)) H h2
          rw [e1] at h1
          generalize hy : A.eval x = z at h1
          cases h1 with
          | @slice _ _ _ _ cap' l hl hcap =>
            obtain ⟨w', a1, bb, f⟩ := HRel.storeL (P := P) (t := ct) (h := h) hDb hWb (AHeap.live_of hg rfl) (AHeap.lt hg) hl cs cs'.toList w c h oo 0 H rfl hg (by simpa using hc) (fun v hv => List.all_eq_true.1 hcond.2 v hv) (by omega)
            refine wpIn_value (v := .int .i64 (Nat.min ln dl : Nat)) (w' := w') hnd ?_ (hK _ w' m ⟨f.old, f.new, f.keep, f.size, f.os, f.tape, f.output⟩ (.int _ _) bb)
            rw [exec_builtin ho]
            simp [builtin, Builtin.copy_, hy, run_under hu, lenV_run h2 hln, run_sizeOf hs, hr, goInt, a1]
          | slice0 _ _ a =>
            exfalso
            have hz : Nat.min ln 0 = 0 := Nat.min_zero ln
            rw [hz] at hsrc
            have : cs = [] := by
              unfold aSrc at hsrc
              split at hsrc
              · simp at hsrc; exact hsrc.1
              · simp at hsrc; exact hsrc.1
              · simp at hsrc; exact hsrc.1
              · cases hsrc
            subst this
            simp at hemp
        · cases he
      · cases he
  · cases he
end
end Go.Proofs.Ytmelgnpogdilgaa
