/- append as an operation of the abstract heap: the judgement. No conditions. -/
import Derived.Test.YtmelgnpogdilgaaAbsI
namespace Go.Proofs.Ytmelgnpogdilgaa
set_option linter.unusedVariables false
section
variable {P : Program} {D W : Nat → Prop} {o : Oper} {tm : List Value} {h : AHeap}
theorem exec_append {t₁ t₂ : TypeId} {sx xx : Operand} (ho : o.op = .call { callee := .builtin .append, args := #[sx, xx], argTypes := #[t₁, t₂] }) (A : Act) (w : World) :
    (execOp A.eval o).run P w = ((Builtin.append_ #[t₁, t₂] o.type #[A.eval sx, A.eval xx]).run P w).andThen fun v w' => .ok (.value v) w' := by
  simp [execOp, ho, resolve, invoke, builtin]
theorem size_zeroCells' (z : Array Value) (n : Nat) : (Builtin.zeroCells z n).size = n * z.size := by simp [Builtin.zeroCells]
theorem Fr.drewAlloc (m : Mp) (W : Nat → Prop) {h h' : AHeap} (hn : h'.n = h.n + 1) (w : World) (o' : Obj) (l : Loc) (hb : l.b = w.heap.size) : Fr m (upd m h.n l) W h h' w (w.drew.alloc o') where
  old i hi := upd_ne m l (by omega)
  new i k h1 h2 e := by
    obtain rfl : i = h.n := by omega
    rw [upd_same] at e; cases e; exact .inl (by omega)
  keep b hb _ := by rw [alloc_get, if_neg (show ¬ b = w.drew.heap.size by show ¬ b = w.heap.size; omega)]; rfl
  size := by rw [alloc_size]; show w.heap.size ≤ w.heap.size + 1; omega
  os := rfl
  tape := rfl
  output := rfl
theorem OpRun.append {t₁ t₂ : TypeId} {sx xx : Operand} {v : Value} {h' : AHeap} {rd wr : List Nat} (ho : o.op = .call { callee := .builtin .append, args := #[sx, xx], argTypes := #[t₁, t₂] })
    (he : aAppend P h t₁ t₂ (evalT tm sx) (evalT tm xx) = some (v, h', rd, wr)) (hD : ∀ i ∈ rd, D i) (hW : ∀ i ∈ wr, W i) : OpRun P D W o tm h v h' := by
  have hnd : ∀ c, o.op ≠ .defer c := by simp [ho]
  unfold aAppend at he
  split at he
  case h_2 => cases he
  rename_i e hu
  split at he
  case h_2 => cases he
  rename_i inf hi
  split at he
  case h_2 => cases he
  rename_i z hz
  split at he
  case isFalse => cases he
  rename_i hc0
  obtain ⟨hsz, hzf, hzl⟩ := hc0
  split at he
  case h_2 => cases he
  rename_i n new rd₁ hnew
  have hs : sizeT P e = some inf.size := by simp [sizeT, hi]
  have hzc : z.cells.size = inf.size := by simpa using hzl
  unfold aGrow at he
  split at he
  · -- nil
    rename_i e1
    split at he
    · rename_i hn0
      cases he
      subst hn0
      refine .ofPure hnd fun m w A hm hx H => ⟨_, .snil, ?_⟩
      have h1 := hx sx (by simp [ho, Op.operands, Call.operands])
      rw [e1] at h1
      have h1 := VRel.eq_of_flat h1 rfl
      obtain ⟨new', hsrc, hnr⟩ := aNew_run hi hnew hD H (hx xx (by simp [ho, Op.operands, Call.operands]))
      rw [exec_append ho, h1, hsrc.place hu hs (by omega)]
      rfl
    · rename_i hn0
      split at he
      · rename_i hb
        cases he
        refine ⟨.push _ _ _, fun m w A r hm hf hx H K Q hK => ?_⟩
        have h1 := hx sx (by simp [ho, Op.operands, Call.operands])
        have h2 := hx xx (by simp [ho, Op.operands, Call.operands])
        rw [e1] at h1
        have h1 := VRel.eq_of_flat h1 rfl
        have hfn := hf h.n (Nat.le_refl _) (by simp)
        have Hd : HRel P m D h w.drew := H.world rfl
        obtain ⟨new', hsrc, hnr⟩ := aNew_run hi hnew hD Hd h2
        have hlen := aNew_length hnew (fun len cap ex => by rw [ex] at h2; exact h2.nil_len)
        obtain ⟨c, hc, hrun⟩ := hsrc.grow (t₁ := t₁) (ty := o.type) (len := 0) (cap := 0) (base := none) (old := #[]) hu hi rfl hz (by omega) (by simpa using hb.2) (by omega) (by simp [Builtin.firstCells])
        rw [Nat.zero_add] at hc hrun
        have hl : new.length = n * inf.size := hlen
        let l : Loc := locNew w inf.size new.length (c - n)
        refine wpIn_value hnd (by rw [exec_append ho, h1, hrun]; rfl) (hK _ _ (upd m h.n l) ?_ ?_ ?_)
        · exact Fr.drewAlloc m W (by simp) w _ l rfl
        · exact .slice (l := l) (upd_same _ _ _) (.inr ⟨by simp [l, locNew, hl], by simp [l, locNew]; omega⟩)
        · have := Hd.grown (slk := c - n) (rest := Builtin.zeroCells z.cells (c - n)) hfn hs hnr (by rw [size_zeroCells', hzc]; exact Nat.le_refl _)
          simpa [l, locNew] using this
      · cases he
  · -- a row
    rename_i b oo len cap e1
    split at he
    · rename_i hle
      split at he
      · rename_i hemp
        cases he
        refine .ofPure hnd fun m w A hm hx H => ?_
        have h1 := hx sx (by simp [ho, Op.operands, Call.operands])
        rw [e1] at h1
        obtain ⟨new', hsrc, hnr⟩ := aNew_run hi hnew hD H (hx xx (by simp [ho, Op.operands, Call.operands]))
        have hn' : new' = #[] := by
          have := hnr.1
          rw [List.isEmpty_iff.1 hemp] at this
          exact Array.eq_empty_of_size_eq_zero this.symm
        subst hn'
        generalize hy : A.eval sx = y at h1
        cases h1 with
        | @slice _ _ _ _ cap' l hl hcap =>
          refine ⟨_, .slice hl hcap, ?_⟩
          have : cap ≤ cap' := by rcases hcap with rfl | ⟨_, rfl⟩ <;> omega
          rw [exec_append ho, hy, hsrc.place hu hs (by omega)]
          simp [storeCells]
        | slice0 _ _ a =>
          obtain rfl : n = 0 := by omega
          refine ⟨_, .slice0 _ _ a, ?_⟩
          rw [exec_append ho, hy, hsrc.place hu hs (by omega)]
          simp [storeCells]
      · rename_i hemp
        split at he
        · rename_i c t hg
          split at he
          · rename_i hcond
            cases he
            have hWb : W b := hW b (by simp)
            have hDb : D b := hD b (by simp)
            refine ⟨.put h hWb hg (setL_length hcond.1), fun m w A r hm hf hx H K Q hK => ?_⟩
            have h1 := hx sx (by simp [ho, Op.operands, Call.operands])
            have h2 := hx xx (by simp [ho, Op.operands, Call.operands])
            rw [e1] at h1
            obtain ⟨new', hsrc, hnr⟩ := aNew_run hi hnew (fun i hi => hD i (List.mem_cons_of_mem _ hi)) H h2
            have hlen := aNew_length hnew (fun len cap ex => by rw [ex] at h2; exact h2.nil_len)
            generalize hy : A.eval sx = y at h1
            cases h1 with
            | @slice _ _ _ _ cap' l hl hcap =>
              have : cap ≤ cap' := by rcases hcap with rfl | ⟨_, rfl⟩ <;> omega
              obtain ⟨w', a, bb, f⟩ := HRel.storeL (P := P) (t := t) (h := h) hDb hWb (AHeap.live_of hg rfl) (AHeap.lt hg) hl new new'.toList w c h (oo + len * inf.size) 0 H rfl hg (by simpa using hnr) (fun v hv => List.all_eq_true.1 hcond.2 v hv) (by omega)
              refine wpIn_value (v := .slice (some ⟨l.b, oo + l.sh, none⟩) (len + n) cap') (w' := w') hnd ?_ (hK _ w' m ⟨f.old, f.new, f.keep, f.size, f.os, f.tape, f.output⟩ (.slice hl hcap) bb)
              rw [exec_append ho, hy, hsrc.place hu hs (by omega)]
              simp only [addr_add]
              rw [show oo + l.sh + len * inf.size = oo + len * inf.size + l.sh from by omega, a]
              rfl
            | slice0 _ _ a =>
              exfalso
              obtain rfl : n = 0 := by omega
              simp at hlen
              subst hlen
              simp at hemp
          · cases he
        · cases he
    · rename_i hgt
      split at he
      case isFalse => cases he
      rename_i hb
      split at he
      case h_2 => cases he
      rename_i old rd₂ hold
      have hol : old.length = len * inf.size := aSrc_length hold (fun _ _ e => by cases e) (fun _ e => by cases e)
      split at he
      · rename_i htt
        cases he
        refine ⟨.push _ _ _, fun m w A r hm hf hx H K Q hK => ?_⟩
        have h1 := hx sx (by simp [ho, Op.operands, Call.operands])
        have h2 := hx xx (by simp [ho, Op.operands, Call.operands])
        rw [e1] at h1
        have hfn := hf h.n (Nat.le_refl _) (by simp)
        have Hd : HRel P m D h w.drew := H.world rfl
        obtain ⟨new', hsrc, hnr⟩ := aNew_run hi hnew (fun i hi => hD i (by simp [hi])) Hd h2
        have hlen := aNew_length hnew (fun len cap ex => by rw [ex] at h2; exact h2.nil_len)
        obtain ⟨old', hor, hoa⟩ := aSrc_run hold (fun i hi => hD i (by simp [hi])) Hd h1
        have hnn : (old ++ new).length = (len + n) * inf.size := by rw [List.length_append, hol, hlen, Nat.add_mul]
        obtain ⟨ba, hba⟩ : ∃ ba, A.eval sx = .slice ba len cap := by
          generalize hy : A.eval sx = y at h1
          cases h1 with
          | @slice _ _ _ _ cap' l hl hcap =>
            have := capOk_exact H hl htt hcap
            subst this
            exact ⟨_, rfl⟩
          | slice0 _ _ a => exact ⟨_, rfl⟩
        rw [hba] at hor
        obtain ⟨c, hc, hrun⟩ := hsrc.grow (t₁ := t₁) (ty := o.type) hu hi rfl hz hb.1 hb.2 (by omega) hor
        let l : Loc := locNew w inf.size (old ++ new).length (c - (len + n))
        refine wpIn_value hnd (by rw [exec_append ho, hba, hrun]; rfl) (hK _ _ (upd m h.n l) ?_ ?_ ?_)
        · exact Fr.drewAlloc m W (by simp) w _ l rfl
        · exact .slice (l := l) (upd_same _ _ _) (.inr ⟨by simp only [l, locNew, hnn, Nat.zero_add], by simp [l, locNew]; omega⟩)
        · exact Hd.grown (slk := c - (len + n)) (rest := Builtin.zeroCells z.cells (c - (len + n))) hfn hs (by simpa using hoa.append hnr) (by rw [size_zeroCells', hzc]; exact Nat.le_refl _)
      · split at he
        case h_2 => cases he
        rename_i c t hg
        split at he
        case isFalse => cases he
        rename_i hcond
        obtain ⟨hte, htight, hone, hlc⟩ := hcond
        subst hte
        have hst := hs
        cases he
        have hWb : W b := hW b (by simp)
        have hDb : D b := hD b (by simp)
        refine ⟨.killPush hWb _, fun m w A r hm hf hx H K Q hK => ?_⟩
        have h1 := hx sx (by simp [ho, Op.operands, Call.operands])
        have h2 := hx xx (by simp [ho, Op.operands, Call.operands])
        rw [e1] at h1
        have hfn := hf h.n (Nat.le_refl _) (by simp)
        have Hd : HRel P m D h w.drew := H.world rfl
        have hlen := aNew_length hnew (fun len cap ex => by rw [ex] at h2; exact h2.nil_len)
        have hnn : (old ++ new).length = (len + n) * inf.size := by rw [List.length_append, hol, hlen, Nat.add_mul]
        -- the model makes a new row
        have away : ∀ ba cap', A.eval sx = .slice ba len cap' → cap' < len + n → o.wpIn (WF r) 0 P A w K Q := fun ba cap' hba hlt => by
          obtain ⟨new', hsrc, hnr⟩ := aNew_run hi hnew (fun i hi => hD i (by simp [hi])) Hd h2
          obtain ⟨old', hor, hoa⟩ := aSrc_run hold (fun i hi => hD i (by simp [hi])) Hd h1
          rw [hba] at hor
          obtain ⟨c, hc, hrun⟩ := hsrc.grow (t₁ := t₁) (ty := o.type) hu hi rfl hz hb.1 hb.2 hlt hor
          let l : Loc := locNew w inf.size (old ++ new).length (c - (len + n))
          refine wpIn_value hnd (by rw [exec_append ho, hba, hrun]; rfl) (hK _ _ (upd m h.n l) ?_ ?_ ?_)
          · exact Fr.drewAlloc m W (by simp) w _ l rfl
          · exact .slice (l := l) (upd_same _ _ _) (.inr ⟨by simp only [l, locNew, hnn, Nat.zero_add], by simp [l, locNew]; omega⟩)
          · exact (Hd.kill b).grown (slk := c - (len + n)) (rest := Builtin.zeroCells z.cells (c - (len + n))) hfn hs (by simpa using hoa.append hnr) (by rw [size_zeroCells', hzc]; exact Nat.le_refl _)
        generalize hy : A.eval sx = y at h1
        cases h1 with
        | slice0 _ _ a => exact away _ _ hy (by omega)
        | @slice _ _ _ _ cap' l hl hcap =>
          by_cases hfit : len + n ≤ cap'
          · -- the model has room
            have hcap2 : oo + cap * l.sz = l.A ∧ cap' = cap + l.slk := by
              rcases hcap with rfl | hcap
              · omega
              · exact hcap
            obtain ⟨t1, t2⟩ := hcap2
            have htyp := H.typ b l c t hl hg
            have hlsz : l.sz = inf.size := by have := htyp.1; rw [hst] at this; simpa using this.symm
            obtain ⟨new', hsrc, hnr⟩ := aNew_run hi hnew (fun i hi => hD i (by simp [hi])) H h2
            obtain ⟨c', fz, hw, hszok, hfz, hcv⟩ := H.cells hDb hl hg
            have hnl : new'.size = n * inf.size := by rw [← hlen]; simpa using hnr.1.symm
            obtain ⟨s1, s2⟩ := hszok
            rw [hlsz] at t1 s2
            have hroom : oo + l.sh + cap' * inf.size ≤ c'.size := by
              rw [t2, Nat.add_mul]; omega
            have hle2 : (len + n) * inf.size ≤ cap' * inf.size := Nat.mul_le_mul_right _ hfit
            rw [Nat.add_mul] at hle2
            obtain ⟨w', hrun, g1, g2, g3, g4, g5, g6⟩ := run_storeRaw (P := P) (b := l.b) (off := oo + l.sh + len * inf.size) new'.toList w c' 0 hw hfz (by simp [hnl]; omega) (fun v hv => by
              obtain ⟨i, hi1, hi2⟩ := List.getElem_of_mem hv
              have hin : i < new.length := by rw [hlen, ← hnl]; simpa using hi1
              have := hnr.2 i new[i] v (by simp [hin]) (by rw [← hi2]; simp at hi1; simp [hi1])
              rw [oneCell_rel this]
              exact List.all_eq_true.1 hone _ (by simp))
            rw [Nat.add_zero] at g1
            let l' : Loc := ⟨l.b, oo + l.sh, inf.size, (len + n) * inf.size, cap' - (len + n)⟩
            refine wpIn_value (v := .slice (some ⟨l.b, oo + l.sh, none⟩) (len + n) cap') (w' := w') hnd ?_ (hK _ w' (upd m h.n l') ?_ ?_ ?_)
            · rw [exec_append ho, hy, hsrc.place hu hs hfit]
              simp only [addr_add]
              rw [hrun]
              rfl
            · exact ⟨fun i hi => upd_ne m l' (by simp at hi; omega), fun i k h1 h2 e => by
                simp at h2
                obtain rfl : i = h.n := by omega
                rw [upd_same] at e; cases e
                exact .inr ⟨b, l, AHeap.lt hg, hWb, AHeap.live_of hg rfl, hl, rfl⟩, fun q hq hk => g2 q (fun e => hk b l (AHeap.lt hg) hWb (AHeap.live_of hg rfl) hl e.symm), by omega, g4, g5, g6⟩
            · have := VRel.slice (m := upd m h.n l') (i := h.n) (o := 0) (len := len + n) (cap := len + n) (cap' := cap') (l := l') (upd_same _ _ _) (.inr ⟨by simp [l'], by simp [l']; omega⟩)
              simpa [l'] using this
            · refine H.inPlace hfn hl hg hDb g1 ?_ g2 g3 (l' := l') rfl hs hnn ?_ ?_
              · have e9 : (setL c'.toList (oo + l.sh + len * inf.size) new'.toList).toArray.size = c'.size := by
                  have := setL_length (c := c'.toList) (vs := new'.toList) (o := oo + l.sh + len * inf.size) (by simp [hnl]; omega)
                  simpa using this
                rw [e9]; exact hfz
              · have e9 : (setL c'.toList (oo + l.sh + len * inf.size) new'.toList).toArray.size = c'.size := by
                  have := setL_length (c := c'.toList) (vs := new'.toList) (o := oo + l.sh + len * inf.size) (by simp [hnl]; omega)
                  simpa using this
                rw [e9]
                simp only [l']
                rw [Nat.add_assoc, ← Nat.add_mul, show len + n + (cap' - (len + n)) = cap' from by omega]
                exact hroom
              · intro i v hv
                have hoc : ∀ (i : Nat) v, old[i]? = some v → c[oo + i]? = some v := fun i v hv => by
                  unfold aSrc at hold
                  simp only at hold
                  split at hold
                  · cases hold; simp at hv
                  · rw [hg] at hold
                    simp only [rowOf] at hold
                    split at hold
                    · cases hold
                      rw [List.getElem?_take] at hv
                      split at hv
                      · rwa [List.getElem?_drop] at hv
                      · cases hv
                    · cases hold
                rw [List.getElem?_toArray, setL_get (by simp [hnl]; omega)]
                rw [List.getElem?_append] at hv
                simp only [l', Array.length_toList, Array.getElem?_toList]
                split at hv
                · rename_i hio
                  rw [if_neg (by omega)]
                  obtain ⟨v', a1, a2⟩ := hcv _ v (hoc i v hv)
                  exact ⟨v', by rw [← a1]; congr 1; omega, a2⟩
                · rename_i hio
                  obtain ⟨v', a1, a2⟩ := hnr.get (v := v) (i := i - old.length) (by simpa using hv)
                  have hlt : i - old.length < new'.size := (Array.getElem?_eq_some_iff.1 a1).1
                  rw [if_pos (by omega)]
                  exact ⟨v', by rw [← a1]; congr 1; omega, a2⟩
          · exact away _ _ hy (by omega)
  · cases he
end
end Go.Proofs.Ytmelgnpogdilgaa
