/- Maps that are written, on related memories. No conditions. -/
import Derived.Test.YtmelgnpogdilgaaAbsQ
namespace Go.Proofs.Ytmelgnpogdilgaa
set_option linter.unusedVariables false
section
variable {P : Program} {D W : Nat → Prop} {o : Oper} {tm : List Value} {h : AHeap}
theorem ERel.modify {m : Mp} {es es' : Array MapEntry} (h : ERel m es es') (j : Nat) {f f' : MapEntry → MapEntry} (hf : ∀ e e', VRel m e.key e'.key → VRel m e.val e'.val → e.born = e'.born → VRel m (f e).key (f' e').key ∧ VRel m (f e).val (f' e').val ∧ (f e).born = (f' e').born) : ERel m (es.modify j f) (es'.modify j f') := by
  refine ⟨by simp [h.1], fun i e e' a b => ?_⟩
  rw [Array.getElem?_modify] at a b
  by_cases hj : j = i
  · rw [if_pos hj] at a b
    simp only [Option.map_eq_some_iff] at a b
    obtain ⟨x, hx, rfl⟩ := a
    obtain ⟨y, hy, rfl⟩ := b
    obtain ⟨h1, h2, h3⟩ := h.2 i x y hx hy
    exact hf x y h1 h2 h3
  · rw [if_neg hj] at a b
    exact h.2 i e e' a b
theorem ERel.push {m : Mp} {es es' : Array MapEntry} (h : ERel m es es') {e e' : MapEntry} (h1 : VRel m e.key e'.key) (h2 : VRel m e.val e'.val) (h3 : e.born = e'.born) : ERel m (es.push e) (es'.push e') := by
  refine ⟨by simp [h.1], fun i x y a b => ?_⟩
  rw [Array.getElem?_push] at a b
  rw [h.1] at a
  split at a
  · rename_i hi; rw [if_pos hi] at b; cases a; cases b; exact ⟨h1, h2, h3⟩
  · rename_i hi; rw [if_neg hi] at b; exact h.2 i x y a b
theorem ERel.erase {m : Mp} {es es' : Array MapEntry} (h : ERel m es es') (j : Nat) : ERel m (es.eraseIdxIfInBounds j) (es'.eraseIdxIfInBounds j) := by
  unfold Array.eraseIdxIfInBounds
  by_cases hj : j < es.size
  · have hj' : j < es'.size := by rw [← h.1]; exact hj
    rw [dif_pos hj, dif_pos hj']
    refine ⟨by simp [h.1], fun i x y a b => ?_⟩
    rw [Array.getElem?_eraseIdx] at a b
    split at a
    · rename_i hi; rw [if_pos hi] at b; exact h.2 i x y a b
    · rename_i hi; rw [if_neg hi] at b; exact h.2 _ x y a b
  · have hj' : ¬ j < es'.size := by rw [← h.1]; exact hj
    rw [dif_neg hj, dif_neg hj']
    exact h
def keyStays (es : Array MapEntry) (j : Nat) (k : Value) : Bool := Instr.sameBits 10000 (((es[j]?).map (·.key)).getD k) k
theorem keyStays_run {es es' : Array MapEntry} {j : Nat} {k : Value} (hs : keyStays es j k = true) (hk : es'.toList.map (·.key) = es.toList.map (·.key)) (w : World) : (Instr.keyThatStays (((es'[j]?).map (·.key)).getD k) k).run P w = .ok k w := by
  have e : (es'[j]?).map (·.key) = (es[j]?).map (·.key) := by
    have := congrArg (fun l : List Value => l[j]?) hk
    simpa using this
  rw [e]
  unfold keyStays at hs
  simp [Instr.keyThatStays, hs]
def aUpdate (P : Program) (h : AHeap) (t : TypeId) (x k v : Value) : Option (AHeap × Nat) :=
  match P.underlying t, x with
  | some (.map kt _), .map (some r) => match h.get r with
    | some (.map es ck) => match keyAt P kt k es false with
      | some (some j) => if keyStays es j k then some (h.put r (some (.map (es.modify j fun e => { e with key := k, val := v }) ck)), r) else none
      | some none => some (h.put r (some (.map (es.push { key := k, val := v, born := ck }) (ck + 1))), r)
      | none => none
    | _ => none
  | _, _ => none
theorem update_run {t : TypeId} {x k v x' k' v' : Value} {h' : AHeap} {r : Nat} (he : aUpdate P h t x k v = some (h', r)) (hD : D r) (hW : W r) : AFr W h h' ∧ ∀ (m : Mp) (w : World), HRel P m D h w → VRel m x x' → VRel m k k' → VRel m v v' → ∃ w', (Instr.mapUpdate t x' k' v').run P w = .ok () w' ∧ Fr m m W h h' w w' ∧ HRel P m D h' w' := by
  unfold aUpdate at he
  split at he
  case h_2 => cases he
  rename_i kt e r' hu
  split at he
  case h_2 => cases he
  rename_i es ck hg
  split at he
  · rename_i j hk
    split at he
    case isFalse => cases he
    rename_i hs
    cases he
    refine ⟨.putOther h hW hg rfl, fun m w H hx hkr hv => ?_⟩
    cases hx with
    | @map _ l hl =>
      obtain ⟨o', a1, a2⟩ := H.obj _ _ _ hD hl hg
      cases a2 with
      | @map _ es' _ er =>
        obtain ⟨k1, kf, kfs, k3, k4, k5⟩ := keyAt_run hk hkr er w
        subst k1
        have go : (getObj l.b).run P w = .ok (.map es' ck) w := by simp [getObj, Sem.run, a1]
        refine ⟨{ w with heap := w.heap.setIfInBounds l.b (.map (es'.modify j fun e => { e with key := k', val := v' }) ck) }, ?_, Fr.putOther hW hl hg _ _, H.putOther hl hg rfl (.map (er.modify j fun e e' _ _ hb => ⟨VRel.flat m kf, hv, hb⟩))⟩
        simp only [Instr.mapUpdate, Sem.run_bind, run_under hu, Result.andThen_ok, go, k3, k4, Option.map_some, keyStays_run hs (er.keys kfs) w]
        simp [setObj, Sem.run, a1]
  · rename_i hk
    cases he
    refine ⟨.putOther h hW hg rfl, fun m w H hx hkr hv => ?_⟩
    cases hx with
    | @map _ l hl =>
      obtain ⟨o', a1, a2⟩ := H.obj _ _ _ hD hl hg
      cases a2 with
      | @map _ es' _ er =>
        obtain ⟨k1, kf, kfs, k3, k4, k5⟩ := keyAt_run hk hkr er w
        subst k1
        have go : (getObj l.b).run P w = .ok (.map es' ck) w := by simp [getObj, Sem.run, a1]
        refine ⟨{ w with heap := w.heap.setIfInBounds l.b (.map (es'.push { key := k', val := v', born := ck }) (ck + 1)) }, ?_, Fr.putOther hW hl hg _ _, H.putOther hl hg rfl (.map (er.push (VRel.flat m kf) hv rfl))⟩
        simp only [Instr.mapUpdate, Sem.run_bind, run_under hu, Result.andThen_ok, go, k3, k4, Option.map_none]
        simp [setObj, Sem.run, a1]
  · cases he
theorem OpRun.ofSkip {h' : AHeap} (hd : ∀ c, o.op ≠ .defer c) (hfr : AFr W h h') (hf : h'.n = h.n)
    (hr : ∀ (m : Mp) (w : World) (A : Act), MOk P m → (∀ x ∈ o.op.operands, VRel m (evalT tm x) (A.eval x)) → HRel P m D h w → ∃ w', (execOp A.eval o).run P w = .ok .skip w' ∧ Fr m m W h h' w w' ∧ HRel P m D h' w') : OpRun P D W o tm h undef h' :=
  ⟨hfr, fun m w A r hm hfr' hx H K Q hK => let ⟨w', a, b, c⟩ := hr m w A hm hx H; wpIn_skipped hd a (hK undef w' m b (.tuple rfl fun i v v' e => by simp at e) c)⟩
theorem aUpdate_n {t : TypeId} {x k v : Value} {h' : AHeap} {r : Nat} (he : aUpdate P h t x k v = some (h', r)) : h'.n = h.n := by
  unfold aUpdate at he
  split at he
  · split at he
    · split at he
      · split at he
        · cases he; rfl
        · cases he
      · cases he; rfl
      · cases he
    · cases he
  · cases he
theorem OpRun.mapUpdate {t : TypeId} {x y z : Operand} {h' : AHeap} {r : Nat} (ho : o.op = .mapUpdate t x y z ∨ o.op = .insert t x y z) (he : aUpdate P h t (evalT tm x) (evalT tm y) (evalT tm z) = some (h', r)) (hD : D r) (hW : W r) : OpRun P D W o tm h undef h' := by
  refine .ofSkip (by rcases ho with ho | ho <;> simp [ho]) (update_run (x' := undef) (k' := undef) (v' := undef) he hD hW).1 (aUpdate_n he) fun m w A hm hx H => ?_
  have hx' : VRel m (evalT tm x) (A.eval x) ∧ VRel m (evalT tm y) (A.eval y) ∧ VRel m (evalT tm z) (A.eval z) := by
    rcases ho with ho | ho <;> exact ⟨hx x (by simp [ho, Op.operands]), hx y (by simp [ho, Op.operands]), hx z (by simp [ho, Op.operands])⟩
  obtain ⟨w', a, b, c⟩ := (update_run he hD hW).2 m w H hx'.1 hx'.2.1 hx'.2.2
  refine ⟨w', ?_, b, c⟩
  rcases ho with ho | ho <;> simp [execOp, ho, a]
def aEntry (P : Program) (h : AHeap) (t : TypeId) (x k : Value) : Option (Value × AHeap × Nat) :=
  match P.underlying t, x with
  | some (.map kt e), .map (some r) => match h.get r, zeroT P e with
    | some (.map es ck), some z => if flatB z then match keyAt P kt k es false with
        | some (some j) => if keyStays es j k then some (.tuple #[valAt es.toList j, .int .i64 (((es[j]?).map (·.born)).getD 0 : Nat)], h.put r (some (.map (es.modify j fun e => { e with key := k }) ck)), r) else none
        | some none => some (.tuple #[z, .int .i64 ck], h.put r (some (.map (es.push { key := k, val := z, born := ck }) (ck + 1))), r)
        | none => none
      else none
    | _, _ => none
  | _, _ => none
theorem ERel.born {m : Mp} {es es' : Array MapEntry} (h : ERel m es es') (j : Nat) : ((es'[j]?).map (·.born)).getD 0 = ((es[j]?).map (·.born)).getD 0 := by
  by_cases hi : j < es.size
  · have hi' : j < es'.size := by rw [← h.1]; exact hi
    rw [Array.getElem?_eq_getElem hi, Array.getElem?_eq_getElem hi']
    exact (h.2 j es[j] es'[j] (by simp [hi]) (by simp [hi'])).2.2.symm
  · have hi' : ¬ j < es'.size := by rw [← h.1]; exact hi
    rw [Array.getElem?_eq_none (by omega), Array.getElem?_eq_none (by omega)]
theorem OpRun.ofSame {v : Value} {h' : AHeap} (hd : ∀ c, o.op ≠ .defer c) (hfr : AFr W h h')
    (hr : ∀ (m : Mp) (w : World) (A : Act), MOk P m → (∀ x ∈ o.op.operands, VRel m (evalT tm x) (A.eval x)) → HRel P m D h w → ∃ v' w', (execOp A.eval o).run P w = .ok (.value v') w' ∧ VRel m v v' ∧ Fr m m W h h' w w' ∧ HRel P m D h' w') : OpRun P D W o tm h v h' :=
  ⟨hfr, fun m w A r hm hfr' hx H K Q hK => let ⟨v', w', a, hv, b, c⟩ := hr m w A hm hx H; wpIn_value hd a (hK v' w' m b hv c)⟩
theorem OpRun.mapEntry {t : TypeId} {x y : Operand} {v : Value} {h' : AHeap} {r : Nat} (ho : o.op = .mapEntry t x y) (he : aEntry P h t (evalT tm x) (evalT tm y) = some (v, h', r)) (hD : D r) (hW : W r) : OpRun P D W o tm h v h' := by
  have hnd : ∀ c, o.op ≠ .defer c := by simp [ho]
  unfold aEntry at he
  split at he
  case h_2 => cases he
  rename_i kt e r' hu e1
  split at he
  case h_2 => cases he
  rename_i es ck z hg hz
  split at he
  case isFalse => cases he
  rename_i hzf
  split at he
  · rename_i j hk
    split at he
    case isFalse => cases he
    rename_i hs
    cases he
    refine .ofSame hnd (.putOther h hW hg rfl) fun m w A hm hxs H => ?_
    have hx := hxs x (by simp [ho, Op.operands])
    have hkr := hxs y (by simp [ho, Op.operands])
    rw [e1] at hx
    generalize hy : A.eval x = x' at hx
    cases hx with
    | @map _ l hl =>
      obtain ⟨o', a1, a2⟩ := H.obj _ _ _ hD hl hg
      cases a2 with
      | @map _ es' _ er =>
        obtain ⟨k1, kf, kfs, k3, k4, k5⟩ := keyAt_run hk hkr er w
        have go : (getObj l.b).run P w = .ok (.map es' ck) w := by simp [getObj, Sem.run, a1]
        refine ⟨.tuple #[valAt es'.toList j, .int .i64 (((es'[j]?).map (·.born)).getD 0 : Nat)], { w with heap := w.heap.setIfInBounds l.b (.map (es'.modify j fun e => { e with key := evalT tm y }) ck) }, ?_, (er.val (k5 j rfl)).pair (by rw [er.born]; exact .int _ _), Fr.putOther hW hl hg _ _, H.putOther hl hg rfl (.map (er.modify j fun e e' _ hv hb => ⟨VRel.flat m kf, hv, hb⟩))⟩
        simp only [execOp, ho, Instr.mapEntry, Sem.run_bind, run_under hu, Result.andThen_ok, hy, go, k1, k3, k4, Option.map_some, keyStays_run hs (er.keys kfs) w]
        simp [setObj, Sem.run, a1, goInt]
        cases es'[j]? <;> rfl
  · rename_i hk
    cases he
    refine .ofSame hnd (.putOther h hW hg rfl) fun m w A hm hxs H => ?_
    have hx := hxs x (by simp [ho, Op.operands])
    have hkr := hxs y (by simp [ho, Op.operands])
    rw [e1] at hx
    generalize hy : A.eval x = x' at hx
    cases hx with
    | @map _ l hl =>
      obtain ⟨o', a1, a2⟩ := H.obj _ _ _ hD hl hg
      cases a2 with
      | @map _ es' _ er =>
        obtain ⟨k1, kf, kfs, k3, k4, k5⟩ := keyAt_run hk hkr er w
        have go : (getObj l.b).run P w = .ok (.map es' ck) w := by simp [getObj, Sem.run, a1]
        refine ⟨.tuple #[z, .int .i64 ck], { w with heap := w.heap.setIfInBounds l.b (.map (es'.push { key := evalT tm y, val := z, born := ck }) (ck + 1)) }, ?_, (VRel.flat m hzf).pair (.int _ _), Fr.putOther hW hl hg _ _, H.putOther hl hg rfl (.map (er.push (VRel.flat m kf) (VRel.flat m hzf) rfl))⟩
        simp only [execOp, ho, Instr.mapEntry, Sem.run_bind, run_under hu, Result.andThen_ok, hy, go, k1, k3, k4, Option.map_none, run_zero hz]
        simp [setObj, Sem.run, a1, goInt]
  · cases he
def aEntryStore (h : AHeap) (x s v : Value) : Option (AHeap × Nat) :=
  match x, s with
  | .map (some r), .int _ b => match h.get r with
    | some (.map es ck) => match es.findIdx? (fun e => (e.born : Int) == b) with
      | some i => some (h.put r (some (.map (es.modify i fun e => { e with val := v }) ck)), r)
      | none => none
    | _ => none
  | _, _ => none
theorem ERel.findBorn {m : Mp} {es es' : Array MapEntry} (h : ERel m es es') (b : Int) : es'.findIdx? (fun e => (e.born : Int) == b) = es.findIdx? (fun e => (e.born : Int) == b) := by
  have hb : es'.toList.map (·.born) = es.toList.map (·.born) := by
    apply List.ext_getElem?
    intro i
    simp only [List.getElem?_map, Array.getElem?_toList]
    by_cases hi : i < es.size
    · have hi' : i < es'.size := by rw [← h.1]; exact hi
      rw [Array.getElem?_eq_getElem hi, Array.getElem?_eq_getElem hi']
      have := (h.2 i es[i] es'[i] (by simp [hi]) (by simp [hi'])).2.2
      simp [this]
    · have hi' : ¬ i < es'.size := by rw [← h.1]; exact hi
      rw [Array.getElem?_eq_none (by omega), Array.getElem?_eq_none (by omega)]
  have key : ∀ l : List MapEntry, l.findIdx? (fun e => (e.born : Int) == b) = (l.map (fun e => e.born)).findIdx? (fun n : Nat => (n : Int) == b) := by
    intro l
    rw [List.findIdx?_map]
    rfl
  have tol : ∀ a : Array MapEntry, a.findIdx? (fun e => (e.born : Int) == b) = a.toList.findIdx? (fun e => (e.born : Int) == b) := fun a => by cases a; simp
  rw [tol, tol, key, key, hb]
theorem OpRun.entryStore {t : TypeId} {x y z : Operand} {h' : AHeap} {r : Nat} (ho : o.op = .entryStore t x y z) (he : aEntryStore h (evalT tm x) (evalT tm y) (evalT tm z) = some (h', r)) (hD : D r) (hW : W r) : OpRun P D W o tm h undef h' := by
  have hnd : ∀ c, o.op ≠ .defer c := by simp [ho]
  unfold aEntryStore at he
  split at he
  case h_2 => cases he
  rename_i r' kk b e1 e2
  split at he
  case h_2 => cases he
  rename_i es ck hg
  split at he
  case h_2 => cases he
  rename_i i hi
  cases he
  refine .ofSkip hnd (.putOther h hW hg rfl) rfl fun m w A hm hxs H => ?_
  have hx := hxs x (by simp [ho, Op.operands])
  have hs := hxs y (by simp [ho, Op.operands])
  have hv := hxs z (by simp [ho, Op.operands])
  rw [e1] at hx
  rw [e2] at hs
  have hs := VRel.eq_of_flat hs rfl
  generalize hy : A.eval x = x' at hx
  cases hx with
  | @map _ l hl =>
    obtain ⟨o', a1, a2⟩ := H.obj _ _ _ hD hl hg
    cases a2 with
    | @map _ es' _ er =>
      have go : (getObj l.b).run P w = .ok (.map es' ck) w := by simp [getObj, Sem.run, a1]
      refine ⟨{ w with heap := w.heap.setIfInBounds l.b (.map (es'.modify i fun e => { e with val := A.eval z }) ck) }, ?_, Fr.putOther hW hl hg _ _, H.putOther hl hg rfl (.map (er.modify i fun e e' hk _ hb => ⟨hk, hv, hb⟩))⟩
      rw [← er.findBorn] at hi
      simp only [execOp, ho, Instr.entryStore, Sem.run_bind, hy, go, Result.andThen_ok, hs, asInt, asIntOf, Sem.run_pure, hi]
      simp [setObj, Sem.run, a1]
def aDelete (P : Program) (h : AHeap) (t : TypeId) (x k : Value) : Option (AHeap × List Nat) :=
  match P.underlying t, x with
  | some (.map kt _), .map (some r) => match h.get r with
    | some (.map es ck) => match keyAt P kt k es es.isEmpty with
      | some (some j) => some (h.put r (some (.map (es.eraseIdxIfInBounds j) ck)), [r])
      | some none => some (h.put r (some (.map es ck)), [r])
      | none => none
    | _ => none
  | _, _ => none
def eraseO (es : Array MapEntry) : Option Nat → Array MapEntry
  | some j => es.eraseIdxIfInBounds j
  | none => es
theorem OpRun.delete {t t₂ : TypeId} {x y : Operand} {h' : AHeap} {rd : List Nat} (ho : o.op = .call { callee := .builtin .delete, args := #[x, y], argTypes := #[t, t₂] }) (he : aDelete P h t (evalT tm x) (evalT tm y) = some (h', rd)) (hD : ∀ i ∈ rd, D i) (hW : ∀ i ∈ rd, W i) : OpRun P D W o tm h undef h' := by
  have hnd : ∀ c, o.op ≠ .defer c := by simp [ho]
  unfold aDelete at he
  split at he
  case h_2 => cases he
  rename_i kt e r hu e1
  split at he
  case h_2 => cases he
  rename_i es ck hg
  have main : ∀ (jj : Option Nat) (es2 : Array MapEntry), keyAt P kt (evalT tm y) es es.isEmpty = some jj → es2 = eraseO es jj → h' = h.put r (some (.map es2 ck)) → rd = [r] → OpRun P D W o tm h undef h' := fun jj es2 hk h2 h3 h4 => by
    subst h3 h4
    refine .ofSame (v := undef) hnd (.putOther h (hW r (by simp)) hg rfl) fun m w A hm hxs H => ?_
    have hx := hxs x (by simp [ho, Op.operands, Call.operands])
    have hkr := hxs y (by simp [ho, Op.operands, Call.operands])
    rw [e1] at hx
    generalize hy : A.eval x = x' at hx
    cases hx with
    | @map _ l hl =>
      obtain ⟨o', a1, a2⟩ := H.obj _ _ _ (hD r (by simp)) hl hg
      cases a2 with
      | @map _ es' _ er =>
        obtain ⟨k1, kf, kfs, k3, k4, k5⟩ := keyAt_run hk hkr er w
        have k3' : (Instr.checkKey es'.isEmpty 10000 kt (evalT tm y)).run P w = .ok () w := by
          have : es'.isEmpty = es.isEmpty := by simp [Array.isEmpty, er.1]
          rw [this]; exact k3
        have go : (getObj l.b).run P w = .ok (.map es' ck) w := by simp [getObj, Sem.run, a1]
        have er2 : ERel m es2 (eraseO es' jj) := by
          subst h2
          cases jj with
          | none => exact er
          | some j => exact er.erase j
        refine ⟨.tuple #[], { w with heap := w.heap.setIfInBounds l.b (.map (eraseO es' jj) ck) }, ?_, .tuple rfl (fun i v v' e => by simp at e), Fr.putOther (hW r (by simp)) hl hg _ _, H.putOther hl hg rfl (.map er2)⟩
        rw [exec_builtin ho]
        cases jj with
        | none =>
          simp only [Option.map_none] at k4
          simp [builtin, Builtin.delete_, run_under hu, hy, go, k1, k3', k4, setObj, Sem.run, a1, eraseO]
        | some j =>
          simp only [Option.map_some] at k4
          simp [builtin, Builtin.delete_, run_under hu, hy, go, k1, k3', k4, setObj, Sem.run, a1, eraseO]
  split at he
  · rename_i j hk; cases he; exact main _ _ hk rfl rfl rfl
  · rename_i hk; cases he; exact main _ _ hk rfl rfl rfl
  · cases he
end
end Go.Proofs.Ytmelgnpogdilgaa
