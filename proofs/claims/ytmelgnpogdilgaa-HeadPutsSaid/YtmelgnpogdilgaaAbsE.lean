/- Operations that make memory or write it, on related memories. No conditions. -/
import Derived.Test.YtmelgnpogdilgaaAbsD
namespace Go.Proofs.Ytmelgnpogdilgaa
set_option linter.unusedVariables false
section
variable {P : Program} {D W : Nat → Prop} {o : Oper} {tm : List Value} {h : AHeap}
/-- A new row of cells, all told. -/
def locNew (w : World) (sz A slk : Nat) : Loc := ⟨w.heap.size, 0, sz, A, slk⟩
theorem HRel.row {m : Mp} {w : World} (H : HRel P m D h w) (hf : m h.n = none) {c : List Value} {c' : Array Value} {t : TypeId} {sz : Nat} (ht : sizeT P t = some sz) (hc : ARel m c.toArray c') :
    HRel P (upd m h.n (locNew w sz c.length 0)) D (h.push (.cells c t)) (w.alloc (.cells c' t (0, 0))) := by
  refine H.alloc hf rfl (fun d u e => by cases e; exact ⟨ht, rfl⟩) (.cells ⟨rfl, ?_⟩ (.inl rfl) fun i v e => ?_)
  · have := hc.1; simp at this; simp [locNew, this]
  · obtain ⟨v', a, b⟩ := hc.get (v := v) (by simpa using e)
    exact ⟨v', by simpa [locNew] using a, b.mono (upd_le hf)⟩
theorem OpRun.ofNew {v : Value} {a : AObj} (hd : ∀ c, o.op ≠ .defer c)
    (hr : ∀ (m : Mp) (w : World) (A : Act), MOk P m → m h.n = none → (∀ x ∈ o.op.operands, VRel m (evalT tm x) (A.eval x)) → HRel P m D h w →
      ∃ (v' : Value) (o' : Obj) (l : Loc) (w₀ : World), w₀.heap = w.heap ∧ w₀.os = w.os ∧ w₀.tape = w.tape ∧ w₀.output = w.output ∧ l.b = w.heap.size ∧ VRel (upd m h.n l) v v' ∧ HRel P (upd m h.n l) D (h.push a) (w₀.alloc o') ∧ (execOp A.eval o).run P w = .ok (.value v') (w₀.alloc o')) : OpRun P D W o tm h v (h.push a) :=
  ⟨.push _ _ _, fun m w A r hm hf hx H K Q hK => by
    obtain ⟨v', o', l, w₀, e1, e2, e3, e4, hl, hv, H', hrun⟩ := hr m w A hm (hf h.n (Nat.le_refl _) (by simp)) hx H
    refine wpIn_value hd hrun (hK v' _ _ ?_ hv H')
    have f := Fr.alloc m W h a w₀ o' l (by rw [e1]; exact hl)
    exact ⟨f.old, fun i k h1 h2 h3 => by have := f.new i k h1 h2 h3; rwa [e1] at this, fun b hb hk => by rw [f.keep b (by rw [e1]; exact hb) hk, e1], by have := f.size; rwa [e1] at this, f.os.trans e2, f.tape.trans e3, f.output.trans e4⟩⟩
def zeroT (P : Program) (t : TypeId) : Option Value := (P.info? t).bind (·.zero)
theorem run_zero {t : TypeId} {z : Value} (hz : zeroT P t = some z) (w : World) : (zeroValue t).run P w = .ok z w := by
  unfold zeroT at hz
  cases hi : P.info? t with
  | none => rw [hi] at hz; cases hz
  | some i => rw [hi] at hz; simp at hz; simp [zeroValue, typeInfo, hi, hz]
theorem sizeT_some {t : TypeId} {z : Value} (hz : zeroT P t = some z) : ∃ n, sizeT P t = some n := by
  unfold zeroT at hz
  unfold sizeT
  cases hi : P.info? t with
  | none => rw [hi] at hz; cases hz
  | some i => exact ⟨i.size, rfl⟩
/-! ### alloc, box -/
def aAlloc (P : Program) (t : TypeId) : Option AObj := match zeroT P t with
  | some z => if flatB z then some (.cells z.cells.toList t) else none
  | none => none
theorem OpRun.alloc {t : TypeId} {a : AObj} (ho : o.op = .alloc t) (he : aAlloc P t = some a) : OpRun P D W o tm h (.pointer (some ⟨h.n, 0, none⟩)) (h.push a) :=
  .ofNew (by simp [ho]) fun m w A hm hf hx H => by
    unfold aAlloc at he
    split at he
    · rename_i z hz
      split at he
      · rename_i hz0
        cases he
        obtain ⟨n, hn⟩ := sizeT_some hz
        refine ⟨.pointer (some ⟨w.heap.size, 0, none⟩), .cells z.cells t (0, 0), locNew w n z.cells.toList.length 0, w, rfl, rfl, rfl, rfl, rfl, ?_, H.row hf hn (by simpa using (VRel.flat m hz0).cells), ?_⟩
        · exact .ptr (l := locNew w n z.cells.toList.length 0) (upd_same _ _ _)
        · simp [execOp, ho, Instr.alloc, run_zero hz, newVar, newRow, World.alloc_eq]
      · cases he
    · cases he
theorem OpRun.box {t : TypeId} {x : Operand} {n : Nat} (ho : o.op = .box t x) (hn : sizeT P t = some n) : OpRun P D W o tm h (.pointer (some ⟨h.n, 0, none⟩)) (h.push (.cells (evalT tm x).cells.toList t)) :=
  .ofNew (by simp [ho]) fun m w A hm hf hx H => by
    refine ⟨.pointer (some ⟨w.heap.size, 0, none⟩), .cells (A.eval x).cells t (0, 0), locNew w n (evalT tm x).cells.toList.length 0, w, rfl, rfl, rfl, rfl, rfl, ?_, H.row hf hn (by simpa using (hx x (by simp [ho, Op.operands])).cells), ?_⟩
    · exact .ptr (l := locNew w n (evalT tm x).cells.toList.length 0) (upd_same _ _ _)
    · simp [execOp, ho, Instr.box, newVar, newRow, World.alloc_eq]
/-! ### build -/
/-- Parts laid into cells. -/
def fillL (place : Nat → Option (Nat × Nat)) : List Value → List (Nat × Value) → Option (List Value)
  | c, [] => some c
  | c, (i, v) :: rest => match place i with
    | none => none
    | some (off, size) => if v.cells.toList.length = size ∧ off + size ≤ c.length then fillL place (setL c off v.cells.toList) rest else none
theorem foldSet (off : Nat) : ∀ (l : List Value) (k : Nat) (d : Array Value), off + k + l.length ≤ d.size → (l.zipIdx k).foldl (fun cs (x : Value × Nat) => cs.setIfInBounds (off + x.2) x.1) d = (setL d.toList (off + k) l).toArray
  | [], k, d, _ => by simp [setL]
  | v :: l, k, d, h => by
    simp only [List.length_cons] at h
    simp only [List.zipIdx_cons, List.foldl_cons]
    rw [foldSet off l (k + 1) _ (by simp; omega), show off + (k + 1) = off + k + 1 from by omega]
    rw [Array.toList_setIfInBounds, setL_cons (by simp; omega)]
theorem ARel.setL {m : Mp} {c : List Value} {c' : Array Value} {vs vs' : List Value} {o : Nat} (hc : ARel m c.toArray c') (hv : ARel m vs.toArray vs'.toArray) : ARel m (setL c o vs).toArray (setL c'.toList o vs').toArray := by
  have hl : vs.length = vs'.length := by simpa using hv.1
  have e1 : (Go.Proofs.Ytmelgnpogdilgaa.setL c o vs).toArray = c.toArray.extract 0 o ++ vs.toArray ++ c.toArray.extract (o + vs.length) c.toArray.size := by
    simp [Go.Proofs.Ytmelgnpogdilgaa.setL]
    exact (List.take_of_length_le (by simp)).symm
  have e2 : (Go.Proofs.Ytmelgnpogdilgaa.setL c'.toList o vs').toArray = c'.extract 0 o ++ vs'.toArray ++ c'.extract (o + vs.length) c.toArray.size := by
    have : c.toArray.size = c'.size := hc.1
    rw [this, hl]
    apply Array.toList_inj.1
    simp [Go.Proofs.Ytmelgnpogdilgaa.setL, List.extract]
    exact (List.take_of_length_le (by simp)).symm
  rw [e1, e2]
  exact ((hc.extract 0 o).append hv).append (hc.extract _ _)
theorem fill_rel {m : Mp} (place : Nat → Option (Nat × Nat)) : ∀ (ps ps' : List (Nat × Value)) (c : List Value) (c' : Array Value) (r : List Value), ps.length = ps'.length → (∀ (i : Nat) p p', ps[i]? = some p → ps'[i]? = some p' → p.1 = p'.1 ∧ VRel m p.2 p'.2) → ARel m c.toArray c' → fillL place c ps = some r → ∃ r', Instr.fill place c' ps' = some r' ∧ ARel m r.toArray r'
  | [], ps', c, c', r, hl, hp, hc, he => by
    obtain rfl : ps' = [] := List.eq_nil_of_length_eq_zero (by simpa using hl.symm)
    simp [fillL] at he; subst he
    exact ⟨c', by simp [Instr.fill], hc⟩
  | (i, v) :: ps, ps', c, c', r, hl, hp, hc, he => by
    obtain ⟨⟨i', v'⟩, ps', rfl⟩ : ∃ p q, ps' = p :: q := by
      cases ps' with
      | nil => simp at hl
      | cons a b => exact ⟨a, b, rfl⟩
    obtain ⟨e1, e2⟩ := hp 0 (i, v) (i', v') rfl rfl
    have e1 : i = i' := e1
    have e2 : VRel m v v' := e2
    subst e1
    have hvc := e2.cells
    unfold fillL at he
    unfold Instr.fill
    cases hpl : place i with
    | none => rw [hpl] at he; cases he
    | some q =>
      obtain ⟨off, size⟩ := q
      rw [hpl] at he
      simp only at he ⊢
      split at he
      · rename_i hcond
        obtain ⟨h1, h2⟩ := hcond
        have hs : v'.cells.size = size := by rw [← hvc.1]; simpa using h1
        have hc1 : c.length = c'.size := by simpa using hc.1
        rw [if_neg (by simp [hs]; omega)]
        refine fill_rel place ps ps' _ _ r (by simpa using hl) (fun j p p' a b => hp (j + 1) p p' (by simpa using a) (by simpa using b)) ?_ he
        rw [← Array.foldl_toList, Array.toList_zipIdx, foldSet off _ 0 _ (by simp [hs]; omega)]
        exact ARel.setL hc (by simpa using hvc)
      · cases he
def placesOf (P : Program) (fs : Array Field) : Option (List (Nat × Nat)) := fs.toList.mapM fun f => (sizeT P f.type).map fun n => (f.offset, n)
theorem run_places {w : World} : ∀ (l : List Field) (r : List (Nat × Nat)), l.mapM (fun f => (sizeT P f.type).map fun n => (f.offset, n)) = some r → (l.mapM (fun f => do pure (f.offset, ← sizeOf f.type)) : Sem _).run P w = .ok r w
  | [], r, h => by simp at h; subst h; simp
  | f :: l, r, h => by
    simp only [List.mapM_cons, Option.bind_eq_bind, Option.bind_eq_some_iff, Option.map_eq_some_iff, Option.pure_def, Option.some.injEq] at h
    obtain ⟨p, ⟨n, hn, rfl⟩, q, hq, rfl⟩ := h
    have := run_places (w := w) l q hq
    simp only [List.mapM_cons, Sem.run_bind, run_sizeOf hn, Result.andThen_ok, Sem.run_pure, this]
def aBuild (P : Program) (t : TypeId) (ps : List (Nat × Value)) : Option Value :=
  match zeroT P t with
  | some z => if flatB z then
      match P.underlying t with
      | some (.struct fs) => match placesOf P fs with
        | some pl => (fillL (fun i => pl[i]?) z.cells.toList ps).map fun c => .agg c.toArray
        | none => none
      | some (.array _ e) => match sizeT P e with
        | some size => (fillL (fun i => some (i * size, size)) z.cells.toList ps).map fun c => .agg c.toArray
        | none => none
      | _ => none
    else none
  | none => none
theorem parts_rel {m : Mp} {A : Act} {ps : Array (Nat × Operand)} (hx : ∀ x ∈ (ps.toList.map (·.2)).toArray, VRel m (evalT tm x) (A.eval x)) :
    (ps.toList.map fun p => (p.1, evalT tm p.2)).length = (ps.toList.map fun p => (p.1, A.eval p.2)).length ∧ ∀ (i : Nat) p p', (ps.toList.map fun p => (p.1, evalT tm p.2))[i]? = some p → (ps.toList.map fun p => (p.1, A.eval p.2))[i]? = some p' → p.1 = p'.1 ∧ VRel m p.2 p'.2 := by
  refine ⟨by simp, fun i p p' e e' => ?_⟩
  simp only [List.getElem?_map, Option.map_eq_some_iff] at e e'
  obtain ⟨q, hq, rfl⟩ := e
  obtain ⟨q', hq', rfl⟩ := e'
  rw [hq] at hq'; cases hq'
  refine ⟨rfl, hx q.2 ?_⟩
  simp only [List.mem_toArray, List.mem_map]
  exact ⟨q, List.mem_of_getElem? hq, rfl⟩
theorem OpRun.build {t : TypeId} {ps : Array (Nat × Operand)} {v : Value} (ho : o.op = .build t ps) (he : aBuild P t (ps.toList.map fun p => (p.1, evalT tm p.2)) = some v) : OpRun P D W o tm h v h :=
  .ofPure (by simp [ho]) fun m w A hm hx H => by
    have hp := parts_rel (m := m) (A := A) (tm := tm) (ps := ps) (by simpa [ho, Op.operands] using hx)
    unfold aBuild at he
    split at he
    · rename_i z hz
      split at he
      · rename_i hz0
        have hzc : ARel m z.cells.toList.toArray z.cells := by simpa using (VRel.flat m hz0).cells
        split at he
        · rename_i fs hu
          split at he
          · rename_i pl hpl
            simp only [Option.map_eq_some_iff] at he
            obtain ⟨r, hr, rfl⟩ := he
            obtain ⟨r', e1, e2⟩ := fill_rel _ _ _ _ _ _ hp.1 hp.2 hzc hr
            refine ⟨.agg r', .agg e2.1 e2.2, ?_⟩
            have e3 : (ps.map fun x => (x.1, A.eval x.2)).toList = ps.toList.map fun p => (p.1, A.eval p.2) := by simp
            have e4 : (fs.mapM (fun f => do pure (f.offset, ← sizeOf f.type)) : Sem _).run P w = .ok pl.toArray w := by
              rw [Array.mapM_eq_mapM_toList]
              rw [Sem.run_map, run_places _ _ hpl]; rfl
            simp only [execOp, ho, Instr.build, Sem.run_bind, run_zero hz, Result.andThen_ok, run_under hu, e4, e3]
            have e5 : (fun (i : Nat) => pl.toArray[i]?) = fun (i : Nat) => pl[i]? := by funext i; simp
            simp [e5, e1]
          · cases he
        · rename_i nn e hu
          split at he
          · rename_i size hs
            simp only [Option.map_eq_some_iff] at he
            obtain ⟨r, hr, rfl⟩ := he
            obtain ⟨r', e1, e2⟩ := fill_rel _ _ _ _ _ _ hp.1 hp.2 hzc hr
            refine ⟨.agg r', .agg e2.1 e2.2, ?_⟩
            have e3 : (ps.map fun x => (x.1, A.eval x.2)).toList = ps.toList.map fun p => (p.1, A.eval p.2) := by simp
            simp only [execOp, ho, Instr.build, Sem.run_bind, run_zero hz, Result.andThen_ok, run_under hu, run_sizeOf hs, e3]
            simp [e1]
          · cases he
        · cases he
      · cases he
    · cases he
end
end Go.Proofs.Ytmelgnpogdilgaa
