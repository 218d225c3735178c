/- Slices: stores, literals, make, cuts, append, copy, on related memories. No conditions. -/
import Derived.Test.YtmelgnpogdilgaaAbsE
namespace Go.Proofs.Ytmelgnpogdilgaa
set_option linter.unusedVariables false
section
variable {P : Program} {D W : Nat → Prop} {o : Oper} {tm : List Value} {h : AHeap}
/-! ### store -/
def aStore (P : Program) (h : AHeap) (t : TypeId) (v : Value) : Value → Option (AHeap × Nat)
  | .pointer (some ⟨b, o, none⟩) => match h.get b, sizeT P t with
    | some (.cells c ct), some n => if v.cells.toList.length = n ∧ o + n ≤ c.length ∧ v.cells.toList.all Value.oneCell' = true then some (h.put b (some (.cells (setL c o v.cells.toList) ct)), b) else none
    | _, _ => none
  | _ => none
theorem ARel.list {m : Mp} {a a' : Array Value} (h : ARel m a a') : ARel m a.toList.toArray a'.toList.toArray := by simpa using h
theorem OpRun.store {t : TypeId} {x y : Operand} {h' : AHeap} {b : Nat} (ho : o.op = .store t x y) (he : aStore P h t (evalT tm y) (evalT tm x) = some (h', b)) (hD : D b) (hW : W b) : OpRun P D W o tm h undef h' := by
  unfold aStore at he
  split at he
  · rename_i bb oo e1
    split at he
    · rename_i c ct n hg hn
      split at he
      · rename_i hcond
        obtain ⟨h1, h2, h3⟩ := hcond
        cases he
        refine ⟨.put h hW hg (setL_length (by omega)), fun m w A r hm hf hx H K Q hK => ?_⟩
        have ha := hx x (by simp [ho, Op.operands])
        have hv := hx y (by simp [ho, Op.operands])
        rw [e1] at ha
        generalize hy : A.eval x = z at ha
        cases ha with
        | @ptr _ _ l hl =>
          obtain ⟨w', a, b, f⟩ := HRel.storeL (P := P) (t := ct) (h := h) hD hW (AHeap.live_of hg rfl) (AHeap.lt hg) hl (evalT tm y).cells.toList (A.eval y).cells.toList w c h oo 0 H rfl hg hv.cells.list (fun v hv => List.all_eq_true.1 h3 v hv) (by omega)
          refine wpIn_skipped (by simp [ho]) ?_ (hK undef w' m ⟨f.old, f.new, f.keep, f.size, f.os, f.tape, f.output⟩ (.tuple rfl fun i v v' e => by simp at e) b)
          have e2 : (A.eval y).cells.size = n := by rw [← hv.cells.1]; simpa using h1
          simp [execOp, ho, Instr.storeAt, hy, Instr.sureAddr, storeVar, e2, run_sizeOf hn, a]
      · cases he
    · cases he
  · cases he
/-! ### rows that are written out, make -/
def zeros (z : List Value) (k : Nat) : List Value := (List.replicate k z).flatten
theorem zeros_eq (z : List Value) : ∀ k, ((Array.range (k * z.length)).map fun i => z.toArray[i % z.toArray.size]!) = (zeros z k).toArray
  | 0 => by simp [zeros]
  | k + 1 => by
    rcases Nat.eq_zero_or_pos z.length with h0 | h0
    · have : z = [] := List.eq_nil_of_length_eq_zero h0
      subst this; simp [zeros]
    · have ih := zeros_eq z k
      apply Array.toList_inj.1
      have ih' := congrArg Array.toList ih
      simp only [Array.toList_map, Array.toList_range] at ih' ⊢
      rw [Nat.succ_mul, List.range_add, List.map_append, ih']
      have e : zeros z (k + 1) = zeros z k ++ z := by
        simp [zeros, List.replicate_succ']
      rw [e]
      simp only [List.map_map]
      congr 1
      apply List.ext_getElem?
      intro i
      by_cases hi : i < z.length
      · simp [hi, Nat.mod_eq_of_lt hi]
      · rw [List.getElem?_eq_none (by simp; omega), List.getElem?_eq_none (by omega)]
theorem zeros_length (z : List Value) (k : Nat) : (zeros z k).length = k * z.length := by simp [zeros]
theorem zeros_flat (m : Mp) {z : List Value} (hz : ∀ v ∈ z, VRel m v v) (k : Nat) : ARel m (zeros z k).toArray (zeros z k).toArray := by
  refine ⟨rfl, fun i v v' e e' => ?_⟩
  rw [e] at e'; cases e'
  have hm : v ∈ zeros z k := by simpa using Array.mem_of_getElem? e
  simp only [zeros, List.mem_flatten, List.mem_replicate] at hm
  obtain ⟨l, ⟨_, rfl⟩, hv⟩ := hm
  exact hz v hv
theorem flat_cells {z : Value} (hz : flatB z = true) (m : Mp) : ∀ v ∈ z.cells.toList, VRel m v v := fun v hv => by
  rw [Array.mem_toList_iff] at hv
  have hr := (VRel.flat m hz).cells
  obtain ⟨i, hi, rfl⟩ := Array.getElem_of_mem hv
  exact hr.2 i _ _ (Array.getElem?_eq_getElem hi) (Array.getElem?_eq_getElem hi)
/-- The cells of 'n' zero elements. -/
def aZeros (P : Program) (e : TypeId) (size n : Nat) : Option (List Value) :=
  if n * size = 0 then some [] else match zeroT P e with
  | some z => if flatB z ∧ z.cells.toList.length = size then some (zeros z.cells.toList n) else none
  | none => none
theorem aZeros_rel {e : TypeId} {size n : Nat} {c : List Value} (he : aZeros P e size n = some c) (m : Mp) : ARel m c.toArray c.toArray ∧ c.length = n * size := by
  unfold aZeros at he
  split at he
  · rename_i h0; cases he; exact ⟨ARel.empty m, by simpa using h0.symm⟩
  · rename_i h0
    split at he
    · rename_i z hz
      split at he
      · rename_i hc
        cases he
        exact ⟨zeros_flat m (flat_cells hc.1 m) _, by rw [zeros_length, hc.2]⟩
      · cases he
    · cases he
/-- The model's own zero elements. -/
theorem aZeros_run {e : TypeId} {size n : Nat} {c : List Value} (he : aZeros P e size n = some c) (w : World) :
    (n * size = 0 ∧ c = []) ∨ (n * size ≠ 0 ∧ ∃ z, (zeroValue e).run P w = .ok z w ∧ (Array.range (n * size)).map (fun i => z.cells[i % z.cells.size]!) = c.toArray) := by
  unfold aZeros at he
  split at he
  · rename_i h0; cases he; exact .inl ⟨h0, rfl⟩
  · rename_i h0
    split at he
    · rename_i z hz
      split at he
      · rename_i hc
        cases he
        refine .inr ⟨h0, z, run_zero hz w, ?_⟩
        rw [← hc.2]
        exact zeros_eq z.cells.toList n
      · cases he
    · cases he
theorem map_range0 (f : Nat → Value) : Array.map f (Array.range 0) = #[] := Array.eq_empty_of_size_eq_zero (by simp)
def aMake (P : Program) (t : TypeId) : Value → Value → Option (Nat × Nat × AObj)
  | .int _ l, .int _ c => match P.underlying t with
    | some (.slice e) => match P.info? e with
      | some i => if 0 ≤ l ∧ l ≤ c ∧ c ≤ 1099511627776 ∧ (i.bytes : Int) * c ≤ 281474976710656 then
          (aZeros P e i.size c.toNat).map fun cs => (l.toNat, c.toNat, .cells cs e)
        else none
      | none => none
    | _ => none
  | _, _ => none
theorem wrap_small {n : Int} (h0 : 0 ≤ n) (h : n ≤ 1099511627776) : IntKind.i64.wrap n = n := by
  have e : n % 2 ^ 64 = n := Int.emod_eq_of_lt h0 (by omega)
  have e2 : ¬ (2 : Int) ^ 63 ≤ n := by omega
  simp [IntKind.wrap, IntKind.signed, IntKind.bits, e]
  omega
theorem OpRun.makeSlice {t : TypeId} {x y : Operand} {l c : Nat} {a : AObj} (ho : o.op = .makeSlice t x y) (he : aMake P t (evalT tm x) (evalT tm y) = some (l, c, a)) : OpRun P D W o tm h (.slice (some ⟨h.n, 0, none⟩) l c) (h.push a) :=
  .ofNew (by simp [ho]) fun m w A hm hf hx H => by
    have h1 := hx x (by simp [ho, Op.operands])
    have h2 := hx y (by simp [ho, Op.operands])
    unfold aMake at he
    split at he
    · rename_i k1 ll k2 cc e1 e2
      rw [e1] at h1; rw [e2] at h2
      have h1 := VRel.eq_of_flat h1 rfl
      have h2 := VRel.eq_of_flat h2 rfl
      split at he
      · rename_i e hu
        split at he
        · rename_i i hi
          split at he
          · rename_i hc
            obtain ⟨c1, c2, c3, c4⟩ := hc
            simp only [Option.map_eq_some_iff, Prod.mk.injEq] at he
            obtain ⟨cs, hcs, rfl, rfl, rfl⟩ := he
            obtain ⟨hr, hsz⟩ := aZeros_rel hcs m
            have hs : sizeT P e = some i.size := by simp [sizeT, hi]
            refine ⟨.slice (some ⟨w.heap.size, 0, none⟩) ll.toNat cc.toNat, .cells cs.toArray e (0, 0), locNew w i.size cs.length 0, w, rfl, rfl, rfl, rfl, rfl, ?_, H.row hf hs hr, ?_⟩
            · exact .slice (l := locNew w i.size cs.length 0) (upd_same _ _ _) (.inl rfl)
            · have w1 := wrap_small (n := ll) c1 (by omega)
              have w2 := wrap_small (n := cc) (by omega) c3
              have n1 : ¬ cc < 0 := by omega
              have n2 : ¬ ll < 0 := by omega
              have n3 : ¬ cc < ll := by omega
              have n4 : ¬ (281474976710656 : Int) < (i.bytes : Int) * cc := by omega
              simp only [execOp, ho, Instr.makeSlice, Sem.run_bind, run_under hu, h1, h2, asInt, asIntOf, typeInfo, run_program, Result.andThen_ok, hi, Sem.run_pure, w1, w2]
              rcases aZeros_run hcs w with ⟨h0, rfl⟩ | ⟨h0, z, hz1, hz2⟩
              · simp [n1, n2, n3, n4, run_sizeOf hs, h0, newRow, World.alloc_eq, map_range0]
              · simp [n1, n2, n3, n4, run_sizeOf hs, h0, hz1, hz2, newRow, World.alloc_eq]
          · cases he
        · cases he
      · cases he
    · cases he
def aBuildSlice (P : Program) (t : TypeId) (len : Nat) (ps : List (Nat × Value)) : Option AObj :=
  match P.underlying t with
  | some (.slice e) => match sizeT P e with
    | some size => if len * size ≤ 16777216 then match aZeros P e size len with
        | some z => (fillL (fun i => some (i * size, size)) z ps).map fun c => .cells c e
        | none => none
      else none
    | none => none
  | _ => none
theorem OpRun.buildSlice {t : TypeId} {len : Nat} {ps : Array (Nat × Operand)} {a : AObj} (ho : o.op = .buildSlice t len ps) (he : aBuildSlice P t len (ps.toList.map fun p => (p.1, evalT tm p.2)) = some a) : OpRun P D W o tm h (.slice (some ⟨h.n, 0, none⟩) len len) (h.push a) :=
  .ofNew (by simp [ho]) fun m w A hm hf hx H => by
    have hp := parts_rel (m := m) (A := A) (tm := tm) (ps := ps) (by simpa [ho, Op.operands] using hx)
    unfold aBuildSlice at he
    split at he
    · rename_i e hu
      split at he
      · rename_i size hs
        split at he
        · rename_i hle
          split at he
          · rename_i z hz
            simp only [Option.map_eq_some_iff] at he
            obtain ⟨c, hc, rfl⟩ := he
            obtain ⟨hzr, hzs⟩ := aZeros_rel hz m
            obtain ⟨c', e1, e2⟩ := fill_rel _ _ _ _ _ _ hp.1 hp.2 hzr hc
            have e3 : (ps.map fun x => (x.1, A.eval x.2)).toList = ps.toList.map fun p => (p.1, A.eval p.2) := by simp
            refine ⟨.slice (some ⟨w.heap.size, 0, none⟩) len len, .cells c' e (0, 0), locNew w size c.length 0, w, rfl, rfl, rfl, rfl, rfl, ?_, H.row hf hs e2, ?_⟩
            · exact .slice (l := locNew w size c.length 0) (upd_same _ _ _) (.inl rfl)
            · have hle' : ¬ len * size > 2 ^ 24 := by omega
              simp only [execOp, ho, Instr.buildSlice, Sem.run_bind, run_under hu, Result.andThen_ok, run_sizeOf hs, e3, if_neg hle', Sem.run_pure]
              rcases aZeros_run hz w with ⟨h0, rfl⟩ | ⟨h0, z', hz1, hz2⟩
              · have e4 : Instr.fill (fun i => some (i * size, size)) #[] (ps.toList.map fun p => (p.1, A.eval p.2)) = some c' := e1
                simp [h0, e4, newRow, World.alloc_eq, map_range0]
              · simp [h0, hz1, hz2, e1, newRow, World.alloc_eq]
          · cases he
        · cases he
      · cases he
    · cases he
end
end Go.Proofs.Ytmelgnpogdilgaa
