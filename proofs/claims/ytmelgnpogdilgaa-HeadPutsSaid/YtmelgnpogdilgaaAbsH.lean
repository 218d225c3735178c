/- append and copy, on related memories. No conditions. -/
import Derived.Test.YtmelgnpogdilgaaAbsG
namespace Go.Proofs.Ytmelgnpogdilgaa
set_option linter.unusedVariables false
section
variable {P : Program} {D W : Nat → Prop} {o : Oper} {tm : List Value} {h : AHeap}
/-- The cells of the first 'n' elements. -/
def aSrc (h : AHeap) (size n : Nat) : Value → Option (List Value × List Nat)
  | .slice (some ⟨b, o, none⟩) len _ => if n * size = 0 then some ([], []) else match rowOf (h.get b) with
    | some c => if n ≤ len ∧ o + n * size ≤ c.length then some ((c.drop o).take (n * size), [b]) else none
    | _ => none
  | .slice none _ _ => some ([], [])
  | .string s => some (((s.data.toList.take n).map fun b => .int .u8 b.toNat), [])
  | _ => none
theorem aSrc_run {size n : Nat} {x : Value} {cs : List Value} {rd : List Nat} (he : aSrc h size n x = some (cs, rd)) (hD : ∀ i ∈ rd, D i) {m : Mp} {w : World} (H : HRel P m D h w) {x' : Value} (ha : VRel m x x') :
    ∃ cs', (Builtin.firstCells size n x').run P w = .ok cs' w ∧ ARel m cs.toArray cs' := by
  unfold aSrc at he
  split at he
  · rename_i b o len cap
    split at he
    · rename_i h0
      cases he
      cases ha with
      | slice hk hc => exact ⟨#[], by simp [Builtin.firstCells, h0, loadCells, loadCellsFrom], ARel.empty m⟩
      | slice0 _ _ a => exact ⟨#[], by simp [Builtin.firstCells, h0, loadCells, loadCellsFrom], ARel.empty m⟩
    · rename_i h0
      split at he
      · rename_i c hg
        split at he
        · rename_i hle
          cases he
          cases ha with
          | @slice _ _ _ _ _ l hk hc =>
            obtain ⟨cs', a, b⟩ := H.rloadCells (hD _ (by simp)) hk hg hle.2
            exact ⟨cs', by simp [Builtin.firstCells, a], b⟩
          | slice0 _ _ a =>
            obtain rfl : n = 0 := by omega
            simp at h0
        · cases he
      · cases he
  · cases he
    cases ha with
    | snil => exact ⟨#[], by simp [Builtin.firstCells], ARel.empty m⟩
  · rename_i s
    cases he
    have := VRel.eq_of_flat ha rfl
    subst this
    refine ⟨(s.extract 0 n).data.map fun b => Value.int .u8 b.toNat, by simp only [Builtin.firstCells, Sem.run_pure], ?_⟩
    have e : ((s.extract 0 n).data.map fun b => Value.int .u8 b.toNat) = ((s.data.toList.take n).map fun b => Value.int .u8 b.toNat).toArray := by
      rw [ByteArray.data_extract]
      apply Array.toList_inj.1
      simp [List.extract]
    rw [e]
    exact ⟨rfl, fun i v v' a b => by
      rw [a] at b; cases b
      simp only [List.getElem?_toArray, List.getElem?_map, Option.map_eq_some_iff] at a
      obtain ⟨u, _, rfl⟩ := a
      exact .int _ _⟩
  · cases he
/-- What is appended, as the model has it. -/
inductive AppSrc (P : Program) (e : TypeId) (size : Nat) : TypeId → Value → Nat → Array Value → World → Prop
  | cells {t : TypeId} {d : TypeDesc} {x : Value} {n : Nat} {new : Array Value} {w : World} (hu : P.underlying t = some d) (hd : d = .string ∨ ∃ e, d = .slice e) (hl : (Builtin.lenOf x).run P w = .ok n w) (hc : (Builtin.firstCells size n x).run P w = .ok new w) : AppSrc P e size t x n new w
  | zeros {t : TypeId} {k kk : IntKind} {i : Int} {new : List Value} {w : World} {inf : TypeInfo} (hu : P.underlying t = some (.int k)) (h0 : 0 ≤ i) (h1 : i ≤ 1099511627776) (hi : P.info? e = some inf) (hb : i * inf.bytes ≤ 281474976710656) (hz : aZeros P e size i.toNat = some new) : AppSrc P e size t (.int kk i) i.toNat new.toArray w
set_option maxHeartbeats 1000000 in
theorem AppSrc.place {t₁ t₂ ty e : TypeId} {size n len cap : Nat} {x : Value} {new : Array Value} {w : World} {base : Option Addr} (hu : P.underlying t₁ = some (.slice e)) (hs : sizeT P e = some size) (hx : AppSrc P e size t₂ x n new w) (hle : len + n ≤ cap) :
    (Builtin.append_ #[t₁, t₂] ty #[.slice base len cap, x]).run P w = (match base with
      | some a => (storeCells (a.add (len * size)) new.toList).run P w
      | none => .ok () w).andThen fun _ w' => .ok (.slice base (len + n) cap) w' := by
  cases hx with
  | cells hu2 hd hl hc =>
    rename_i d
    rcases hd with rfl | ⟨e2, rfl⟩
    all_goals
      cases base with
      | none => simp only [Builtin.append_, List.getElem?_toArray, List.getElem?_cons_zero, List.getElem?_cons_succ, Sem.run_bind, run_under hu, Result.andThen_ok, run_sizeOf hs, run_under hu2, Sem.run_pure, hl, if_pos hle, hc]; simp [hl, hle, hc]
      | some a => simp only [Builtin.append_, List.getElem?_toArray, List.getElem?_cons_zero, List.getElem?_cons_succ, Sem.run_bind, run_under hu, Result.andThen_ok, run_sizeOf hs, run_under hu2, Sem.run_pure, hl, if_pos hle, hc]; simp [hl, hle, hc]
  | zeros hu2 h0 h1 hi hb hz =>
    rename_i k kk i new inf
    have w1 := wrap_small h0 h1
    have n0 : ¬ i < 0 := by omega
    have n1 : ¬ (281474976710656 : Int) < i * inf.bytes := by omega
    rcases aZeros_run hz w with ⟨hz0, rfl⟩ | ⟨hz0, z, hz1, hz2⟩
    · cases base with
      | none => simp [Builtin.append_, run_under hu, run_sizeOf hs, run_under hu2, asInt, asIntOf, w1, n0, typeInfo, hi, n1, hle, hz0]
      | some a => simp [Builtin.append_, run_under hu, run_sizeOf hs, run_under hu2, asInt, asIntOf, w1, n0, typeInfo, hi, n1, hle, hz0]
    · have hzz : Builtin.zeroCells z.cells i.toNat = new.toArray := by
        unfold aZeros at hz
        rw [if_neg hz0] at hz
        split at hz
        · rename_i z' hz'
          split at hz
          · rename_i hc
            cases hz
            have : z = z' := by have := (run_zero hz' w).symm.trans hz1; cases this; rfl
            subst this
            unfold Builtin.zeroCells
            rw [← zeros_eq]
            rfl
          · cases hz
        · cases hz
      cases base with
      | none => simp [Builtin.append_, run_under hu, run_sizeOf hs, run_under hu2, asInt, asIntOf, w1, n0, typeInfo, hi, n1, hle, hz0, hz1]
      | some a => simp [Builtin.append_, run_under hu, run_sizeOf hs, run_under hu2, asInt, asIntOf, w1, n0, typeInfo, hi, n1, hle, hz0, hz1, hzz]
theorem AppSrc.len {t e : TypeId} {size n : Nat} {x : Value} {new : Array Value} {w w' : World} (hl : (Builtin.lenOf x).run P w = .ok n w) : (Builtin.lenOf x).run P w' = .ok n w' := by
  cases x <;> simp_all [Builtin.lenOf]
set_option maxHeartbeats 2000000 in
theorem AppSrc.grow {t₁ t₂ ty e : TypeId} {size n len cap : Nat} {x : Value} {new old : Array Value} {w : World} {base : Option Addr} {inf : TypeInfo} {z : Value} (hu : P.underlying t₁ = some (.slice e)) (hi : P.info? e = some inf) (hsz : inf.size = size) (hz : inf.zero = some z)
    (h63 : len + n ≤ 1099511627776) (hb : (len + n) * inf.bytes ≤ 140737488355328) (hx : AppSrc P e size t₂ x n new w.drew) (hgt : cap < len + n) (hold : (Builtin.firstCells size len (.slice base len cap)).run P w.drew = .ok old w.drew) :
    ∃ c, len + n ≤ c ∧ (Builtin.append_ #[t₁, t₂] ty #[.slice base len cap, x]).run P w = .ok (.slice (some ⟨w.heap.size, 0, none⟩) (len + n) c) (w.drew.alloc (.cells (old ++ new ++ Builtin.zeroCells z.cells (c - (len + n))) e (0, 0))) := by
  have hs : sizeT P e = some size := by simp [sizeT, hi, hsz]
  have hz' : zeroT P e = some z := by simp [zeroT, hi, hz]
  have hnle : ¬ len + n ≤ cap := by omega
  have h63' : ¬ ((len + n : Nat) : Int) > IntKind.i64.max := by simp [IntKind.max, IntKind.signed, IntKind.bits]; omega
  have hfit := growslice_fits (old := cap) (need := len + n) (bytes := inf.bytes) hgt hb
  have hfit' : ¬ Builtin.nextslicecap (len + n) cap * inf.bytes > 2 ^ 48 := by omega
  generalize hq : Question.appendCap (len + n) cap e = q
  have hqf : q.forced = false := by rw [← hq]; rfl
  refine ⟨q.cut (w.tape w.drawn q), by rw [← hq]; simp [Question.cut], ?_⟩
  cases hx with
  | cells hu2 hd hl hc =>
    rename_i d
    have hl' := AppSrc.len (P := P) (t := t₁) (e := e) (size := size) (new := new) (w' := w) hl
    rcases hd with rfl | ⟨e2, rfl⟩
    all_goals
      simp only [Builtin.append_, List.getElem?_toArray, List.getElem?_cons_zero, List.getElem?_cons_succ, Sem.run_bind, run_under hu, Result.andThen_ok, run_sizeOf hs, run_under hu2, Sem.run_pure, hl', if_neg hnle]
      simp only [hl', if_neg hnle, Result.andThen_ok, Sem.run_bind, Sem.run_pure, Bool.false_eq_true, if_false, Bool.not_false, if_true, h63', false_and, typeInfo, run_program, hi, hfit', hq, run_choose, hqf, run_askRoom]
      have e1 : ({ w with drawn := w.drawn + 1 } : World) = w.drew := rfl
      simp only [e1, hold, hc, Result.andThen_ok, run_zero hz', newRow, Sem.run_bind, run_newObj, Sem.run_pure]
      rfl
  | zeros hu2 h0 h1 hi' hb' hzz =>
    rename_i k kk i new inf'
    rw [hi] at hi'; cases hi'
    have w1 := wrap_small h0 h1
    have n0 : ¬ i < 0 := by omega
    have n1 : ¬ i * (inf.bytes : Int) > 2 ^ 48 := by omega
    have e1 : ({ w with drawn := w.drawn + 1 } : World) = w.drew := rfl
    have happ : (if i.toNat * size = 0 then (pure #[] : Sem (Array Value)) else do pure (Builtin.zeroCells (← zeroValue e).cells i.toNat)).run P w.drew = .ok new.toArray w.drew := by
      rcases aZeros_run hzz w.drew with ⟨hz0, rfl⟩ | ⟨hz0, z2, hz1, hz2⟩
      · simp [hz0]
      · rw [if_neg hz0]
        unfold aZeros at hzz
        rw [if_neg hz0, hz'] at hzz
        simp only at hzz
        split at hzz
        · cases hzz
          simp only [Sem.run_bind, run_zero hz', Result.andThen_ok, Sem.run_pure]
          unfold Builtin.zeroCells
          rw [← zeros_eq]
          rfl
        · cases hzz
    simp only [Builtin.append_, List.getElem?_toArray, List.getElem?_cons_zero, List.getElem?_cons_succ, Sem.run_bind, run_under hu, Result.andThen_ok, run_sizeOf hs, run_under hu2, Sem.run_pure, asInt, asIntOf, w1]
    simp only [if_true, asInt, asIntOf, w1, if_neg n0, typeInfo, run_program, hi, if_neg n1, if_neg hnle, Result.andThen_ok, Sem.run_bind, Sem.run_pure, Bool.not_true, Bool.false_eq_true, if_false, h63', false_and, hfit', hq, run_choose, hqf, run_askRoom]
    simp only [e1, hold, Result.andThen_ok]
    rw [happ]
    simp only [Result.andThen_ok, run_zero hz', newRow, Sem.run_bind, run_newObj, Sem.run_pure]
    rfl
end
end Go.Proofs.Ytmelgnpogdilgaa
