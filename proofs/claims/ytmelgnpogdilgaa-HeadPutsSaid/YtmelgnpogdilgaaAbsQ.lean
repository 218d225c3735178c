/- Maps, on related memories. No conditions. -/
import Derived.Test.YtmelgnpogdilgaaAbsP
namespace Go.Proofs.Ytmelgnpogdilgaa
set_option linter.unusedVariables false
section
variable {P : Program} {D W : Nat → Prop} {o : Oper} {tm : List Value} {h : AHeap}
/-! ### Objects that are no cells -/
def AObj.other : AObj → Bool
  | .cells _ _ | .ro _ => false
  | _ => true
theorem AFr.putOther {W : Nat → Prop} (h : AHeap) {i : Nat} (hw : W i) {a b : AObj} (hg : h.get i = some a) (hb : b.other = true) (har : a.isRo = false := by rfl) : AFr W h (h.put i (some b)) :=
  ⟨by simp, fun j _ hj => h.get_put_ne _ (fun e => hj (e ▸ hw)), fun j d u hj e => by
    by_cases hij : i = j
    · subst hij; rw [h.get_put_same (AHeap.lt hg)] at e; cases e; cases hb
    · rw [h.get_put_ne _ hij] at e; exact ⟨d, e, rfl⟩, fun j hj e => by
    by_cases hij : i = j
    · subst hij; rw [hg]; simp
    · rwa [h.get_put_ne _ hij] at e, fun j hj e => by
    by_cases hij : i = j
    · subst hij; exact AHeap.live_of hg har
    · exact AHeap.live_eq (h.get_put_ne _ hij) e, fun j c hj e => by
    by_cases hij : i = j
    · subst hij; rw [h.get_put_same (AHeap.lt hg)] at e; cases e; cases hb
    · rwa [h.get_put_ne _ hij] at e⟩
theorem HRel.putOther {m : Mp} {w : World} (H : HRel P m D h w) {i : Nat} {l : Loc} (hm : m i = some l) {a b : AObj} (hg : h.get i = some a) (hb : b.other = true) {o' : Obj} (ho : ORel P m l b o') (har : a.isRo = false := by rfl) : HRel P m D (h.put i (some b)) { w with heap := w.heap.setIfInBounds l.b o' } := by
  refine ⟨fun j k e => by simpa using H.lt j k e, ?_, ?_, fun j k d e g => ?_, ?_⟩
  rotate_left 2
  · by_cases hij : i = j
    · subst hij; rw [h.get_put_same (AHeap.lt hg)] at g; cases g; cases hb
    · rw [h.get_put_ne _ hij] at g; exact H.roS j k d e g
  rotate_left 1
  · intro j k d u e g
    by_cases hij : i = j
    · subst hij; rw [h.get_put_same (AHeap.lt hg)] at g; cases g; cases hb
    · rw [h.get_put_ne _ hij] at g; exact H.typ j k d u e g
  · intro j j' k k' e e' g g' ee
    refine H.inj j j' k k' e e' ?_ ?_ ee
    · by_cases hij : i = j
      · subst hij; rw [hg]; simp
      · rwa [h.get_put_ne _ hij] at g
    · by_cases hij : i = j'
      · subst hij; exact AHeap.live_of hg har
      · exact AHeap.live_eq (h.get_put_ne _ hij) g'
  · intro j k x hdj e g
    simp only [Array.getElem?_setIfInBounds]
    by_cases hij : i = j
    · subst hij
      rw [hm] at e; cases e
      rw [h.get_put_same (AHeap.lt hg)] at g; cases g
      exact ⟨o', by rw [if_pos rfl, if_pos (H.lt i l hm)], ho⟩
    · rw [h.get_put_ne _ hij] at g
      have hne : l.b ≠ k.b := fun ee => hij (H.inj j i k l e hm (by rw [g]; simp) (AHeap.live_of hg har) ee.symm).symm
      rw [if_neg hne]
      exact H.obj j k x hdj e g
theorem Fr.putOther {m : Mp} {w : World} {i : Nat} {l : Loc} (hW : W i) (hm : m i = some l) {a : AObj} (hg : h.get i = some a) (b : AObj) (o' : Obj) (har : a.isRo = false := by rfl) : Fr m m W h (h.put i (some b)) w { w with heap := w.heap.setIfInBounds l.b o' } where
  old _ _ := rfl
  new j k h1 h2 := by simp at h2; omega
  keep b _ hk := by
    show (w.heap.setIfInBounds l.b o')[b]? = _
    rw [Array.getElem?_setIfInBounds, if_neg (hk i l (AHeap.lt hg) hW (AHeap.live_of hg har) hm)]
  size := by simp
  os := rfl
  tape := rfl
  output := rfl
/-! ### Keys -/
def eqKey (P : Program) (d : TypeDesc) (kt : TypeId) (k k' : Value) : Option Bool := match Instr.sameNow d k k' with
  | some b => some b
  | none => calm P (Op.equal kt k k')
def mapFind (P : Program) (d : TypeDesc) (kt : TypeId) (k : Value) : List MapEntry → Nat → Option (Option Nat)
  | [], _ => some none
  | e :: es, i => match eqKey P d kt k e.key with
    | some true => some (some i)
    | some false => mapFind P d kt k es (i + 1)
    | none => none
theorem sameNow_run {d : TypeDesc} {kt : TypeId} {k k' : Value} {b : Bool} (hu : P.underlying kt = some d) (he : Instr.sameNow d k k' = some b) (w : World) : (Op.equal kt k k').run P w = .ok b w := by
  unfold Op.equal
  obtain ⟨n, hn⟩ : ∃ n, Op.maxDepth = n + 1 := ⟨9999, rfl⟩
  rw [hn]
  unfold Instr.sameNow at he
  split at he
  · split at he
    · rename_i hk; subst hk; cases he; simp [Op.equalIn, run_under hu]
    · cases he
  · cases he; simp [Op.equalIn, run_under hu]
  · cases he; simp [Op.equalIn, run_under hu]
  · cases he
theorem eqKey_run {d : TypeDesc} {kt : TypeId} {k k' : Value} {b : Bool} (hu : P.underlying kt = some d) (he : eqKey P d kt k k' = some b) (w : World) : (Op.equal kt k k').run P w = .ok b w := by
  unfold eqKey at he
  split at he
  · rename_i b' hb; cases he; exact sameNow_run hu hb w
  · exact calm_run he w
def valAt (es : List MapEntry) (j : Nat) : Value := ((es[j]?).map (·.val)).getD undef
theorem findAsking_run {d : TypeDesc} {kt : TypeId} {k : Value} (hu : P.underlying kt = some d) (w : World) : ∀ (es : List MapEntry) (i : Nat) (r : Option Nat), mapFind P d kt k es i = some r → (Instr.findAsking kt k es i).run P w = .ok (r.map fun j => (j, valAt es (j - i))) w ∧ ∀ j, r = some j → i ≤ j ∧ j < i + es.length
  | [], i, r, he => by simp [mapFind] at he; subst he; simp [Instr.findAsking]
  | e :: es, i, r, he => by
    unfold mapFind at he
    split at he
    · rename_i hb
      cases he
      simp [Instr.findAsking, eqKey_run hu hb w, valAt]
    · rename_i hb
      obtain ⟨h1, h2⟩ := findAsking_run hu w es (i + 1) r he
      refine ⟨?_, fun j hj => by have := h2 j hj; simp; omega⟩
      simp only [Instr.findAsking, Sem.run_bind, eqKey_run hu hb w, Result.andThen_ok]
      simp only [Bool.false_eq_true, if_false, h1]
      cases r with
      | none => rfl
      | some j =>
        have := h2 j rfl
        have e1 : j - i = (j - (i + 1)) + 1 := by omega
        simp [valAt, e1]
    · cases he
theorem findNow_eq {d : TypeDesc} {kt : TypeId} {k : Value} : ∀ (es : List MapEntry) (i : Nat) (r : Option Nat) (r' : Option (Nat × Value)), mapFind P d kt k es i = some r → Instr.findNow d k es i = some r' → r' = r.map fun j => (j, valAt es (j - i))
  | [], i, r, r', he, hn => by simp [mapFind] at he; simp [Instr.findNow] at hn; subst he; subst hn; rfl
  | e :: es, i, r, r', he, hn => by
    unfold Instr.findNow at hn
    unfold mapFind eqKey at he
    split at hn
    · rename_i hs
      rw [hs] at he
      cases he; cases hn
      simp [valAt]
    · rename_i hs
      rw [hs] at he
      have ih := findNow_eq es (i + 1) r r' he hn
      rw [ih]
      have hlt : ∀ j, r = some j → i + 1 ≤ j := fun j hj => by
        clear ih hn
        subst hj
        have : ∀ (es : List MapEntry) (i : Nat), mapFind P d kt k es i = some (some j) → i ≤ j := by
          intro es
          induction es with
          | nil => intro i h; simp [mapFind] at h
          | cons e es ih =>
            intro i h
            unfold mapFind at h
            split at h
            · cases h; exact Nat.le_refl _
            · have := ih (i + 1) h; omega
            · cases h
        exact this es (i + 1) he
      cases r with
      | none => rfl
      | some j =>
        have := hlt j rfl
        have e1 : j - i = (j - (i + 1)) + 1 := by omega
        simp [valAt, e1]
    · cases hn
theorem findKey_run {d : TypeDesc} {kt : TypeId} {k : Value} {es : List MapEntry} {r : Option Nat} (hu : P.underlying kt = some d) (he : mapFind P d kt k es 0 = some r) (w : World) : (Instr.findKey kt k es).run P w = .ok (r.map fun j => (j, valAt es j)) w ∧ ∀ j, r = some j → j < es.length := by
  obtain ⟨h1, h2⟩ := findAsking_run hu w es 0 r he
  refine ⟨?_, fun j hj => by have := h2 j hj; omega⟩
  unfold Instr.findKey
  simp only [Sem.run_bind, run_under hu, Result.andThen_ok]
  split
  · rename_i r' hn
    rw [findNow_eq es 0 r r' he hn]
    simp
  · rw [h1]
    simp
/-- The keys are alike. -/
theorem mapFind_keys {d : TypeDesc} {kt : TypeId} {k : Value} : ∀ (es es' : List MapEntry) (i : Nat), es'.map (·.key) = es.map (·.key) → mapFind P d kt k es' i = mapFind P d kt k es i
  | [], [], _, _ => rfl
  | [], e :: es, _, h => by simp at h
  | e :: es, [], _, h => by simp at h
  | e :: es, e' :: es', i, h => by
    simp at h
    unfold mapFind
    rw [h.1, mapFind_keys es es' (i + 1) h.2]
def flatKeys (es : Array MapEntry) : Bool := es.toList.all fun e => flatB e.key
theorem ERel.keys {m : Mp} {es es' : Array MapEntry} (h : ERel m es es') (hf : flatKeys es = true) : es'.toList.map (·.key) = es.toList.map (·.key) := by
  apply List.ext_getElem?
  intro i
  simp only [List.getElem?_map, Array.getElem?_toList]
  by_cases hi : i < es.size
  · have hi' : i < es'.size := by rw [← h.1]; exact hi
    rw [Array.getElem?_eq_getElem hi, Array.getElem?_eq_getElem hi']
    have := (h.2 i es[i] es'[i] (by simp [hi]) (by simp [hi'])).1
    simp only [Option.map_some]
    rw [VRel.eq_of_flat this (List.all_eq_true.1 hf es[i] (by simp))]
  · have hi' : ¬ i < es'.size := by rw [← h.1]; exact hi
    rw [Array.getElem?_eq_none (by omega), Array.getElem?_eq_none (by omega)]
theorem ERel.val {m : Mp} {es es' : Array MapEntry} (h : ERel m es es') {j : Nat} (hj : j < es.toList.length) : VRel m (valAt es.toList j) (valAt es'.toList j) := by
  have hi : j < es.size := by simpa using hj
  have hi' : j < es'.size := by rw [← h.1]; exact hi
  simp only [valAt, Array.getElem?_toList, Array.getElem?_eq_getElem hi, Array.getElem?_eq_getElem hi', Option.map_some, Option.getD_some]
  exact (h.2 j es[j] es'[j] (by simp [hi]) (by simp [hi'])).2.1
/-- Where a key lies. -/
def keyAt (P : Program) (kt : TypeId) (k : Value) (es : Array MapEntry) (em : Bool) : Option (Option Nat) :=
  match P.underlying kt with
  | some d => if flatB k && flatKeys es then match calm P (Instr.checkKey em 10000 kt k) with
      | some () => mapFind P d kt k es.toList 0
      | none => none
    else none
  | none => none
theorem keyAt_run {kt : TypeId} {k k' : Value} {es es' : Array MapEntry} {em : Bool} {r : Option Nat} (he : keyAt P kt k es em = some r) {m : Mp} (hk : VRel m k k') (hr : ERel m es es') (w : World) :
    k' = k ∧ flatB k = true ∧ flatKeys es = true ∧ (Instr.checkKey em 10000 kt k).run P w = .ok () w ∧ (Instr.findKey kt k es'.toList).run P w = .ok (r.map fun j => (j, valAt es'.toList j)) w ∧ ∀ j, r = some j → j < es.toList.length := by
  unfold keyAt at he
  split at he
  · rename_i d hu
    split at he
    · rename_i hf
      rw [Bool.and_eq_true] at hf
      split at he
      · rename_i hc
        rw [← mapFind_keys es.toList es'.toList 0 (hr.keys hf.2)] at he
        obtain ⟨h1, h2⟩ := findKey_run hu he w
        exact ⟨VRel.eq_of_flat hk hf.1, hf.1, hf.2, calm_run hc w, h1, fun j hj => by have := h2 j hj; simp [← hr.1] at this; simpa using this⟩
      · cases he
    · cases he
  · cases he
/-! ### makeMap, lookup -/
theorem OpRun.makeMap {t : TypeId} (ho : o.op = .makeMap t none) : OpRun P D W o tm h (.map (some h.n)) (h.push (.map #[] 0)) :=
  .ofNew (by simp [ho]) fun m w A hm hf hx H => by
    refine ⟨.map (some w.heap.size), .map #[] 0, ⟨w.heap.size, 0, 0, 0, 0⟩, w, rfl, rfl, rfl, rfl, rfl, .map (l := ⟨w.heap.size, 0, 0, 0, 0⟩) (upd_same _ _ _), H.alloc hf rfl (fun c t e => by cases e) (.map ⟨rfl, fun i e e' a => by simp at a⟩), ?_⟩
    simp [execOp, ho, Instr.makeMap, World.alloc_eq]
def aLookup (P : Program) (h : AHeap) (t : TypeId) (x k : Value) (ok : Bool) : Option (Value × List Nat) :=
  match P.underlying t with
  | some (.map kt e) => match zeroT P e with
    | some z => if flatB z then match x with
        | .map none => match keyAt P kt k #[] true with
          | some _ => some (if ok then .tuple #[z, .bool false] else z, [])
          | none => none
        | .map (some r) => match h.get r with
          | some (.map es _) => match keyAt P kt k es es.isEmpty with
            | some (some j) => some (if ok then .tuple #[valAt es.toList j, .bool true] else valAt es.toList j, [r])
            | some none => some (if ok then .tuple #[z, .bool false] else z, [r])
            | none => none
          | _ => none
        | _ => none
      else none
    | none => none
  | _ => none
theorem VRel.pair {m : Mp} {a b a' b' : Value} (h1 : VRel m a a') (h2 : VRel m b b') : VRel m (.tuple #[a, b]) (.tuple #[a', b']) :=
  .tuple rfl fun i v v' e e' => by
    cases i with
    | zero => simp at e e'; subst e; subst e'; exact h1
    | succ i => cases i with
      | zero => simp at e e'; subst e; subst e'; exact h2
      | succ i => simp at e
theorem OpRun.lookup {t : TypeId} {x y : Operand} {ok : Bool} {v : Value} {rd : List Nat} (ho : o.op = .lookup t x y ok) (he : aLookup P h t (evalT tm x) (evalT tm y) ok = some (v, rd)) (hD : ∀ i ∈ rd, D i) : OpRun P D W o tm h v h :=
  .ofPure (by simp [ho]) fun m w A hm hx H => by
    have h1 := hx x (by simp [ho, Op.operands])
    have h2 := hx y (by simp [ho, Op.operands])
    unfold aLookup at he
    split at he
    case h_2 => cases he
    rename_i kt e hu
    split at he
    case h_2 => cases he
    rename_i z hz
    split at he
    case isFalse => cases he
    rename_i hzf
    have hzr := VRel.flat m hzf
    split at he
    · rename_i e1
      rw [e1] at h1
      have h1 := VRel.eq_of_flat h1 rfl
      split at he
      · rename_i r hk
        have er : ERel m #[] #[] := ⟨rfl, fun i e e' a => by simp at a⟩
        obtain ⟨k1, _, _, k3, k4, k5⟩ := keyAt_run hk h2 er w
        have : r = none := by
          cases r with
          | none => rfl
          | some j => have := k5 j rfl; simp at this
        subst this
        cases he
        refine ⟨if ok then .tuple #[z, .bool false] else z, ?_, ?_⟩
        · cases ok
          · exact hzr
          · exact hzr.pair (.bool _)
        · have k3' : (Instr.checkKey (#[] : Array MapEntry).isEmpty 10000 kt (evalT tm y)).run P w = .ok () w := k3
          simp only [execOp, ho, Instr.lookup, Sem.run_bind, run_under hu, Result.andThen_ok, h1, Sem.run_pure, k1]
          rw [k3']
          simp only [Result.andThen_ok, Option.map_none] at k4 ⊢
          rw [k4]
          simp [run_zero hz]
      · cases he
    · rename_i r e1
      rw [e1] at h1
      split at he
      case h_2 => cases he
      rename_i es ck hg
      generalize hy : A.eval x = x' at h1
      cases h1 with
      | @map _ l hl =>
        split at he
        · rename_i j hk
          cases he
          obtain ⟨o', a1, a2⟩ := H.obj _ _ _ (hD _ (by simp)) hl hg
          cases a2 with
          | @map _ es' _ er =>
            obtain ⟨k1, _, _, k3, k4, k5⟩ := keyAt_run hk h2 er w
            have hv := er.val (k5 j rfl)
            refine ⟨if ok then .tuple #[valAt es'.toList j, .bool true] else valAt es'.toList j, ?_, ?_⟩
            · cases ok
              · exact hv
              · exact hv.pair (.bool _)
            · have k3' : (Instr.checkKey es'.isEmpty 10000 kt (evalT tm y)).run P w = .ok () w := by
                have : es'.isEmpty = es.isEmpty := by simp [Array.isEmpty, er.1]
                rw [this]; exact k3
              have go : (getObj l.b).run P w = .ok (.map es' ck) w := by simp [getObj, Sem.run, a1]
              simp only [execOp, ho, Instr.lookup, Sem.run_bind, run_under hu, Result.andThen_ok, hy, go, Sem.run_pure, k1]
              rw [k3']
              simp only [Result.andThen_ok, Option.map_some] at k4 ⊢
              rw [k4]
              simp
        · rename_i hk
          cases he
          obtain ⟨o', a1, a2⟩ := H.obj _ _ _ (hD _ (by simp)) hl hg
          cases a2 with
          | @map _ es' _ er =>
            obtain ⟨k1, _, _, k3, k4, k5⟩ := keyAt_run hk h2 er w
            refine ⟨if ok then .tuple #[z, .bool false] else z, ?_, ?_⟩
            · cases ok
              · exact hzr
              · exact hzr.pair (.bool _)
            · have k3' : (Instr.checkKey es'.isEmpty 10000 kt (evalT tm y)).run P w = .ok () w := by
                have : es'.isEmpty = es.isEmpty := by simp [Array.isEmpty, er.1]
                rw [this]; exact k3
              have go : (getObj l.b).run P w = .ok (.map es' ck) w := by simp [getObj, Sem.run, a1]
              simp only [execOp, ho, Instr.lookup, Sem.run_bind, run_under hu, Result.andThen_ok, hy, go, Sem.run_pure, k1]
              rw [k3']
              simp only [Result.andThen_ok, Option.map_none] at k4 ⊢
              rw [k4]
              simp [run_zero hz]
        · cases he
    · cases he
end
end Go.Proofs.Ytmelgnpogdilgaa
