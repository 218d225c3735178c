/- What the law leans on, part 5. No conditions. -/
import Derived.Laws.Small
import Derived.SizedLaws
import Derived.Test.YtacfneokhmnkbaaTaskPlaysPart4
set_option linter.unusedVariables false
set_option linter.unusedSimpArgs false
namespace Go.Proofs.Ytacfneokhmnkbaa
class MI (P : Program) (t : TypeId) (K : outParam IntKind) (z : outParam Value) : Prop where
  h : ∃ kt e, P.underlying t = some (.map kt e) ∧ P.underlying kt = some (.int K) ∧ zeroT P e = some z ∧ flatB z = true ∧ ∀ em n, calm P (Instr.checkKey em 10000 kt (.int K n)) = some ()
def al {β : Type} : List (Int × β) → Int → Option β
  | [], _ => none
  | p :: r, k => if p.1 = k then some p.2 else al r k
def aset {β : Type} : List (Int × β) → Int → β → List (Int × β)
  | [], k, v => [(k, v)]
  | p :: r, k, v => if p.1 = k then (k, v) :: r else p :: aset r k v
def kvs (K : IntKind) (f : List (Int × Value)) : List (Value × Value) := f.map fun p => (.int K p.1, p.2)
def kv (l : List MapEntry) : List (Value × Value) := l.map fun e => (e.key, e.val)
def IMap (h : AHeap) (r : Nat) (K : IntKind) (f : List (Int × Value)) : Prop := ∃ es ck, h.get r = some (.map es ck) ∧ kv es.toList = kvs K f
theorem IMap.same {h h' : AHeap} {r : Nat} {K : IntKind} {f : List (Int × Value)} (m : IMap h r K f) (s : Same h h') : IMap h' r K f := by
  obtain ⟨es, ck, g, e⟩ := m
  exact ⟨es, ck, s.get g, e⟩
theorem IMap.keeps {h h' : AHeap} {r : Nat} {K : IntKind} {f : List (Int × Value)} {wr : List Nat} (m : IMap h r K f) (s : Keeps wr h h') (hr : r ∉ wr) : IMap h' r K f := by
  obtain ⟨es, ck, g, e⟩ := m
  exact ⟨es, ck, s.get g hr, e⟩
theorem IMap.lt {h : AHeap} {r : Nat} {K : IntKind} {f : List (Int × Value)} (m : IMap h r K f) : r < h.n := by
  obtain ⟨es, ck, g, e⟩ := m
  exact AHeap.lt g
theorem eqKey_int (P : Program) (kt : TypeId) (K : IntKind) (a b : Int) : eqKey P (.int K) kt (.int K a) (.int K b) = some (a == b) := by simp [eqKey, Instr.sameNow]
theorem map_find (P : Program) (kt : TypeId) (K : IntKind) (k : Int) (v : Value) : ∀ (l : List MapEntry) (f : List (Int × Value)) (i : Nat), kv l = kvs K f →
    (al f k = none ∧ mapFind P (.int K) kt (.int K k) l i = some none ∧ kv l ++ [(.int K k, v)] = kvs K (aset f k v)) ∨
    ∃ j, mapFind P (.int K) kt (.int K k) l i = some (some (i + j)) ∧ j < l.length ∧ al f k = some (valAt l j) ∧ (l[j]?).map (·.key) = some (.int K k) ∧ kv (l.modify j fun e => { e with key := .int K k, val := v }) = kvs K (aset f k v)
  | [], f, i, h => by
    cases f with
    | nil => exact .inl ⟨rfl, rfl, rfl⟩
    | cons p r => simp [kv, kvs] at h
  | e :: l, f, i, h => by
    cases f with
    | nil => simp [kv, kvs] at h
    | cons p r =>
      simp only [kv, kvs, List.map_cons, List.cons.injEq, Prod.mk.injEq] at h
      obtain ⟨⟨h1, h2⟩, h3⟩ := h
      by_cases hk : p.1 = k
      · refine .inr ⟨0, ?_, by simp, ?_, ?_, ?_⟩
        · simp [mapFind, h1, eqKey_int, hk]
        · simp [al, hk, valAt, h2]
        · simp [h1, hk]
        · simp only [List.modify_zero_cons, kv, kvs, aset, if_pos hk, List.map_cons, h3]
      · have hk' : (k == p.1) = false := by simpa using fun e : k = p.1 => hk e.symm
        rcases map_find P kt K k v l r (i + 1) h3 with ⟨a, b, c⟩ | ⟨j, a, b, c, d, e'⟩
        · refine .inl ⟨by simp [al, hk, a], by simp only [mapFind, h1, eqKey_int, hk', b], ?_⟩
          simp only [kv, kvs] at c
          simp only [kv, kvs, aset, if_neg hk, List.map_cons, List.cons_append, c, h1, h2]
        · refine .inr ⟨j + 1, ?_, by simp; omega, ?_, by simpa using d, ?_⟩
          · simp only [mapFind, h1, eqKey_int, hk', a]; congr 2; omega
          · simp only [al, if_neg hk, c, valAt, List.getElem?_cons_succ]
          · simp only [kv, kvs] at e'
            simp only [List.modify_succ_cons, kv, kvs, aset, if_neg hk, List.map_cons, e', h1, h2]
theorem keyAt_int {P : Program} {kt : TypeId} {K : IntKind} {k : Int} {es : Array MapEntry} {em : Bool} {f : List (Int × Value)} (hu : P.underlying kt = some (.int K)) (hc : ∀ em n, calm P (Instr.checkKey em 10000 kt (.int K n)) = some ()) (he : kv es.toList = kvs K f) : keyAt P kt (.int K k) es em = mapFind P (.int K) kt (.int K k) es.toList 0 := by
  have hf : flatKeys es = true := by
    refine List.all_eq_true.2 fun e hm => ?_
    have : (e.key, e.val) ∈ kv es.toList := List.mem_map_of_mem hm
    rw [he] at this
    obtain ⟨p, -, hp⟩ := List.mem_map.1 this
    have := congrArg Prod.fst hp
    simp only at this
    rw [← this]; rfl
  have h1 : flatB (.int K k) = true := rfl
  simp only [keyAt, hu, h1, hf, hc, Bool.and_self, if_true]
theorem aLookup_int {P : Program} {h : AHeap} {t : TypeId} {K : IntKind} {z : Value} [hm : MI P t K z] {r : Nat} {f : List (Int × Value)} (m : IMap h r K f) (k : Int) (ok : Bool) : aLookup P h t (.map (some r)) (.int K k) ok = some (if ok then .tuple #[(al f k).getD z, .bool (al f k).isSome] else (al f k).getD z, [r]) := by
  obtain ⟨kt, e, h1, h2, h3, h4, h5⟩ := hm.h
  obtain ⟨es, ck, g, he⟩ := m
  simp only [aLookup, h1, h3, h4, if_true, g, keyAt_int h2 h5 he]
  rcases map_find P kt K k z es.toList f 0 he with ⟨a, b, -⟩ | ⟨j, a, -, c, -, -⟩
  · simp [a, b]
  · simp [a, c]
theorem aUpdate_int {P : Program} {h : AHeap} {t : TypeId} {K : IntKind} {z : Value} [hm : MI P t K z] {r : Nat} {f : List (Int × Value)} (m : IMap h r K f) (k : Int) (v : Value) : ∃ o, aUpdate P h t (.map (some r)) (.int K k) v = some (h.put r (some o), r) ∧ IMap (h.put r (some o)) r K (aset f k v) := by
  obtain ⟨kt, e, h1, h2, h3, h4, h5⟩ := hm.h
  obtain ⟨es, ck, g, he⟩ := m
  have hr := AHeap.lt g
  rcases map_find P kt K k v es.toList f 0 he with ⟨a, b, c⟩ | ⟨j, a, b, c, d, d2⟩
  · refine ⟨.map (es.push { key := .int K k, val := v, born := ck }) (ck + 1), ?_, _, _, AHeap.get_put_same _ hr _, ?_⟩
    · simp only [aUpdate, h1, g, keyAt_int h2 h5 he, b]
    · rw [← c]; simp [kv]
  · rw [Nat.zero_add] at a
    have hs : keyStays es j (.int K k) = true := by
      have : (es[j]?).map (·.key) = some (.int K k) := by simpa using d
      simp [keyStays, this, Instr.sameBits]
    refine ⟨.map (es.modify j fun e => { e with key := .int K k, val := v }) ck, ?_, _, _, AHeap.get_put_same _ hr _, ?_⟩
    · simp only [aUpdate, h1, g, keyAt_int h2 h5 he, a, hs, if_true]
    · rw [← d2]; simp
section
variable {P : Program} {h : AHeap} {o : Oper} {ov : Ov} {W : Nat → Prop} {q : Bool} {N : Nat} {ops : Array Oper} {os : List Oper} {k : List It} {df : List Nat} {Q : PQ} {d : Nat} {b₀ : Bool}
theorem S.makeMap {t : TypeId} (ho : o.op = .makeMap t none) : ∀ tm, Rp ov tm → OpOk P o tm h ⟨.map (some h.n), h.push (.map #[] 0), [], [], false, false⟩ := fun tm hr => .new fun D W => OpRun.makeMap ho
theorem S.lookup {t : TypeId} {x y : Operand} {K : IntKind} {z : Value} {r : Nat} {f : List (Int × Value)} {n : Int} {ok : Bool} [hm : MI P t K z] (ho : o.op = .lookup t x y ok) (hx : evO ov x = some (.map (some r))) (hy : evO ov y = some (.int K n)) (m : IMap h r K f) : ∀ tm, Rp ov tm → OpOk P o tm h ⟨if ok then .tuple #[(al f n).getD z, .bool (al f n).isSome] else (al f n).getD z, h, [r], [], false, true⟩ := fun tm hr => .read fun D W hD => OpRun.lookup ho (by rw [evO_eq hr hx, evO_eq hr hy]; exact aLookup_int m n ok) hD
theorem GoR.makeMap {t : TypeId} (ho : o.op = .makeMap t none) (hd : o.dst = some d) (hN : dOk d N = true) (hgd : o.guard = none) (g : ∀ h', (∀ K, IMap h' h.n K []) → Same h h' → h'.n = h.n + 1 → GoR P W q N ops b₀ os k ((d, .map (some h.n)) :: ov) df h' Q) : GoR P W q N ops b₀ (o :: os) k ov df h Q := GoR.step (r := ⟨.map (some h.n), h.push (.map #[] 0), [], [], false, false⟩) hgd hd hN (S.makeMap ho) (.inr rfl) (fun i hi => by cases hi) (g _ (fun K => ⟨_, _, AHeap.get_push_same _ _, rfl⟩) ((Same.refl h).push _) rfl)
theorem GoR.lookup {t : TypeId} {x y : Operand} {K : IntKind} {z : Value} {r : Nat} {f : List (Int × Value)} {n : Int} [hm : MI P t K z] (ho : o.op = .lookup t x y false) (hd : o.dst = some d) (hN : dOk d N = true) (hgd : o.guard = none) (hx : evO ov x = some (.map (some r))) (hy : evO ov y = some (.int K n)) (m : IMap h r K f) (g : GoR P W q N ops b₀ os k ((d, (al f n).getD z) :: ov) df h Q) : GoR P W q N ops b₀ (o :: os) k ov df h Q := GoR.step (r := ⟨(al f n).getD z, h, [r], [], false, true⟩) hgd hd hN (S.lookup ho hx hy m) (.inr rfl) (fun i hi => by cases hi) g
theorem GoR.mapUpdate {t : TypeId} {x y v : Operand} {K : IntKind} {z : Value} {r : Nat} {f : List (Int × Value)} {n : Int} {u : Value} [hm : MI P t K z] (ho : o.op = .mapUpdate t x y v ∨ o.op = .insert t x y v) (hd : o.dst = none) (hgd : o.guard = none) (hx : evO ov x = some (.map (some r))) (hy : evO ov y = some (.int K n)) (hv : evO ov v = some u) (m : IMap h r K f) (hw : W r) (g : ∀ h', IMap h' r K (aset f n u) → Keeps [r] h h' → h'.n = h.n → GoR P W q N ops true os k ov df h' Q) : GoR P W q N ops true (o :: os) k ov df h Q := by
  obtain ⟨ob, h1, h2⟩ := aUpdate_int (P := P) (t := t) m n u
  exact GoR.step0 (r := ⟨undef, h.put r (some ob), [r], [r], false, false⟩) hgd hd (fun tm hr => .write fun D W hD hW => OpRun.mapUpdate ho (by rw [evO_eq hr hx, evO_eq hr hy, evO_eq hr hv]; exact h1) (hD r (by simp)) (hW r (by simp)).2) (.inl rfl) (fun i hi => by simp at hi; subst hi; exact hw) (g _ h2 ⟨Nat.le_refl _, fun i hi hn => AHeap.get_put_ne _ _ (fun e => hn (by simp [e]))⟩ rfl)
end
end Go.Proofs.Ytacfneokhmnkbaa
namespace Go.Proofs.Ytacfneokhmnkbaa
abbrev HEv := Int × Bool
def fd : List HEv → Int → Bool → Option Nat
  | [], _, _ => none
  | x :: l, c, r => if x = (c, r) then some 0 else (fd l c r).map (· + 1)
theorem fd_lt {l : List HEv} {c : Int} {r : Bool} {i : Nat} (h : fd l c r = some i) : ∃ hi : i < l.length, l[i] = (c, r) := by
  induction l generalizing i with
  | nil => cases h
  | cons y l ih =>
    simp only [fd] at h
    split at h
    · rename_i hy; cases h; exact ⟨by simp, by simpa using hy⟩
    · cases hq : fd l c r with
      | none => rw [hq] at h; cases h
      | some j =>
        rw [hq] at h; simp at h; subst h
        obtain ⟨a, b⟩ := ih hq
        exact ⟨by simp; omega, by simpa using b⟩
theorem fd_take (l : List HEv) (n : Nat) (c : Int) (r : Bool) : fd (l.take n) c r = match fd l c r with | some i => if i < n then some i else none | none => none := by
  induction l generalizing n with
  | nil => simp [fd]
  | cons y l ih =>
    cases n with
    | zero =>
      simp only [List.take_zero, fd]
      split <;> rfl
    | succ n =>
      simp only [List.take_succ_cons, fd, ih]
      by_cases h : y = (c, r)
      · simp [h]
      · simp only [if_neg h]
        cases fd l c r with
        | none => rfl
        | some i =>
          simp only [Option.map_some, Nat.succ_lt_succ_iff]
          by_cases hi : i < n
          · simp [hi]
          · simp [hi]
def badAt (p : List HEv) (x : HEv) : Bool := (fd p x.1 x.2).isSome || (x.2 && (fd p x.1 false).isNone)
def HWf (p : List HEv) : Prop := ∀ (i : Nat) (x : HEv), p[i]? = some x → badAt (p.take i) x = false
theorem HWf.nil : HWf [] := fun i x h => by simp at h
theorem HWf.snoc {p : List HEv} {x : HEv} (h : HWf p) (hb : badAt p x = false) : HWf (p ++ [x]) := fun i y hy => by
  rcases Nat.lt_or_ge i p.length with hi | hi
  · rw [List.getElem?_append_left hi] at hy
    rw [List.take_append_of_le_length (by omega)]
    exact h i y hy
  · rw [List.getElem?_append_right hi] at hy
    have e : i = p.length := by
      have := (List.getElem?_eq_some_iff.1 hy).1
      simp at this; omega
    subst e
    simp at hy
    subst hy
    simpa using hb
theorem HWf.ret {p : List HEv} (h : HWf p) {c : Int} {t : Nat} (ht : fd p c true = some t) : ∃ i, fd p c false = some i ∧ i < t := by
  obtain ⟨hi, e⟩ := fd_lt ht
  have hb := h t _ (by rw [List.getElem?_eq_getElem hi, e])
  simp only [badAt, Bool.true_and, Bool.or_eq_false_iff] at hb
  have h2 := hb.2
  rw [fd_take] at h2
  cases hq : fd p c false with
  | none => rw [hq] at h2; simp at h2
  | some j =>
    rw [hq] at h2
    refine ⟨j, rfl, ?_⟩
    by_cases hj : j < t
    · exact hj
    · simp [hj] at h2
def spanOf (L : Nat) (p : List HEv) (c : Int) : Option (Nat × Nat) := (fd p c false).map fun i => (i, (fd p c true).getD (L + 1))
def before (l : List HEv) (a b : Int) : Bool := match fd l a true, fd l b false with
  | some i, some j => decide (i < j)
  | _, _ => false
def place (l : List HEv) : List Int → Nat → Option (List (Int × Nat))
  | [], _ => some []
  | c :: r, at_ =>
    let s := (spanOf l.length l c).getD (0, 0)
    let n := max at_ (s.1 + 1)
    if s.2 < n then none else (place l r n).map ((c, n) :: ·)
end Go.Proofs.Ytacfneokhmnkbaa
namespace Go.Proofs.Ytacfneokhmnkbaa
section
variable {P : Program} {W : Nat → Prop} {q : Bool} {N : Nat} {k : List It} {ov : Ov} {df : List Nat} {h : AHeap} {Q : PQ} {ops : Array Oper} {os : List Oper} {o : Oper} {d : Nat} {b₀ : Bool} {tr : List (Option LE)}
theorem S.maxI {x y : Operand} {ts : Array TypeId} {kd : IntKind} {i j : Int} (ho : o.op = .call ⟨.builtin .max, #[x, y], ts⟩) (hx : evO ov x = some (.int kd i)) (hy : evO ov y = some (.int kd j)) : ∀ tm, Rp ov tm → OpOk P o tm h (pureO h (.int kd (if j > i then j else i))) := fun tm hr =>
  OpOk.flat (by simp [ho]) rfl fun m w A hA => by
    have h1 := hA x (by simp [ho, Op.operands, Call.operands])
    have h2 := hA y (by simp [ho, Op.operands, Call.operands])
    rw [evO_eq hr hx] at h1
    rw [evO_eq hr hy] at h2
    have e1 := VRel.eq_of_flat h1 rfl
    have e2 := VRel.eq_of_flat h2 rfl
    rw [exec_builtin ho]
    simp [builtin, Builtin.max_, Builtin.max2, e1, e2]
theorem GoR.maxI {x y : Operand} {ts : Array TypeId} {kd : IntKind} {i j : Int} (ho : o.op = .call ⟨.builtin .max, #[x, y], ts⟩) (hd : o.dst = some d) (hN : dOk d N = true) (hgd : o.guard = none) (hx : evO ov x = some (.int kd i)) (hy : evO ov y = some (.int kd j)) (g : GoR P W q N ops b₀ os k ((d, .int kd (if j > i then j else i)) :: ov) df h Q) : GoR P W q N ops b₀ (o :: os) k ov df h Q :=
  GoR.step (r := pureO h _) hgd hd hN (S.maxI ho hx hy) (.inr rfl) (fun i hi => by cases hi) g
theorem S.boolNe {t t₂ : TypeId} {x y : Operand} {a b : Bool} (ho : o.op = .binOp .neq t x y t₂) (hx : evO ov x = some (.bool a)) (hy : evO ov y = some (.bool b)) (hu : P.underlying t = some .bool) : ∀ tm, Rp ov tm → OpOk P o tm h (pureO h (.bool (!(a == b)))) := fun tm hr =>
  OpOk.flat (by simp [ho]) rfl fun m w A hA => by
    have h1 := hA x (by simp [ho, Op.operands])
    have h2 := hA y (by simp [ho, Op.operands])
    rw [evO_eq hr hx] at h1
    rw [evO_eq hr hy] at h2
    have e1 := VRel.eq_of_flat h1 rfl
    have e2 := VRel.eq_of_flat h2 rfl
    simp [execOp, ho, e1, e2, eqGuard, binOp, run_equal_bool w t a b hu]
theorem GoR.boolNe {t t₂ : TypeId} {x y : Operand} {a b : Bool} (ho : o.op = .binOp .neq t x y t₂) (hd : o.dst = some d) (hN : dOk d N = true) (hgd : o.guard = none) (hx : evO ov x = some (.bool a)) (hy : evO ov y = some (.bool b)) (hu : P.underlying t = some .bool) (g : GoR P W q N ops b₀ os k ((d, .bool (!(a == b))) :: ov) df h Q) : GoR P W q N ops b₀ (o :: os) k ov df h Q :=
  GoR.step (r := pureO h _) hgd hd hN (S.boolNe ho hx hy hu) (.inr rfl) (fun i hi => by cases hi) g
end
end Go.Proofs.Ytacfneokhmnkbaa
namespace Go.Proofs.Ytacfneokhmnkbaa
section
variable {P : Program} {h : AHeap} {H : Type}
def Sized (P : Program) {H : Type} (t : TypeId) (d : DataW H) : Prop := ∀ n ∈ d.weights P t, n ≤ reachBytes
theorem weightsAll_mem {e : TypeId} : ∀ {ds : List (DataW H)} {d : DataW H}, d ∈ ds → ∀ n ∈ d.weights P e, n ∈ DataW.weightsAll P e ds
  | x :: ds, d, hd, n, hn => by
    simp only [DataW.weightsAll, List.mem_append]
    rcases List.mem_cons.1 hd with rfl | hd
    · exact .inl hn
    · exact .inr (weightsAll_mem hd n hn)
theorem Sized.of_all {ts : List TypeId} {ds : List (DataW H)} (h : (DataW.weightsEach P ts ds).all (· ≤ reachBytes) = true) {j : Nat} {t : TypeId} {d : DataW H} (ht : ts[j]? = some t) (hd : ds[j]? = some d) : Sized P t d := fun n hn => by
  have := List.all_eq_true.1 h _ (DataW.weights_mem_each ht hd n hn)
  simpa using this
theorem ARd.slice_invZ {t e : TypeId} {cs : List Value} {d : DataW H} (r : ARd P h t cs d) (z : Sized P t d) (hu : P.underlying t = some (.slice e)) : ∃ a len cap c, cs = [.slice a len cap] ∧ Rv P h (P.cellsOf e) a len cap c ∧ cap ≤ maxLen ∧ len * P.bytesOf e ≤ reachBytes ∧ ∀ i, i < len → ∃ d', ARd (H := H) P h e ((c.drop (i * P.cellsOf e)).take (P.cellsOf e)) d' ∧ Sized P e d' := by
  cases r with
  | snil hu' => exact ⟨none, 0, 0, [], rfl, .nil, Nat.zero_le _, by simp, fun i hi => by omega⟩
  | slice hu' hR hm hl he =>
    rw [hu] at hu'; cases hu'
    rename_i ds rest
    refine ⟨_, _, _, _, rfl, hR, hm, ?_, fun i hi => ⟨ds[i]'(by omega), he i _ (List.getElem?_eq_getElem (by omega)), fun n hn => z n ?_⟩⟩
    · have := z ((ds.length + rest.length) * P.bytesOf e) (by simp [DataW.weights, hu])
      rw [← hl]
      exact Nat.le_trans (Nat.mul_le_mul_right _ (Nat.le_add_right _ _)) this
    · simp only [DataW.weights, hu, List.mem_cons, List.mem_append]
      exact .inr (.inl (weightsAll_mem (List.getElem_mem _) n hn))
  | bool hu' => rw [hu] at hu'; cases hu'
  | int hu' hw => rw [hu] at hu'; cases hu'
  | str hu' => rw [hu] at hu'; cases hu'
  | struct hu' => rw [hu] at hu'; cases hu'
theorem ARd.fieldZ {t : TypeId} {fs : Array Field} {cs : List Value} {d : DataW H} (r : ARd P h t cs d) (z : Sized P t d) (hu : P.underlying t = some (.struct fs)) : cs.length = P.cellsOf t ∧ ∀ (i ty off sz : Nat), (fs[i]?).map (fun f => (f.type, f.offset)) = some (ty, off) → P.cellsOf ty = sz → ∃ d', ARd (H := H) P h ty ((cs.drop off).take sz) d' ∧ Sized P ty d' := by
  cases r with
  | struct hu' hl hx hf =>
    rw [hu] at hu'; cases hu'
    refine ⟨hl, fun i ty off sz e hs => ?_⟩
    subst hs
    cases hq : fs[i]? with
    | none => simp [hq] at e
    | some f =>
      simp only [hq, Option.map_some, Option.some.injEq, Prod.mk.injEq] at e
      obtain ⟨rfl, rfl⟩ := e
      have hi := (Array.getElem?_eq_some_iff.1 hq).1
      rename_i xs
      refine ⟨_, hf i f xs[i] hq (List.getElem?_eq_getElem (by omega)), fun n hn => z n ?_⟩
      simp only [DataW.weights, hu]
      refine DataW.weights_mem_each (j := i) ?_ (List.getElem?_eq_getElem (by omega)) n hn
      simp [hq]
  | bool hu' => rw [hu] at hu'; cases hu'
  | int hu' hw => rw [hu] at hu'; cases hu'
  | str hu' => rw [hu] at hu'; cases hu'
  | snil hu' => rw [hu] at hu'; cases hu'
  | slice hu' => rw [hu] at hu'; cases hu'
end
end Go.Proofs.Ytacfneokhmnkbaa