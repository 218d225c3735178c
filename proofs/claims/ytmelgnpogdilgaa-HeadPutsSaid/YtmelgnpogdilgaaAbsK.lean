/- Regions that draw their order: one trace in the order of the text serves every order. No conditions. -/
import Derived.Test.YtmelgnpogdilgaaAbsJ
namespace Go.Proofs.Ytmelgnpogdilgaa
set_option linter.unusedVariables false
def okOpd (P : Program) : Operand → Bool
  | .tmp _ => true
  | .const v => flatB v
  | .global g => decide (g < P.globals.size)
  | .func _ => true
def opsOk (P : Program) (ops : Array Oper) : Bool := ops.toList.all fun o => o.op.operands.toList.all (okOpd P)
def putT (tm : List Value) (d : Option Tmp) (v : Value) : List Value := match d with
  | some t => tm.set t v
  | none => tm
theorem opd_rel {P : Program} {m : Mp} (hm : MOk P m) {tm : List Value} {A : Act} {x : Operand} (hk : okOpd P x = true) (ht : ∀ t, x = .tmp t → VRel m (tm.getD t undef) (A.tmps.getD t undef)) : VRel m (evalT tm x) (A.eval x) := by
  cases x with
  | tmp t => exact ht t rfl
  | const v => exact VRel.flat m hk
  | global g =>
    obtain ⟨l, h1, h2, h3⟩ := hm g (by simpa [okOpd] using hk)
    have := VRel.ptr (m := m) (o := 0) h1
    simpa [evalT, Act.eval, h2, h3] using this
  | func f => exact .func (fun r => by simp) rfl rfl (fun i v v' e => by simp at e) (fun i v v' e => by simp at e)
def bef (ops : Array Oper) (i j : Nat) : Bool := ((Region.before ops).getD j 0).testBit i
theorem before_fold (i : Nat) (acc : Array Nat) : ∀ (es : List Edge) (s : Nat), (es.foldl (fun s e => if Region.binds .any e then s ||| 2 ^ e.on ||| acc.getD e.on 0 else s) s).testBit i = true → s.testBit i = true ∨ ∃ e ∈ es, Region.binds .any e = true ∧ (i = e.on ∨ (acc.getD e.on 0).testBit i = true)
  | [], s, h => .inl h
  | e :: es, s, h => by
    simp only [List.foldl_cons] at h
    rcases before_fold i acc es _ h with h1 | ⟨e', he, h2⟩
    · split at h1
      · rename_i hb
        simp only [Nat.testBit_or, Bool.or_eq_true, Nat.testBit_two_pow, decide_eq_true_eq] at h1
        rcases h1 with (h1 | h1) | h1
        · exact .inl h1
        · exact .inr ⟨e, by simp, hb, .inl h1.symm⟩
        · exact .inr ⟨e, by simp, hb, .inr h1⟩
      · exact .inl h1
    · exact .inr ⟨e', List.mem_cons_of_mem _ he, h2⟩
theorem before_go (f : Array Nat → Oper → Nat) : ∀ (l : List Oper) (acc : Array Nat), ∃ tab : Array Nat, l.foldl (fun a o => a.push (f a o)) acc = acc ++ tab ∧ tab.size = l.length ∧ ∀ (j : Nat) o, l[j]? = some o → ∃ a : Array Nat, (∀ q, q < acc.size + j → a[q]? = (acc ++ tab)[q]?) ∧ a.size = acc.size + j ∧ (acc ++ tab)[acc.size + j]? = some (f a o)
  | [], acc => ⟨#[], by simp, rfl, fun j o e => by simp at e⟩
  | o :: l, acc => by
    obtain ⟨tab, h1, h2, h3⟩ := before_go f l (acc.push (f acc o))
    refine ⟨#[f acc o] ++ tab, ?_, by simp [h2]; omega, fun j x e => ?_⟩
    · simp only [List.foldl_cons, h1]
      apply Array.toList_inj.1; simp
    · have e0 : acc ++ (#[f acc o] ++ tab) = acc.push (f acc o) ++ tab := by apply Array.toList_inj.1; simp
      cases j with
      | zero =>
        simp at e
        subst e
        refine ⟨acc, fun q hq => ?_, by simp, ?_⟩
        · rw [Array.getElem?_append_left (by omega)]
        · rw [e0, Array.getElem?_append_left (by simp)]
          simp
      | succ j =>
        obtain ⟨a, g1, g2, g3⟩ := h3 j x (by simpa using e)
        refine ⟨a, fun q hq => ?_, by simp at g2; omega, ?_⟩
        · rw [e0]; exact g1 q (by simp; omega)
        · rw [e0]; simpa [Nat.add_assoc, Nat.add_comm 1] using g3
theorem bef_edge {ops : Array Oper} {i j : Nat} {o : Oper} (ho : ops[j]? = some o) (h : bef ops i j = true) : ∃ e ∈ o.after, Region.binds .any e = true ∧ (i = e.on ∨ bef ops i e.on = true) := by
  have hb : Region.before ops = ops.toList.foldl (fun a o => a.push (o.after.foldl (fun s e => if Region.binds .any e then s ||| 2 ^ e.on ||| a.getD e.on 0 else s) 0)) #[] := by
    unfold Region.before
    rw [← Array.foldl_toList]
  obtain ⟨tab, h1, h2, h3⟩ := before_go (fun a o => o.after.foldl (fun s e => if Region.binds .any e then s ||| 2 ^ e.on ||| a.getD e.on 0 else s) 0) ops.toList #[]
  obtain ⟨a, g1, g2, g3⟩ := h3 j o (by simpa using ho)
  simp only [List.size_toArray, List.length_nil, Nat.zero_add, Array.empty_append] at g1 g2 g3 h1
  rw [← hb] at h1
  unfold bef at h
  rw [h1, Array.getD_eq_getD_getElem?, g3] at h
  simp only [Option.getD_some] at h
  rw [← Array.foldl_toList] at h
  rcases before_fold i a _ 0 h with h4 | ⟨e, he, hbind, h5⟩
  · simp at h4
  · refine ⟨e, by simpa using he, hbind, h5.imp id fun h6 => ?_⟩
    unfold bef
    rw [h1]
    by_cases hlt : e.on < j
    · rw [Array.getD_eq_getD_getElem?, ← g1 e.on hlt, ← Array.getD_eq_getD_getElem?]; exact h6
    · rw [Array.getD_eq_getD_getElem?, Array.getElem?_eq_none (by omega)] at h6; simp at h6

/-- A trace of a region in the order of the text: frames, heaps, values; what each operation may read and write; 'L': those that write what was there. -/
structure Trace (P : Program) (ops : Array Oper) (T : Nat → List Value) (H : Nat → AHeap) (V : Nat → Value) (D W : Nat → Nat → Prop) (L : Nat → Prop) : Prop where
  step : ∀ k o, ops[k]? = some o → (Region.wanted o (yielded ops (T k).toArray) = true ∧ OpRun P (D k) (W k) o (T k) (H k) (V k) (H (k + 1))) ∨ (Region.wanted o (yielded ops (T k).toArray) = false ∧ V k = undef ∧ H (k + 1) = H k)
  tm : ∀ k o, ops[k]? = some o → T (k + 1) = putT (T k) o.dst (V k)
  own : ∀ k, ¬ L k → ∀ i, W k i → (H k).n ≤ i
  new : ∀ k i, (H k).n ≤ i → i < (H (k + 1)).n → D k i
  rw : ∀ k i, L k → W k i → D k i
  /-- the order of what looks at or writes one temporary is fixed -/
  apart : ∀ i j oi oj, i < j → ops[i]? = some oi → ops[j]? = some oj → bef ops i j = true ∨ oi.apart ops oj = true
  /-- what is not ordered beside one that writes writes nothing and reads elsewhere -/
  loud : ∀ i j, L i → i ≠ j → i < ops.size → j < ops.size → bef ops i j = false → bef ops j i = false → (¬ L j ∨ H (j + 1) = H j) ∧ ∀ id, W i id → ¬ D j id
  wlt : ∀ k i, W k i → i < (H k).n
  edge : ∀ k o e, ops[k]? = some o → e ∈ o.after → Region.binds .any e = true → e.on < k
  opds : opsOk P ops = true
section
variable {P : Program} {ops : Array Oper} {T : Nat → List Value} {H : Nat → AHeap} {V : Nat → Value} {D W : Nat → Nat → Prop} {L : Nat → Prop}
theorem Trace.fr (t : Trace P ops T H V D W L) {k : Nat} (hk : k < ops.size) : AFr (W k) (H k) (H (k + 1)) := by
  rcases t.step k ops[k] (by simp [hk]) with ⟨_, h⟩ | ⟨_, _, h⟩
  · exact h.fr
  · rw [h]; exact .refl _ _
theorem Trace.n (t : Trace P ops T H V D W L) {a b : Nat} (hab : a ≤ b) (hb : b ≤ ops.size) : (H a).n ≤ (H b).n := by
  induction hab with
  | refl => exact Nat.le_refl _
  | @step b hab ih => exact Nat.le_trans (ih (by omega)) (t.fr (by omega)).n
theorem Trace.typ (t : Trace P ops T H V D W L) {a b : Nat} (hab : a ≤ b) (hb : b ≤ ops.size) {i : Nat} {c : List Value} {ty : TypeId} (hi : i < (H a).n) (h : (H b).get i = some (.cells c ty)) : ∃ c₀, (H a).get i = some (.cells c₀ ty) ∧ c₀.length = c.length := by
  induction hab generalizing c with
  | refl => exact ⟨c, h, rfl⟩
  | @step b hab ih =>
    obtain ⟨c₁, h1, h2⟩ := (t.fr (k := b) (by omega)).typ i c ty (Nat.lt_of_lt_of_le hi (t.n hab (by omega))) h
    obtain ⟨c₀, h3, h4⟩ := ih (by omega) h1
    exact ⟨c₀, h3, h4.trans h2⟩
theorem Trace.alive (t : Trace P ops T H V D W L) {a b : Nat} (hab : a ≤ b) (hb : b ≤ ops.size) {i : Nat} (hi : i < (H a).n) (h : (H b).get i ≠ none) : (H a).get i ≠ none := by
  induction hab with
  | refl => exact h
  | @step b hab ih => exact ih (by omega) ((t.fr (k := b) (by omega)).alive i (Nat.lt_of_lt_of_le hi (t.n hab (by omega))) h)
theorem Trace.liveT (t : Trace P ops T H V D W L) {a b : Nat} (hab : a ≤ b) (hb : b ≤ ops.size) {i : Nat} (hi : i < (H a).n) (h : (H b).live i) : (H a).live i := by
  induction hab with
  | refl => exact h
  | @step b hab ih => exact ih (by omega) ((t.fr (k := b) (by omega)).live i (Nat.lt_of_lt_of_le hi (t.n hab (by omega))) h)
theorem Trace.roT (t : Trace P ops T H V D W L) {a b : Nat} (hab : a ≤ b) (hb : b ≤ ops.size) {i : Nat} {c : List Value} (hi : i < (H a).n) (h : (H b).get i = some (.ro c)) : (H a).get i = some (.ro c) := by
  induction hab with
  | refl => exact h
  | @step b hab ih => exact ih (by omega) ((t.fr (k := b) (by omega)).roT i c (Nat.lt_of_lt_of_le hi (t.n hab (by omega))) h)
theorem Trace.same (t : Trace P ops T H V D W L) {a b : Nat} (hab : a ≤ b) (hb : b ≤ ops.size) {i : Nat} (hi : i < (H a).n) (h : ∀ k, a ≤ k → k < b → L k → ¬ W k i) : (H b).get i = (H a).get i := by
  induction hab with
  | refl => rfl
  | @step b hab ih =>
    have hlt := Nat.lt_of_lt_of_le hi (t.n hab (by omega))
    rw [(t.fr (k := b) (by omega)).get i hlt ?_, ih (by omega) fun k h1 h2 => h k h1 (by omega)]
    by_cases hl : L b
    · exact h b hab (by omega) hl
    · intro hw; have := t.own b hl i hw; omega
theorem Trace.tmLen (t : Trace P ops T H V D W L) {a b : Nat} (hab : a ≤ b) (hb : b ≤ ops.size) : (T b).length = (T a).length := by
  induction hab with
  | refl => rfl
  | @step b hab ih =>
    rw [t.tm b ops[b] (by simp), ← ih (by omega)]
    unfold putT
    split <;> simp
theorem Trace.tmSame (t : Trace P ops T H V D W L) {a b : Nat} (hab : a ≤ b) (hb : b ≤ ops.size) {q : Nat} (h : ∀ k o, a ≤ k → k < b → ops[k]? = some o → o.dst ≠ some q) : (T b).getD q undef = (T a).getD q undef := by
  induction hab with
  | refl => rfl
  | @step b hab ih =>
    rw [t.tm b ops[b] (by simp), ← ih (by omega) fun k o h1 h2 => h k o h1 (by omega)]
    have := h b ops[b] hab (by omega) (by simp)
    unfold putT
    split
    · rename_i d hd
      have hne : d ≠ q := fun e => this (by rw [hd, e])
      simp [List.getElem?_set_ne hne]
    · rfl
def lst (listed : Array Bool) (i : Nat) : Prop := listed.getD i false = true
def CurT (ops : Array Oper) (listed : Array Bool) (k q : Nat) : Prop := (∀ i o, i < k → ops[i]? = some o → o.dst = some q → lst listed i) ∧ (∀ i o, k ≤ i → ops[i]? = some o → o.dst = some q → ¬ lst listed i)
def CurH (ops : Array Oper) (W : Nat → Nat → Prop) (L : Nat → Prop) (listed : Array Bool) (k id : Nat) : Prop := (∀ i, i < k → L i → W i id → lst listed i) ∧ (∀ i, k ≤ i → i < ops.size → L i → W i id → ¬ lst listed i)
structure Inv (P : Program) (ops : Array Oper) (T : Nat → List Value) (H : Nat → AHeap) (W : Nat → Nat → Prop) (L : Nat → Prop) (Wt : Nat → Prop) (m₀ : Mp) (w₀ : World) (ds : List Deferred) (listed : Array Bool) (m : Mp) (A : Act) (w : World) : Prop where
  sz : listed.size = ops.size
  down : ∀ i j, lst listed j → bef ops i j = true → lst listed i
  m1 : ∀ id, id < (H 0).n ∨ (H ops.size).n ≤ id → m id = m₀ id
  m2 : ∀ k, k < ops.size → ¬ lst listed k → ∀ id, (H k).n ≤ id → id < (H (k + 1)).n → m id = none
  df : A.defers = ds
  tl : A.tmps.size = (T 0).length
  tv : ∀ k q, k ≤ ops.size → CurT ops listed k q → VRel m ((T k).getD q undef) (A.tmps.getD q undef)
  lt : ∀ i l, m i = some l → l.b < w.heap.size
  typ : ∀ k, k ≤ ops.size → ∀ i l c t, m i = some l → (H k).get i = some (.cells c t) → sizeT P t = some l.sz ∧ c.length = l.A
  inj : ∀ k, k ≤ ops.size → ∀ i j l l', m i = some l → m j = some l' → (H k).get i ≠ none → (H k).live j → l.b = l'.b → i = j
  roS : ∀ k, k ≤ ops.size → ∀ i l c, m i = some l → (H k).get i = some (.ro c) → l.slk = 0
  inj2 : ∀ k, k < ops.size → L k → ¬ lst listed k → ∀ i l j l', (H k).live i → m i = some l → m j = some l' → (H (k + 1)).n ≤ j → j < (H ops.size).n → l.b ≠ l'.b
  obj : ∀ k, k ≤ ops.size → ∀ i l o, CurH ops W L listed k i → m i = some l → (H k).get i = some o → ∃ o', w.heap[l.b]? = some o' ∧ ORel P m l o o'
  new : ∀ i l, (H 0).n ≤ i → i < (H ops.size).n → m i = some l → w₀.heap.size ≤ l.b ∨ ∃ j k, j < (H 0).n ∧ Wt j ∧ (H 0).live j ∧ m₀ j = some k ∧ k.b = l.b
  keep : ∀ b, b < w₀.heap.size → (∀ j k, j < (H 0).n → Wt j → (H 0).live j → m₀ j = some k → k.b ≠ b) → w.heap[b]? = w₀.heap[b]?
  size : w₀.heap.size ≤ w.heap.size
  os : w.os = w₀.os
  tape : w.tape = w₀.tape
  output : w.output = w₀.output
end
end Go.Proofs.Ytmelgnpogdilgaa
