/- An abstract heap with canonical block numbers, and its relation to the model's memory: no conditions. -/
import Derived.RangeFuncIn
import Derived.OrdersIn
import Derived.DefersIn
import Derived.WalkKit
namespace Go.Proofs.Ytmelgnpogdilgaa
set_option linter.unusedVariables false

/-- What lies in a block. -/
inductive AObj where
  | cells (c : List Value) (t : TypeId)
  | ro (c : List Value)
  | map (es : Array MapEntry) (clock : Nat)
  | iter (s : ByteArray) (pos : Nat)
  | loop (st : LoopState) (pending : Option Code) (tm : List Value) (params : Array Tmp) (assign body : Code) (df : Nat)
  | deferred (live : Bool)

inductive Tr where
  | nil
  | node (v : Option AObj) (l r : Tr)
def Tr.get : Tr → Nat → Option AObj
  | .nil, _ => none
  | .node v l r, i => match i with
    | 0 => v
    | k + 1 => match k % 2 with
      | 0 => l.get (k / 2)
      | _ => r.get (k / 2)
def Tr.val : Tr → Option AObj
  | .nil => none
  | .node v _ _ => v
def Tr.left : Tr → Tr
  | .nil => .nil
  | .node _ l _ => l
def Tr.right : Tr → Tr
  | .nil => .nil
  | .node _ _ r => r
def Tr.setF : Nat → Tr → Nat → Option AObj → Tr
  | 0, t, _, _ => t
  | f + 1, t, i, o => match i with
    | 0 => .node o t.left t.right
    | k + 1 => match k % 2 with
      | 0 => .node t.val (Tr.setF f t.left (k / 2) o) t.right
      | _ => .node t.val t.left (Tr.setF f t.right (k / 2) o)
theorem Tr.get_zero (t : Tr) : t.get 0 = t.val := by cases t <;> rfl
theorem Tr.get_succ (t : Tr) (k : Nat) : t.get (k + 1) = if k % 2 = 0 then t.left.get (k / 2) else t.right.get (k / 2) := by
  cases t with
  | nil => simp [Tr.get, Tr.left, Tr.right]
  | node v l r =>
    simp only [Tr.get, Tr.left, Tr.right]
    rcases Nat.mod_two_eq_zero_or_one k with h | h <;> simp [h]
theorem Tr.setF_succ (f : Nat) (t : Tr) (k : Nat) (o : Option AObj) : Tr.setF (f + 1) t (k + 1) o = if k % 2 = 0 then .node t.val (Tr.setF f t.left (k / 2) o) t.right else .node t.val t.left (Tr.setF f t.right (k / 2) o) := by
  simp only [Tr.setF]
  rcases Nat.mod_two_eq_zero_or_one k with h | h <;> simp [h]
theorem Tr.get_setF (o : Option AObj) : ∀ (f : Nat) (t : Tr) (i j : Nat), i < f → (Tr.setF f t i o).get j = if i = j then o else t.get j := by
  intro f
  induction f with
  | zero => intro t i j h; omega
  | succ f ih =>
    intro t i j h
    cases i with
    | zero =>
      cases j with
      | zero => simp [Tr.setF, Tr.get_zero, Tr.val]
      | succ j => rw [if_neg (by omega), Tr.get_succ, Tr.get_succ]; rfl
    | succ k =>
      rw [Tr.setF_succ]
      cases j with
      | zero =>
        have e : ¬ k + 1 = 0 := by omega
        rw [if_neg e, Tr.get_zero, Tr.get_zero]
        by_cases hk : k % 2 = 0
        · rw [if_pos hk]; rfl
        · rw [if_neg hk]; rfl
      | succ j =>
        rw [Tr.get_succ, Tr.get_succ t j]
        by_cases hk : k % 2 = 0
        · rw [if_pos hk]
          by_cases hj : j % 2 = 0
          · rw [if_pos hj, if_pos hj]
            simp only [Tr.left]
            rw [ih _ _ _ (by omega)]
            by_cases e : k = j
            · subst e; simp
            · rw [if_neg (by omega), if_neg (by omega)]
          · rw [if_neg hj, if_neg hj, if_neg (by omega)]; rfl
        · rw [if_neg hk]
          by_cases hj : j % 2 = 0
          · rw [if_pos hj, if_pos hj, if_neg (by omega)]; rfl
          · rw [if_neg hj, if_neg hj]
            simp only [Tr.right]
            rw [ih _ _ _ (by omega)]
            by_cases e : k = j
            · subst e; simp
            · rw [if_neg (by omega), if_neg (by omega)]

/-- A heap: the blocks below 'n'. -/
structure AHeap where
  n : Nat
  t : Tr
def AHeap.get (h : AHeap) (i : Nat) : Option AObj := if i < h.n then h.t.get i else none
def AHeap.put (h : AHeap) (i : Nat) (o : Option AObj) : AHeap := { h with t := Tr.setF (i + 1) h.t i o }
def AHeap.push (h : AHeap) (o : AObj) : AHeap := { n := h.n + 1, t := Tr.setF (h.n + 1) h.t h.n (some o) }
/-- The cells that may be read. -/
def rowOf : Option AObj → Option (List Value)
  | some (.cells c _) => some c
  | some (.ro c) => some c
  | _ => none
theorem rowOf_inv {o : Option AObj} {c : List Value} (h : rowOf o = some c) : (∃ t, o = some (.cells c t)) ∨ o = some (.ro c) := by
  unfold rowOf at h
  split at h
  · cases h; exact .inl ⟨_, rfl⟩
  · cases h; exact .inr rfl
  · cases h
def AObj.isRo : AObj → Bool
  | .ro _ => true
  | _ => false
/-- A block that may be written. -/
def AHeap.live (h : AHeap) (i : Nat) : Prop := ∃ o, h.get i = some o ∧ o.isRo = false
theorem AHeap.live.ne {h : AHeap} {i : Nat} (k : h.live i) : h.get i ≠ none := by obtain ⟨o, e, _⟩ := k; rw [e]; simp
theorem AHeap.live_of {h : AHeap} {i : Nat} {o : AObj} (e : h.get i = some o) (k : o.isRo = false) : h.live i := ⟨o, e, k⟩
theorem AHeap.live_eq {h h' : AHeap} {i : Nat} (e : h'.get i = h.get i) (k : h'.live i) : h.live i := by obtain ⟨o, a, b⟩ := k; exact ⟨o, by rw [← e]; exact a, b⟩
theorem AHeap.lt {h : AHeap} {i : Nat} {o : AObj} (e : h.get i = some o) : i < h.n := by
  unfold AHeap.get at e
  split at e
  · assumption
  · cases e
theorem AHeap.get_out {h : AHeap} {i : Nat} (e : h.n ≤ i) : h.get i = none := by
  unfold AHeap.get
  rw [if_neg (by omega)]
theorem AHeap.get_put (h : AHeap) (i j : Nat) (o : Option AObj) : (h.put i o).get j = if i = j then (if i < h.n then o else none) else h.get j := by
  simp only [AHeap.get, AHeap.put]
  rw [Tr.get_setF o _ _ _ _ (by omega)]
  by_cases e : i = j
  · subst e; simp
  · simp [e]
theorem AHeap.get_push (h : AHeap) (j : Nat) (o : AObj) : (h.push o).get j = if h.n = j then some o else h.get j := by
  show (if j < h.n + 1 then (Tr.setF (h.n + 1) h.t h.n (some o)).get j else none) = if h.n = j then some o else if j < h.n then h.t.get j else none
  rw [Tr.get_setF (some o) _ _ _ _ (by omega)]
  by_cases e : h.n = j
  · subst e; simp
  · by_cases h1 : j < h.n
    · have h2 : j < h.n + 1 := by omega
      simp [e, h1, h2]
    · have h2 : ¬ j < h.n + 1 := by omega
      simp [e, h1, h2]
@[simp] theorem AHeap.n_put (h : AHeap) (i : Nat) (o : Option AObj) : (h.put i o).n = h.n := rfl
@[simp] theorem AHeap.n_push (h : AHeap) (o : AObj) : (h.push o).n = h.n + 1 := rfl
theorem AHeap.get_put_same (h : AHeap) {i : Nat} (hi : i < h.n) (o : Option AObj) : (h.put i o).get i = o := by simp [AHeap.get_put, hi]
theorem AHeap.get_put_none (h : AHeap) (i : Nat) : (h.put i none).get i = none := by simp [AHeap.get_put]
theorem AHeap.get_put_ne (h : AHeap) {i j : Nat} (o : Option AObj) (e : i ≠ j) : (h.put i o).get j = h.get j := by simp [AHeap.get_put, e]
@[simp] theorem AHeap.get_push_same (h : AHeap) (o : AObj) : (h.push o).get h.n = some o := by simp [AHeap.get_push]
theorem AHeap.get_push_ne (h : AHeap) {j : Nat} (o : AObj) (e : h.n ≠ j) : (h.push o).get j = h.get j := by simp [AHeap.get_push, e]

/-- Where a block lies in the model's memory: block 'b', moved by 'sh' cells; an element has 'sz' cells, 'A' cells are told, there may be room for 'slk' elements more. -/
structure Loc where
  b : Nat
  sh : Nat
  sz : Nat
  A : Nat
  slk : Nat
abbrev Mp := Nat → Option Loc
def CapOk (l : Loc) (o cap cap' : Nat) : Prop := cap' = cap ∨ (o + cap * l.sz = l.A ∧ cap' = cap + l.slk)

/-- The same value, where blocks have other numbers. -/
inductive VRel (m : Mp) : Value → Value → Prop
  | bool (b : Bool) : VRel m (.bool b) (.bool b)
  | int (k : IntKind) (n : Int) : VRel m (.int k n) (.int k n)
  | float (k : FloatKind) (n : Nat) : VRel m (.float k n) (.float k n)
  | complex (k : FloatKind) (a b : Nat) : VRel m (.complex k a b) (.complex k a b)
  | string (s : ByteArray) : VRel m (.string s) (.string s)
  | pnil : VRel m (.pointer none) (.pointer none)
  | ptr {i o : Nat} {l : Loc} (h : m i = some l) : VRel m (.pointer (some ⟨i, o, none⟩)) (.pointer (some ⟨l.b, o + l.sh, none⟩))
  | snil : VRel m (.slice none 0 0) (.slice none 0 0)
  | slice {i o len cap cap' : Nat} {l : Loc} (h : m i = some l) (hc : CapOk l o cap cap') : VRel m (.slice (some ⟨i, o, none⟩) len cap) (.slice (some ⟨l.b, o + l.sh, none⟩) len cap')
  | slice0 (i o : Nat) (a : Addr) : VRel m (.slice (some ⟨i, o, none⟩) 0 0) (.slice (some a) 0 0)
  | mnil : VRel m (.map none) (.map none)
  | map {r : Nat} {l : Loc} (h : m r = some l) : VRel m (.map (some r)) (.map (some l.b))
  | func {fn : Fn} {a b a' b' : Array Value} (hf : ∀ r, fn ≠ .yield r) (h1 : a.size = a'.size) (h2 : b.size = b'.size) (h3 : ∀ (i : Nat) v v', a[i]? = some v → a'[i]? = some v' → VRel m v v') (h4 : ∀ (i : Nat) v v', b[i]? = some v → b'[i]? = some v' → VRel m v v') : VRel m (.func fn a b) (.func fn a' b')
  | yield {r : Nat} {l : Loc} (h : m r = some l) : VRel m (.func (.yield r) #[] #[]) (.func (.yield l.b) #[] #[])
  | nilFunc : VRel m .nilFunc .nilFunc
  | iface (t : TypeId) {v v' : Value} (h : VRel m v v') : VRel m (.iface t v) (.iface t v')
  | nilIface : VRel m .nilIface .nilIface
  | agg {a a' : Array Value} (h1 : a.size = a'.size) (h3 : ∀ (i : Nat) v v', a[i]? = some v → a'[i]? = some v' → VRel m v v') : VRel m (.agg a) (.agg a')
  | tuple {a a' : Array Value} (h1 : a.size = a'.size) (h3 : ∀ (i : Nat) v v', a[i]? = some v → a'[i]? = some v' → VRel m v v') : VRel m (.tuple a) (.tuple a')

def Mp.le (m m' : Mp) : Prop := ∀ i l, m i = some l → m' i = some l
theorem Mp.le.refl (m : Mp) : m.le m := fun _ _ h => h
theorem Mp.le.trans {a b c : Mp} (h : a.le b) (k : b.le c) : a.le c := fun i l e => k i l (h i l e)
theorem VRel.mono {m m' : Mp} (hm : m.le m') {v v' : Value} (h : VRel m v v') : VRel m' v v' := by
  induction h with
  | bool b => exact .bool b
  | int k n => exact .int k n
  | float k n => exact .float k n
  | complex k a b => exact .complex k a b
  | string s => exact .string s
  | pnil => exact .pnil
  | ptr h => exact .ptr (hm _ _ h)
  | snil => exact .snil
  | slice h hc => exact .slice (hm _ _ h) hc
  | slice0 i o a => exact .slice0 i o a
  | mnil => exact .mnil
  | map h => exact .map (hm _ _ h)
  | func hf h1 h2 _ _ i3 i4 => exact .func hf h1 h2 i3 i4
  | yield h => exact .yield (hm _ _ h)
  | nilFunc => exact .nilFunc
  | iface t _ ih => exact .iface t ih
  | nilIface => exact .nilIface
  | agg h1 _ ih => exact .agg h1 ih
  | tuple h1 _ ih => exact .tuple h1 ih

/-- Rows of values, one by one. -/
def ARel (m : Mp) (a a' : Array Value) : Prop := a.size = a'.size ∧ ∀ (i : Nat) v v', a[i]? = some v → a'[i]? = some v' → VRel m v v'
theorem ARel.mono {m m' : Mp} (hm : m.le m') {a a' : Array Value} (h : ARel m a a') : ARel m' a a' := ⟨h.1, fun i v v' e e' => (h.2 i v v' e e').mono hm⟩
theorem ARel.get {m : Mp} {a a' : Array Value} (h : ARel m a a') {i : Nat} {v : Value} (e : a[i]? = some v) : ∃ v', a'[i]? = some v' ∧ VRel m v v' := by
  have hi : i < a'.size := by rw [← h.1]; exact (Array.getElem?_eq_some_iff.1 e).1
  exact ⟨a'[i], by simp [hi], h.2 i v _ e (by simp [hi])⟩
theorem ARel.empty (m : Mp) : ARel m #[] #[] := ⟨rfl, fun i v v' e => by simp at e⟩
theorem ARel.push {m : Mp} {a a' : Array Value} (h : ARel m a a') {v v' : Value} (hv : VRel m v v') : ARel m (a.push v) (a'.push v') := by
  refine ⟨by simp [h.1], fun i u u' e e' => ?_⟩
  rw [Array.getElem?_push] at e e'
  rw [h.1] at e
  split at e
  · rename_i hi; subst hi; simp at e e'; subst e; subst e'; exact hv
  · rename_i hi; rw [if_neg hi] at e'; exact h.2 i u u' e e'
theorem ARel.append {m : Mp} {a a' b b' : Array Value} (h : ARel m a a') (k : ARel m b b') : ARel m (a ++ b) (a' ++ b') := by
  refine ⟨by simp [h.1, k.1], fun i u u' e e' => ?_⟩
  rw [Array.getElem?_append] at e e'
  rw [h.1] at e
  split at e
  · rename_i hi; rw [if_pos hi] at e'; exact h.2 i u u' e e'
  · rename_i hi; rw [if_neg hi] at e'; exact k.2 _ u u' e e'
theorem ARel.extract {m : Mp} {a a' : Array Value} (h : ARel m a a') (s e : Nat) : ARel m (a.extract s e) (a'.extract s e) := by
  refine ⟨by simp [h.1], fun i u u' hu hu' => ?_⟩
  rw [Array.getElem?_extract] at hu hu'
  split at hu
  · split at hu'
    · exact h.2 _ u u' hu hu'
    · cases hu'
  · cases hu
theorem ARel.set {m : Mp} {a a' : Array Value} (h : ARel m a a') (k : Nat) {v v' : Value} (hv : VRel m v v') : ARel m (a.setIfInBounds k v) (a'.setIfInBounds k v') := by
  refine ⟨by simp [h.1], fun i u u' e e' => ?_⟩
  rw [Array.getElem?_setIfInBounds] at e e'
  by_cases hk : k = i
  · subst hk
    rw [if_pos rfl] at e e'
    split at e
    · rw [if_pos (by rw [← h.1]; assumption)] at e'; cases e; cases e'; exact hv
    · cases e
  · rw [if_neg hk] at e e'; exact h.2 i u u' e e'
theorem ARel.getD {m : Mp} {a a' : Array Value} (h : ARel m a a') (i : Nat) : VRel m (a.getD i undef) (a'.getD i undef) := by
  by_cases hi : i < a.size
  · have hi' : i < a'.size := by rw [← h.1]; exact hi
    simp only [Array.getD_eq_getD_getElem?]
    rw [Array.getElem?_eq_getElem hi, Array.getElem?_eq_getElem hi']
    exact h.2 i _ _ (Array.getElem?_eq_getElem hi) (Array.getElem?_eq_getElem hi')
  · have hi' : ¬ i < a'.size := by rw [← h.1]; exact hi
    simp only [Array.getD_eq_getD_getElem?]
    rw [Array.getElem?_eq_none (by omega), Array.getElem?_eq_none (by omega)]
    exact .tuple rfl (fun i v v' e => by simp at e)
theorem ARel.of_map {α : Type} {m : Mp} (xs : Array α) (f g : α → Value) (h : ∀ x ∈ xs, VRel m (f x) (g x)) : ARel m (xs.map f) (xs.map g) := by
  refine ⟨by simp, fun i u u' e e' => ?_⟩
  simp only [Array.getElem?_map, Option.map_eq_some_iff] at e e'
  obtain ⟨x, hx, rfl⟩ := e
  obtain ⟨y, hy, rfl⟩ := e'
  rw [hx] at hy; cases hy
  exact h x (Array.mem_of_getElem? hx)

/-- Values without addresses. -/
def flat0 : Value → Bool
  | .bool _ | .int _ _ | .float _ _ | .complex _ _ _ | .string _ | .nilFunc | .nilIface => true
  | .pointer none | .map none | .slice none 0 0 => true
  | _ => false
def flat1 : Value → Bool
  | .agg a => a.toList.all flat0
  | .iface _ (.agg a) => a.toList.all flat0
  | .iface _ v => flat0 v
  | v => flat0 v
def flatB : Value → Bool
  | .tuple a => a.toList.all flat1
  | v => flat1 v
theorem VRel.of_flat0 (m : Mp) {v : Value} (h : flat0 v = true) : VRel m v v := by
  cases v with
  | bool b => exact .bool _
  | int k n => exact .int _ _
  | float k n => exact .float _ _
  | complex k a b => exact .complex _ _ _
  | string s => exact .string _
  | nilFunc => exact .nilFunc
  | nilIface => exact .nilIface
  | pointer a => cases a with
    | none => exact .pnil
    | some a => simp [flat0] at h
  | map a => cases a with
    | none => exact .mnil
    | some a => simp [flat0] at h
  | slice a len cap =>
    cases a with
    | none =>
      cases len with
      | zero => cases cap with
        | zero => exact .snil
        | succ c => simp [flat0] at h
      | succ l => simp [flat0] at h
    | some a => simp [flat0] at h
  | _ => simp [flat0] at h
theorem VRel.flats (m : Mp) {a : Array Value} {p : Value → Bool} (hp : ∀ v, p v = true → VRel m v v) (h : a.toList.all p = true) : ∀ (i : Nat) v v', a[i]? = some v → a[i]? = some v' → VRel m v v' := fun i v v' e e' => by
  rw [e] at e'; cases e'
  exact hp v (List.all_eq_true.1 h v (by simpa using Array.mem_of_getElem? e))
theorem VRel.of_flat1 (m : Mp) {v : Value} (h : flat1 v = true) : VRel m v v := by
  unfold flat1 at h
  split at h
  · exact .agg rfl (VRel.flats m (fun v => VRel.of_flat0 m) h)
  · exact .iface _ (.agg rfl (VRel.flats m (fun v => VRel.of_flat0 m) h))
  · exact .iface _ (VRel.of_flat0 m h)
  · exact VRel.of_flat0 m h
theorem VRel.flat (m : Mp) {v : Value} (h : flatB v = true) : VRel m v v := by
  unfold flatB at h
  split at h
  · exact .tuple rfl (VRel.flats m (fun v => VRel.of_flat1 m) h)
  · exact VRel.of_flat1 m h
/-- What is the same as a value without addresses is that value. -/
theorem VRel.eq_of_flat0 {m : Mp} {v v' : Value} (h : VRel m v v') (hf : flat0 v = true) : v' = v := by
  cases h <;> first | rfl | simp [flat0] at hf
theorem VRel.eq_rows {m : Mp} {a a' : Array Value} {p : Value → Bool} (hp : ∀ v v', VRel m v v' → p v = true → v' = v) (h1 : a.size = a'.size) (h3 : ∀ (i : Nat) v v', a[i]? = some v → a'[i]? = some v' → VRel m v v') (h : a.toList.all p = true) : a' = a := by
  apply Array.ext h1.symm
  intro i hi hi'
  exact hp _ _ (h3 i a[i] a'[i] (by simp [hi']) (by simp [hi])) (List.all_eq_true.1 h _ (by simp))
theorem VRel.eq_of_flat1 {m : Mp} {v v' : Value} (h : VRel m v v') (hf : flat1 v = true) : v' = v := by
  cases h with
  | agg h1 h3 => rw [VRel.eq_rows (fun _ _ => VRel.eq_of_flat0) h1 h3 (by simpa [flat1] using hf)]
  | @iface t v v' h =>
    congr 1
    cases h with
    | agg h1 h3 => rw [VRel.eq_rows (fun _ _ => VRel.eq_of_flat0) h1 h3 (by simpa [flat1] using hf)]
    | _ => first | rfl | simp [flat1, flat0] at hf
  | _ => first | rfl | simp [flat1, flat0] at hf
theorem VRel.eq_of_flat {m : Mp} {v v' : Value} (h : VRel m v v') (hf : flatB v = true) : v' = v := by
  cases h with
  | tuple h1 h3 => rw [VRel.eq_rows (fun _ _ => VRel.eq_of_flat1) h1 h3 (by simpa [flatB] using hf)]
  | agg h1 h3 => exact VRel.eq_of_flat1 (.agg h1 h3) (by simpa [flatB] using hf)
  | iface t h => exact VRel.eq_of_flat1 (.iface t h) (by simpa [flatB] using hf)
  | _ => first | rfl | simp [flatB, flat1, flat0] at hf
end Go.Proofs.Ytmelgnpogdilgaa
