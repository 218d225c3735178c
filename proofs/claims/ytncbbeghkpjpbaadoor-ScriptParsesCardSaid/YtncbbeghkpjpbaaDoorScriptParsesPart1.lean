/- What the law leans on, part 1. No conditions. -/
import Derived.RangeFuncIn
import Derived.OrdersIn
import Derived.DefersIn
import Derived.WalkKit
import Derived.Laws.Append
set_option linter.unusedVariables false
set_option linter.unusedSimpArgs false
namespace Go.Proofs.YtncbbeghkpjpbaaDoor
inductive AObj where
 | cells (c : List Value) (t : TypeId)
 | ro (c : List Value)
 | map (es : Array MapEntry) (clock : Nat)
 | iter (s : ByteArray) (pos : Nat)
 | mit (r : Option Nat) (clock : Nat) (seen : List Nat)
 | loop (st : LoopState) (pending : Option Code) (tm : List Value) (params : Array Tmp) (assign body : Code) (df : Nat)
 | deferred (live : Bool)
inductive Tr where
 | nil
 | node (v : Option AObj) (l r : Tr)
def Tr.get : Tr → Nat → Option AObj
 | .nil, _ => none
 | .node v l r, i => match i with
  | 0 => v
  | k + 1 => match k % 2 with
   | 0 => l.get (k / 2)
   | _ => r.get (k / 2)
def Tr.val : Tr → Option AObj
 | .nil => none
 | .node v _ _ => v
def Tr.left : Tr → Tr
 | .nil => .nil
 | .node _ l _ => l
def Tr.right : Tr → Tr
 | .nil => .nil
 | .node _ _ r => r
def Tr.setF : Nat → Tr → Nat → Option AObj → Tr
 | 0, t, _, _ => t
 | f + 1, t, i, o => match i with
  | 0 => .node o t.left t.right
  | k + 1 => match k % 2 with
   | 0 => .node t.val (Tr.setF f t.left (k / 2) o) t.right
   | _ => .node t.val t.left (Tr.setF f t.right (k / 2) o)
theorem Tr.get_zero (t : Tr) : t.get 0 = t.val := by cases t <;> rfl
theorem Tr.get_succ (t : Tr) (k : Nat) : t.get (k + 1) = if k % 2 = 0 then t.left.get (k / 2) else t.right.get (k / 2) := by
 cases t with
 | nil => simp [Tr.get, Tr.left, Tr.right]
 | node v l r =>
  simp only [Tr.get, Tr.left, Tr.right]
  rcases Nat.mod_two_eq_zero_or_one k with h | h <;> simp [h]
theorem Tr.setF_succ (f : Nat) (t : Tr) (k : Nat) (o : Option AObj) : Tr.setF (f + 1) t (k + 1) o = if k % 2 = 0 then .node t.val (Tr.setF f t.left (k / 2) o) t.right else .node t.val t.left (Tr.setF f t.right (k / 2) o) := by
 simp only [Tr.setF]
 rcases Nat.mod_two_eq_zero_or_one k with h | h <;> simp [h]
theorem Tr.get_setF (o : Option AObj) : ∀ (f : Nat) (t : Tr) (i j : Nat), i < f → (Tr.setF f t i o).get j = if i = j then o else t.get j := by
 intro f
 induction f with
 | zero => intro t i j h; omega
 | succ f ih =>
  intro t i j h
  cases i with
  | zero =>
   cases j with
   | zero => simp [Tr.setF, Tr.get_zero, Tr.val]
   | succ j => rw [if_neg (by omega), Tr.get_succ, Tr.get_succ]; rfl
  | succ k =>
   rw [Tr.setF_succ]
   cases j with
   | zero =>
    have e : ¬ k + 1 = 0 := by omega
    rw [if_neg e, Tr.get_zero, Tr.get_zero]
    by_cases hk : k % 2 = 0
    · rw [if_pos hk]; rfl
    · rw [if_neg hk]; rfl
   | succ j =>
    rw [Tr.get_succ, Tr.get_succ t j]
    by_cases hk : k % 2 = 0
    ·
     rw [if_pos hk]
     by_cases hj : j % 2 = 0
     ·
      rw [if_pos hj, if_pos hj]
      simp only [Tr.left]
      rw [ih _ _ _ (by omega)]
      by_cases e : k = j
      · subst e; simp
      · rw [if_neg (by omega), if_neg (by omega)]
     · rw [if_neg hj, if_neg hj, if_neg (by omega)]; rfl
    ·
     rw [if_neg hk]
     by_cases hj : j % 2 = 0
     · rw [if_pos hj, if_pos hj, if_neg (by omega)]; rfl
     ·
      rw [if_neg hj, if_neg hj]
      simp only [Tr.right]
      rw [ih _ _ _ (by omega)]
      by_cases e : k = j
      · subst e; simp
      · rw [if_neg (by omega), if_neg (by omega)]
structure AHeap where
 n : Nat
 t : Tr
def AHeap.get (h : AHeap) (i : Nat) : Option AObj := if i < h.n then h.t.get i else none
def AHeap.put (h : AHeap) (i : Nat) (o : Option AObj) : AHeap := { h with t := Tr.setF (i + 1) h.t i o }
def AHeap.push (h : AHeap) (o : AObj) : AHeap := { n := h.n + 1, t := Tr.setF (h.n + 1) h.t h.n (some o) }
def rowOf : Option AObj → Option (List Value)
 | some (.cells c _) => some c
 | some (.ro c) => some c
 | _ => none
theorem rowOf_inv {o : Option AObj} {c : List Value} (h : rowOf o = some c) : (∃ t, o = some (.cells c t)) ∨ o = some (.ro c) := by
 unfold rowOf at h
 split at h
 · cases h; exact .inl ⟨_, rfl⟩
 · cases h; exact .inr rfl
 · cases h
def AObj.isRo : AObj → Bool
 | .ro _ => true
 | _ => false
def AHeap.live (h : AHeap) (i : Nat) : Prop := ∃ o, h.get i = some o ∧ o.isRo = false
theorem AHeap.live.ne {h : AHeap} {i : Nat} (k : h.live i) : h.get i ≠ none := by obtain ⟨o, e, _⟩ := k; rw [e]; simp
theorem AHeap.live_of {h : AHeap} {i : Nat} {o : AObj} (e : h.get i = some o) (k : o.isRo = false) : h.live i := ⟨o, e, k⟩
theorem AHeap.live_eq {h h' : AHeap} {i : Nat} (e : h'.get i = h.get i) (k : h'.live i) : h.live i := by obtain ⟨o, a, b⟩ := k; exact ⟨o, by rw [← e]; exact a, b⟩
theorem AHeap.lt {h : AHeap} {i : Nat} {o : AObj} (e : h.get i = some o) : i < h.n := by
 unfold AHeap.get at e
 split at e
 · assumption
 · cases e
theorem AHeap.get_out {h : AHeap} {i : Nat} (e : h.n ≤ i) : h.get i = none := by
 unfold AHeap.get
 rw [if_neg (by omega)]
theorem AHeap.get_put (h : AHeap) (i j : Nat) (o : Option AObj) : (h.put i o).get j = if i = j then (if i < h.n then o else none) else h.get j := by
 simp only [AHeap.get, AHeap.put]
 rw [Tr.get_setF o _ _ _ _ (by omega)]
 by_cases e : i = j
 · subst e; simp
 · simp [e]
theorem AHeap.get_push (h : AHeap) (j : Nat) (o : AObj) : (h.push o).get j = if h.n = j then some o else h.get j := by
 show (if j < h.n + 1 then (Tr.setF (h.n + 1) h.t h.n (some o)).get j else none) = if h.n = j then some o else if j < h.n then h.t.get j else none
 rw [Tr.get_setF (some o) _ _ _ _ (by omega)]
 by_cases e : h.n = j
 · subst e; simp
 ·
  by_cases h1 : j < h.n
  ·
   have h2 : j < h.n + 1 := by omega
   simp [e, h1, h2]
  ·
   have h2 : ¬ j < h.n + 1 := by omega
   simp [e, h1, h2]
@[simp] theorem AHeap.n_put (h : AHeap) (i : Nat) (o : Option AObj) : (h.put i o).n = h.n := rfl
@[simp] theorem AHeap.n_push (h : AHeap) (o : AObj) : (h.push o).n = h.n + 1 := rfl
theorem AHeap.get_put_same (h : AHeap) {i : Nat} (hi : i < h.n) (o : Option AObj) : (h.put i o).get i = o := by simp [AHeap.get_put, hi]
theorem AHeap.get_put_none (h : AHeap) (i : Nat) : (h.put i none).get i = none := by simp [AHeap.get_put]
theorem AHeap.get_put_ne (h : AHeap) {i j : Nat} (o : Option AObj) (e : i ≠ j) : (h.put i o).get j = h.get j := by simp [AHeap.get_put, e]
@[simp] theorem AHeap.get_push_same (h : AHeap) (o : AObj) : (h.push o).get h.n = some o := by simp [AHeap.get_push]
theorem AHeap.get_push_ne (h : AHeap) {j : Nat} (o : AObj) (e : h.n ≠ j) : (h.push o).get j = h.get j := by simp [AHeap.get_push, e]
structure Loc where
 b : Nat
 sh : Nat
 sz : Nat
 A : Nat
 slk : Nat
abbrev Mp := Nat → Option Loc
def CapOk (l : Loc) (o cap cap' : Nat) : Prop := cap' = cap ∨ (o + cap * l.sz = l.A ∧ cap' = cap + l.slk)
inductive VRel (m : Mp) : Value → Value → Prop
 | bool (b : Bool) : VRel m (.bool b) (.bool b)
 | int (k : IntKind) (n : Int) : VRel m (.int k n) (.int k n)
 | float (k : FloatKind) (n : Nat) : VRel m (.float k n) (.float k n)
 | complex (k : FloatKind) (a b : Nat) : VRel m (.complex k a b) (.complex k a b)
 | string (s : ByteArray) : VRel m (.string s) (.string s)
 | pnil : VRel m (.pointer none) (.pointer none)
 | ptr {i o : Nat} {l : Loc} (h : m i = some l) : VRel m (.pointer (some ⟨i, o, none⟩)) (.pointer (some ⟨l.b, o + l.sh, none⟩))
 | snil : VRel m (.slice none 0 0) (.slice none 0 0)
 | slice {i o len cap cap' : Nat} {l : Loc} (h : m i = some l) (hc : CapOk l o cap cap') : VRel m (.slice (some ⟨i, o, none⟩) len cap) (.slice (some ⟨l.b, o + l.sh, none⟩) len cap')
 | slice0 (i o : Nat) (a : Addr) : VRel m (.slice (some ⟨i, o, none⟩) 0 0) (.slice (some a) 0 0)
 | mnil : VRel m (.map none) (.map none)
 | map {r : Nat} {l : Loc} (h : m r = some l) : VRel m (.map (some r)) (.map (some l.b))
 | func {fn : Fn} {a b a' b' : Array Value} (hf : ∀ r, fn ≠ .yield r) (h1 : a.size = a'.size) (h2 : b.size = b'.size) (h3 : ∀ (i : Nat) v v', a[i]? = some v → a'[i]? = some v' → VRel m v v') (h4 : ∀ (i : Nat) v v', b[i]? = some v → b'[i]? = some v' → VRel m v v') : VRel m (.func fn a b) (.func fn a' b')
 | yield {r : Nat} {l : Loc} (h : m r = some l) : VRel m (.func (.yield r) #[] #[]) (.func (.yield l.b) #[] #[])
 | nilFunc : VRel m .nilFunc .nilFunc
 | iface (t : TypeId) {v v' : Value} (h : VRel m v v') : VRel m (.iface t v) (.iface t v')
 | nilIface : VRel m .nilIface .nilIface
 | agg {a a' : Array Value} (h1 : a.size = a'.size) (h3 : ∀ (i : Nat) v v', a[i]? = some v → a'[i]? = some v' → VRel m v v') : VRel m (.agg a) (.agg a')
 | tuple {a a' : Array Value} (h1 : a.size = a'.size) (h3 : ∀ (i : Nat) v v', a[i]? = some v → a'[i]? = some v' → VRel m v v') : VRel m (.tuple a) (.tuple a')
def Mp.le (m m' : Mp) : Prop := ∀ i l, m i = some l → m' i = some l
theorem Mp.le.refl (m : Mp) : m.le m := fun _ _ h => h
theorem Mp.le.trans {a b c : Mp} (h : a.le b) (k : b.le c) : a.le c := fun i l e => k i l (h i l e)
theorem VRel.mono {m m' : Mp} (hm : m.le m') {v v' : Value} (h : VRel m v v') : VRel m' v v' := by
 induction h with
 | bool b => exact .bool b
 | int k n => exact .int k n
 | float k n => exact .float k n
 | complex k a b => exact .complex k a b
 | string s => exact .string s
 | pnil => exact .pnil
 | ptr h => exact .ptr (hm _ _ h)
 | snil => exact .snil
 | slice h hc => exact .slice (hm _ _ h) hc
 | slice0 i o a => exact .slice0 i o a
 | mnil => exact .mnil
 | map h => exact .map (hm _ _ h)
 | func hf h1 h2 _ _ i3 i4 => exact .func hf h1 h2 i3 i4
 | yield h => exact .yield (hm _ _ h)
 | nilFunc => exact .nilFunc
 | iface t _ ih => exact .iface t ih
 | nilIface => exact .nilIface
 | agg h1 _ ih => exact .agg h1 ih
 | tuple h1 _ ih => exact .tuple h1 ih
def ARel (m : Mp) (a a' : Array Value) : Prop := a.size = a'.size ∧ ∀ (i : Nat) v v', a[i]? = some v → a'[i]? = some v' → VRel m v v'
theorem ARel.mono {m m' : Mp} (hm : m.le m') {a a' : Array Value} (h : ARel m a a') : ARel m' a a' := ⟨h.1, fun i v v' e e' => (h.2 i v v' e e').mono hm⟩
theorem ARel.get {m : Mp} {a a' : Array Value} (h : ARel m a a') {i : Nat} {v : Value} (e : a[i]? = some v) : ∃ v', a'[i]? = some v' ∧ VRel m v v' := by
 have hi : i < a'.size := by rw [← h.1]; exact (Array.getElem?_eq_some_iff.1 e).1
 exact ⟨a'[i], by simp [hi], h.2 i v _ e (by simp [hi])⟩
theorem ARel.empty (m : Mp) : ARel m #[] #[] := ⟨rfl, fun i v v' e => by simp at e⟩
theorem ARel.push {m : Mp} {a a' : Array Value} (h : ARel m a a') {v v' : Value} (hv : VRel m v v') : ARel m (a.push v) (a'.push v') := by
 refine ⟨by simp [h.1], fun i u u' e e' => ?_⟩
 rw [Array.getElem?_push] at e e'
 rw [h.1] at e
 split at e
 · rename_i hi; subst hi; simp at e e'; subst e; subst e'; exact hv
 · rename_i hi; rw [if_neg hi] at e'; exact h.2 i u u' e e'
theorem ARel.append {m : Mp} {a a' b b' : Array Value} (h : ARel m a a') (k : ARel m b b') : ARel m (a ++ b) (a' ++ b') := by
 refine ⟨by simp [h.1, k.1], fun i u u' e e' => ?_⟩
 rw [Array.getElem?_append] at e e'
 rw [h.1] at e
 split at e
 · rename_i hi; rw [if_pos hi] at e'; exact h.2 i u u' e e'
 · rename_i hi; rw [if_neg hi] at e'; exact k.2 _ u u' e e'
theorem ARel.extract {m : Mp} {a a' : Array Value} (h : ARel m a a') (s e : Nat) : ARel m (a.extract s e) (a'.extract s e) := by
 refine ⟨by simp [h.1], fun i u u' hu hu' => ?_⟩
 rw [Array.getElem?_extract] at hu hu'
 split at hu
 ·
  split at hu'
  · exact h.2 _ u u' hu hu'
  · cases hu'
 · cases hu
theorem ARel.set {m : Mp} {a a' : Array Value} (h : ARel m a a') (k : Nat) {v v' : Value} (hv : VRel m v v') : ARel m (a.setIfInBounds k v) (a'.setIfInBounds k v') := by
 refine ⟨by simp [h.1], fun i u u' e e' => ?_⟩
 rw [Array.getElem?_setIfInBounds] at e e'
 by_cases hk : k = i
 ·
  subst hk
  rw [if_pos rfl] at e e'
  split at e
  · rw [if_pos (by rw [← h.1]; assumption)] at e'; cases e; cases e'; exact hv
  · cases e
 · rw [if_neg hk] at e e'; exact h.2 i u u' e e'
theorem ARel.getD {m : Mp} {a a' : Array Value} (h : ARel m a a') (i : Nat) : VRel m (a.getD i undef) (a'.getD i undef) := by
 by_cases hi : i < a.size
 ·
  have hi' : i < a'.size := by rw [← h.1]; exact hi
  simp only [Array.getD_eq_getD_getElem?]
  rw [Array.getElem?_eq_getElem hi, Array.getElem?_eq_getElem hi']
  exact h.2 i _ _ (Array.getElem?_eq_getElem hi) (Array.getElem?_eq_getElem hi')
 ·
  have hi' : ¬ i < a'.size := by rw [← h.1]; exact hi
  simp only [Array.getD_eq_getD_getElem?]
  rw [Array.getElem?_eq_none (by omega), Array.getElem?_eq_none (by omega)]
  exact .tuple rfl (fun i v v' e => by simp at e)
theorem ARel.of_map {α : Type} {m : Mp} (xs : Array α) (f g : α → Value) (h : ∀ x ∈ xs, VRel m (f x) (g x)) : ARel m (xs.map f) (xs.map g) := by
 refine ⟨by simp, fun i u u' e e' => ?_⟩
 simp only [Array.getElem?_map, Option.map_eq_some_iff] at e e'
 obtain ⟨x, hx, rfl⟩ := e
 obtain ⟨y, hy, rfl⟩ := e'
 rw [hx] at hy; cases hy
 exact h x (Array.mem_of_getElem? hx)
def flat0 : Value → Bool
 | .bool _ | .int _ _ | .float _ _ | .complex _ _ _ | .string _ | .nilFunc | .nilIface => true
 | .pointer none | .map none | .slice none 0 0 => true
 | _ => false
def flat1 : Value → Bool
 | .agg a => a.toList.all flat0
 | .iface _ (.agg a) => a.toList.all flat0
 | .iface _ v => flat0 v
 | v => flat0 v
def flatB : Value → Bool
 | .tuple a => a.toList.all flat1
 | v => flat1 v
theorem VRel.of_flat0 (m : Mp) {v : Value} (h : flat0 v = true) : VRel m v v := by
 cases v with
 | bool b => exact .bool _
 | int k n => exact .int _ _
 | float k n => exact .float _ _
 | complex k a b => exact .complex _ _ _
 | string s => exact .string _
 | nilFunc => exact .nilFunc
 | nilIface => exact .nilIface
 | pointer a => cases a with
  | none => exact .pnil
  | some a => simp [flat0] at h
 | map a => cases a with
  | none => exact .mnil
  | some a => simp [flat0] at h
 | slice a len cap =>
  cases a with
  | none =>
   cases len with
   | zero => cases cap with
    | zero => exact .snil
    | succ c => simp [flat0] at h
   | succ l => simp [flat0] at h
  | some a => simp [flat0] at h
 | _ => simp [flat0] at h
theorem VRel.flats (m : Mp) {a : Array Value} {p : Value → Bool} (hp : ∀ v, p v = true → VRel m v v) (h : a.toList.all p = true) : ∀ (i : Nat) v v', a[i]? = some v → a[i]? = some v' → VRel m v v' := fun i v v' e e' => by
 rw [e] at e'; cases e'
 exact hp v (List.all_eq_true.1 h v (by simpa using Array.mem_of_getElem? e))
theorem VRel.of_flat1 (m : Mp) {v : Value} (h : flat1 v = true) : VRel m v v := by
 unfold flat1 at h
 split at h
 · exact .agg rfl (VRel.flats m (fun v => VRel.of_flat0 m) h)
 · exact .iface _ (.agg rfl (VRel.flats m (fun v => VRel.of_flat0 m) h))
 · exact .iface _ (VRel.of_flat0 m h)
 · exact VRel.of_flat0 m h
theorem VRel.flat (m : Mp) {v : Value} (h : flatB v = true) : VRel m v v := by
 unfold flatB at h
 split at h
 · exact .tuple rfl (VRel.flats m (fun v => VRel.of_flat1 m) h)
 · exact VRel.of_flat1 m h
theorem VRel.eq_of_flat0 {m : Mp} {v v' : Value} (h : VRel m v v') (hf : flat0 v = true) : v' = v := by
 cases h <;> first | rfl | simp [flat0] at hf
theorem VRel.eq_rows {m : Mp} {a a' : Array Value} {p : Value → Bool} (hp : ∀ v v', VRel m v v' → p v = true → v' = v) (h1 : a.size = a'.size) (h3 : ∀ (i : Nat) v v', a[i]? = some v → a'[i]? = some v' → VRel m v v') (h : a.toList.all p = true) : a' = a := by
 apply Array.ext h1.symm
 intro i hi hi'
 exact hp _ _ (h3 i a[i] a'[i] (by simp [hi']) (by simp [hi])) (List.all_eq_true.1 h _ (by simp))
theorem VRel.eq_of_flat1 {m : Mp} {v v' : Value} (h : VRel m v v') (hf : flat1 v = true) : v' = v := by
 cases h with
 | agg h1 h3 => rw [VRel.eq_rows (fun _ _ => VRel.eq_of_flat0) h1 h3 (by simpa [flat1] using hf)]
 | @iface t v v' h =>
  congr 1
  cases h with
  | agg h1 h3 => rw [VRel.eq_rows (fun _ _ => VRel.eq_of_flat0) h1 h3 (by simpa [flat1] using hf)]
  | _ => first | rfl | simp [flat1, flat0] at hf
 | _ => first | rfl | simp [flat1, flat0] at hf
theorem VRel.eq_of_flat {m : Mp} {v v' : Value} (h : VRel m v v') (hf : flatB v = true) : v' = v := by
 cases h with
 | tuple h1 h3 => rw [VRel.eq_rows (fun _ _ => VRel.eq_of_flat1) h1 h3 (by simpa [flatB] using hf)]
 | agg h1 h3 => exact VRel.eq_of_flat1 (.agg h1 h3) (by simpa [flatB] using hf)
 | iface t h => exact VRel.eq_of_flat1 (.iface t h) (by simpa [flatB] using hf)
 | _ => first | rfl | simp [flatB, flat1, flat0] at hf
end Go.Proofs.YtncbbeghkpjpbaaDoor
namespace Go.Proofs.YtncbbeghkpjpbaaDoor
def FzOk (P : Program) (t : TypeId) (n : Nat) (fz : Nat × Nat) : Prop := fz = (0, 0) ∨ (P.underlying t = some (.int .u8) ∧ fz = (n, n + 1))
def SlkOk (l : Loc) (c' : Array Value) : Prop := ∀ j, l.sh + l.A ≤ j → j < l.sh + l.A + l.slk * l.sz → ∃ v, c'[j]? = some v ∧ ∀ m : Mp, VRel m v v
theorem SlkOk.none {l : Loc} (h : l.slk = 0) (c' : Array Value) : SlkOk l c' := fun j a b => by rw [h] at b; omega
def SzOk (l : Loc) (n : Nat) (c' : Array Value) : Prop := n = l.A ∧ l.sh + l.A + l.slk * l.sz ≤ c'.size ∧ SlkOk l c'
def sizeT (P : Program) (t : TypeId) : Option Nat := (P.info? t).map (·.size)
def ERel (m : Mp) (es es' : Array MapEntry) : Prop := es.size = es'.size ∧ ∀ (i : Nat) e e', es[i]? = some e → es'[i]? = some e' → VRel m e.key e'.key ∧ VRel m e.val e'.val ∧ e.born = e'.born
inductive ORel (P : Program) (m : Mp) (l : Loc) : AObj → Obj → Prop
 | cells {c : List Value} {c' : Array Value} {t : TypeId} {fz : Nat × Nat} (hs : SzOk l c.length c') (hf : FzOk P t c'.size fz) (hv : ∀ (i : Nat) v, c[i]? = some v → ∃ v', c'[i + l.sh]? = some v' ∧ VRel m v v') : ORel P m l (.cells c t) (.cells c' t fz)
 | ro {c : List Value} {c' : Array Value} {t : TypeId} {fz : Nat × Nat} (hs : l.slk = 0) (hv : ∀ (i : Nat) v, c[i]? = some v → ∃ v', c'[i + l.sh]? = some v' ∧ VRel m v v') : ORel P m l (.ro c) (.cells c' t fz)
 | map {es es' : Array MapEntry} {k : Nat} (h : ERel m es es') : ORel P m l (.map es k) (.map es' k)
 | iter (hs : l.sh = 0) (s : ByteArray) (pos : Nat) : ORel P m l (.iter s pos) (.stringIter s pos)
 | mit0 (hs : l.sh = 0) : ORel P m l (.mit none 0 []) (.mapIter none 0 #[] 0)
 | mit {r k : Nat} {lr : Loc} {seen : List Nat} (hs : l.sh = 0) (h : m r = some lr) : ORel P m l (.mit (some r) k seen) (.mapIter (some lr.b) k seen.toArray k)
 | loop {st : LoopState} {pe : Option Code} {tm : List Value} {tm' : Array Value} {ps : Array Tmp} {as bo : Code} {df : Nat} {fn : FuncId} {ld : Loc} (h : ARel m tm.toArray tm') (hd : m df = some ld) : ORel P m l (.loop st pe tm ps as bo df) (.loop { state := st, pending := pe, fn := fn, tmps := tm', params := ps, assign := as, body := bo, defers := ld.b })
 | deferred (live : Bool) : ORel P m l (.deferred live) (.deferred (if live then some [] else none))
theorem ORel.mono {P : Program} {m m' : Mp} (hm : m.le m') {l : Loc} {o : AObj} {o' : Obj} (h : ORel P m l o o') : ORel P m' l o o' := by
 cases h with
 | cells hs hf hv => exact .cells hs hf fun i v e => let ⟨v', a, b⟩ := hv i v e; ⟨v', a, b.mono hm⟩
 | ro hs hv => exact .ro hs fun i v e => let ⟨v', a, b⟩ := hv i v e; ⟨v', a, b.mono hm⟩
 | map h => exact .map ⟨h.1, fun i e e' a b => let ⟨x, y, z⟩ := h.2 i e e' a b; ⟨x.mono hm, y.mono hm, z⟩⟩
 | iter hs s pos => exact .iter hs s pos
 | mit0 hs => exact .mit0 hs
 | mit hs h => exact .mit hs (hm _ _ h)
 | loop h hd => exact .loop (h.mono hm) (hm _ _ hd)
 | deferred live => exact .deferred live
def isBu : Value → Bool
 | .agg a => match a.toList with
  | [.pointer _, .slice _ _ _] => true
  | _ => false
 | _ => false
def zOk (z : Value) : Bool := flatB z && !isBu z
theorem zOk.flat {z : Value} (h : zOk z = true) : flatB z = true := by unfold zOk at h; simp at h; exact h.1
theorem zOk.bu {z : Value} (h : zOk z = true) : isBu z = false := by unfold zOk at h; simp at h; exact h.2
def Al (P : Program) (t : TypeId) (l : Loc) : Prop := l.sh = 0 ∨ ∃ z, (P.info? t).bind (·.zero) = some z ∧ isBu z = false
structure HRel (P : Program) (m : Mp) (D : Nat → Prop) (h : AHeap) (w : World) : Prop where
 lt : ∀ i l, m i = some l → l.b < w.heap.size
 typ : ∀ i l c t, m i = some l → h.get i = some (.cells c t) → sizeT P t = some l.sz ∧ c.length = l.A ∧ Al P t l
 inj : ∀ i j l k, m i = some l → m j = some k → h.get i ≠ none → h.live j → l.b = k.b → i = j
 roS : ∀ i l c, m i = some l → h.get i = some (.ro c) → l.slk = 0
 obj : ∀ i l o, D i → m i = some l → h.get i = some o → ∃ o', w.heap[l.b]? = some o' ∧ ORel P m l o o'
def MOk (P : Program) (m : Mp) : Prop := ∀ g, g < P.globals.size → ∃ l, m g = some l ∧ l.b = g ∧ l.sh = 0
theorem MOk.mono {P : Program} {m m' : Mp} (h : MOk P m) (hm : m.le m') : MOk P m' := fun g hg => let ⟨l, a, b⟩ := h g hg; ⟨l, hm _ _ a, b⟩
def Fresh (m : Mp) (h h' : AHeap) : Prop := ∀ i, h.n ≤ i → i < h'.n → m i = none
structure AFr (W : Nat → Prop) (h h' : AHeap) : Prop where
 n : h.n ≤ h'.n
 get : ∀ i, i < h.n → ¬ W i → h'.get i = h.get i
 typ : ∀ i c t, i < h.n → h'.get i = some (.cells c t) → ∃ c₀, h.get i = some (.cells c₀ t) ∧ c₀.length = c.length
 alive : ∀ i, i < h.n → h'.get i ≠ none → h.get i ≠ none
 live : ∀ i, i < h.n → h'.live i → h.live i
 roT : ∀ i c, i < h.n → h'.get i = some (.ro c) → h.get i = some (.ro c)
structure Fr (m m' : Mp) (W : Nat → Prop) (h h' : AHeap) (w w' : World) : Prop where
 old : ∀ i, (i < h.n ∨ h'.n ≤ i) → m' i = m i
 new : ∀ i l, h.n ≤ i → i < h'.n → m' i = some l → w.heap.size ≤ l.b ∨ ∃ j k, j < h.n ∧ W j ∧ h.live j ∧ m j = some k ∧ k.b = l.b
 keep : ∀ b, b < w.heap.size → (∀ j k, j < h.n → W j → h.live j → m j = some k → k.b ≠ b) → w'.heap[b]? = w.heap[b]?
 size : w.heap.size ≤ w'.heap.size
 os : w'.os = w.os
 tape : w'.tape = w.tape
 output : w'.output = w.output
theorem AFr.refl (W : Nat → Prop) (h : AHeap) : AFr W h h := ⟨Nat.le_refl _, fun _ _ _ => rfl, fun _ c _ _ e => ⟨c, e, rfl⟩, fun _ _ e => e, fun _ _ e => e, fun _ _ _ e => e⟩
theorem AFr.trans {W : Nat → Prop} {a b c : AHeap} (h : AFr W a b) (k : AFr W b c) : AFr W a c :=
 ⟨Nat.le_trans h.n k.n, fun i hi hw => (k.get i (Nat.lt_of_lt_of_le hi h.n) hw).trans (h.get i hi hw), fun i c t hi e => let ⟨c₁, e₁, l₁⟩ := k.typ i c t (Nat.lt_of_lt_of_le hi h.n) e; let ⟨c₂, e₂, l₂⟩ := h.typ i c₁ t hi e₁; ⟨c₂, e₂, l₂.trans l₁⟩, fun i hi e => h.alive i hi (k.alive i (Nat.lt_of_lt_of_le hi h.n) e), fun i hi e => h.live i hi (k.live i (Nat.lt_of_lt_of_le hi h.n) e), fun i c hi e => h.roT i c hi (k.roT i c (Nat.lt_of_lt_of_le hi h.n) e)⟩
theorem AFr.weak {W W' : Nat → Prop} {a b : AHeap} (h : AFr W a b) (hw : ∀ i, W i → W' i) : AFr W' a b := ⟨h.n, fun i hi hn => h.get i hi fun e => hn (hw i e), h.typ, h.alive, h.live, h.roT⟩
theorem Fr.refl (m : Mp) (W : Nat → Prop) (h : AHeap) (w : World) : Fr m m W h h w w :=
 ⟨fun _ _ => rfl, fun i l h1 h2 => by omega, fun _ _ _ => rfl, Nat.le_refl _, rfl, rfl, rfl⟩
theorem Fr.drew (m : Mp) (W : Nat → Prop) (h : AHeap) (w : World) (n : Nat) : Fr m m W h h w { w with drawn := n } :=
 ⟨fun _ _ => rfl, fun i l h1 h2 => by omega, fun _ _ _ => rfl, Nat.le_refl _, rfl, rfl, rfl⟩
theorem Fr.le {m m' : Mp} {W : Nat → Prop} {h h' : AHeap} {w w' : World} (f : Fr m m' W h h' w w') (hf : Fresh m h h') : m.le m' := fun i l e => by
 by_cases hi : i < h.n ∨ h'.n ≤ i
 · rw [f.old i hi]; exact e
 · rw [hf i (by omega) (by omega)] at e; cases e
theorem Fr.weak {m m' : Mp} {W W' : Nat → Prop} {h h' : AHeap} {w w' : World} (f : Fr m m' W h h' w w') (hw : ∀ i, W i → W' i) : Fr m m' W' h h' w w' :=
 ⟨f.old, fun i l h1 h2 h3 => (f.new i l h1 h2 h3).imp id fun ⟨j, k, c, a, b⟩ => ⟨j, k, c, hw j a, b⟩, fun b hb hk => f.keep b hb fun j k c a => hk j k c (hw j a), f.size, f.os, f.tape, f.output⟩
theorem Fr.trans {m m₁ m₂ : Mp} {W : Nat → Prop} {h h₁ h₂ : AHeap} {w w₁ w₂ : World} (af : AFr W h h₁) (n2 : h₁.n ≤ h₂.n) (f : Fr m m₁ W h h₁ w w₁) (g : Fr m₁ m₂ W h₁ h₂ w₁ w₂) : Fr m m₂ W h h₂ w w₂ := by
 have n1 := af.n
 exact {
 old := fun i hi => by
  rw [g.old i (by omega), f.old i (by omega)]
 new := fun i l h1 h2 e => by
  by_cases hi : i < h₁.n
  ·
   rw [g.old i (.inl hi)] at e
   exact f.new i l h1 hi e
  ·
   rcases g.new i l (by omega) h2 e with h3 | ⟨j, k, jl, wj, al, mj, e2⟩
   · exact .inl (Nat.le_trans f.size h3)
   ·
    by_cases hj : j < h.n
    · exact .inr ⟨j, k, hj, wj, af.live j hj al, by rw [← f.old j (.inl hj)]; exact mj, e2⟩
    ·
     rcases f.new j k (by omega) jl mj with h4 | ⟨j', k', a, b, c, d, e'⟩
     · exact .inl (by omega)
     · exact .inr ⟨j', k', a, b, c, d, e'.trans e2⟩
 keep := fun b hb hk => by
  rw [g.keep b (Nat.lt_of_lt_of_le hb f.size) ?_, f.keep b hb hk]
  intro j k jl wj al mj e
  by_cases hj : j < h.n
  · exact hk j k hj wj (af.live j hj al) (by rw [← f.old j (.inl hj)]; exact mj) e
  ·
   rcases f.new j k (by omega) jl mj with h4 | ⟨j', k', a, b', c, d, e'⟩
   · omega
   · exact hk j' k' a b' c d (e'.trans e)
 size := Nat.le_trans f.size g.size
 os := g.os.trans f.os
 tape := g.tape.trans f.tape
 output := g.output.trans f.output }
theorem Fresh.left {m : Mp} {h h₁ h₂ : AHeap} (n2 : h₁.n ≤ h₂.n) (hf : Fresh m h h₂) : Fresh m h h₁ := fun i a b => hf i a (Nat.lt_of_lt_of_le b n2)
theorem Fresh.right {m m₁ : Mp} {W : Nat → Prop} {h h₁ h₂ : AHeap} {w w₁ : World} (n1 : h.n ≤ h₁.n) (hf : Fresh m h h₂) (f : Fr m m₁ W h h₁ w w₁) : Fresh m₁ h₁ h₂ := fun i a b => by
 rw [f.old i (.inr a)]; exact hf i (by omega) b
def WF (r : Option Nat) : Fence := { fn := fun _ => True, depth := none, alive := false, round := r }
theorem WF.room (r : Option Nat) (n : Nat) : (WF r).room n := fun _ h => by simp [WF] at h
def evalT (tm : List Value) : Operand → Value
 | .tmp t => tm.getD t undef
 | .const v => v
 | .global g => .pointer (some ⟨g, 0, none⟩)
 | .func f => .func (.func f) #[] #[]
def Ev : Nat → Prop := fun _ => True
structure OpRun (P : Program) (D W : Nat → Prop) (o : Oper) (tm : List Value) (h : AHeap) (v : Value) (h' : AHeap) : Prop where
 fr : AFr W h h'
 run : ∀ (m : Mp) (w : World) (A : Act) (r : Option Nat), MOk P m → Fresh m h h' → (∀ x ∈ o.op.operands, VRel m (evalT tm x) (A.eval x)) → HRel P m D h w →
  ∀ (K : Act → World → Prop) (Q : Exit → Act → World → Prop), (∀ v' w' m', Fr m m' W h h' w w' → VRel m' v v' → HRel P m' D h' w' → K (A.put o.dst v') w') → o.wpIn (WF r) 0 P A w K Q
theorem OpRun.weak {P : Program} {D W W' : Nat → Prop} {o : Oper} {tm : List Value} {h h' : AHeap} {v : Value} (k : OpRun P D W o tm h v h') (hw : ∀ i, W i → W' i) : OpRun P D W' o tm h v h' :=
 ⟨k.fr.weak hw, fun m w A r a b c d K Q hK => k.run m w A r a b c d K Q fun v' w' m' f x y => hK v' w' m' (f.weak hw) x y⟩
structure CallRun (P : Program) (W : Nat → Prop) (f : FuncId) (args : Array Value) (h : AHeap) (v : Value) (h' : AHeap) : Prop where
 fr : AFr W h h'
 run : ∀ (m : Mp) (w : World) (args' : Array Value), MOk P m → Fresh m h h' → ARel m args args' → HRel P m Ev h w →
  CallsIn Fence.wide 0 P f args' w fun e w' => ∃ v' m', e = .returned v' ∧ Fr m m' W h h' w w' ∧ VRel m' v v' ∧ HRel P m' Ev h' w'
theorem CallRun.weak {P : Program} {W W' : Nat → Prop} {f : FuncId} {args : Array Value} {h h' : AHeap} {v : Value} (k : CallRun P W f args h v h') (hw : ∀ i, W i → W' i) : CallRun P W' f args h v h' :=
 ⟨k.fr.weak hw, fun m w args' a b c d => (k.run m w args' a b c d).mono fun e w' ⟨v', m', he, f, x⟩ => ⟨v', m', he, f.weak hw, x⟩⟩
structure ASt where
 tm : List Value
 df : List Nat
 h : AHeap
def DRel (m : Mp) (df : List Nat) (ds : List Deferred) : Prop := df.length = ds.length ∧ ∀ (i : Nat) j d, df[i]? = some j → ds[i]? = some d → ∃ l, m j = some l ∧ d = { target := .collected l.b, args := #[] }
theorem DRel.mono {m m' : Mp} (hm : m.le m') {df : List Nat} {ds : List Deferred} (h : DRel m df ds) : DRel m' df ds := ⟨h.1, fun i j d a b => let ⟨l, x, y⟩ := h.2 i j d a b; ⟨l, hm _ _ x, y⟩⟩
structure SRel (P : Program) (m : Mp) (s : ASt) (A : Act) (w : World) : Prop where
 tm : ARel m s.tm.toArray A.tmps
 df : DRel m s.df A.defers
 h : HRel P m Ev s.h w
def Post (P : Program) (m : Mp) (W : Nat → Prop) (s : ASt) (x : Exit) (s' : ASt) (w : World) (x' : Exit) (A' : Act) (w' : World) : Prop := x' = x ∧ ∃ m', Fr m m' W s.h s'.h w w' ∧ SRel P m' s' A' w'
structure Run (P : Program) (W : Nat → Prop) (q : Bool) (c : Code) (s : ASt) (x : Exit) (s' : ASt) : Prop where
 fr : AFr W s.h s'.h
 run : ∀ (m : Mp) (w : World) (A : Act) (r : Option Nat), (q = false → r = none) → MOk P m → Fresh m s.h s'.h → SRel P m s A w → c.wpIn (WF r) 0 P (Post P m W s x s' w) A w
theorem Run.weak {P : Program} {W W' : Nat → Prop} {q : Bool} {c : Code} {s s' : ASt} {x : Exit} (k : Run P W q c s x s') (hw : ∀ i, W i → W' i) : Run P W' q c s x s' :=
 ⟨k.fr.weak hw, fun m w A r hq a b d => wpIn_mono (k.run m w A r hq a b d) fun e a' w' ⟨he, m', f, x⟩ => ⟨he, m', f.weak hw, x⟩⟩
section
variable {P : Program} {W : Nat → Prop} {q : Bool} {c c₁ c₂ : Code} {s s₁ s₂ s' : ASt} {x : Exit}
theorem Run.skip : Run P W q .skip s .normal s := ⟨.refl _ _, fun m w A r _ _ _ hs => wpIn_skip ⟨rfl, m, .refl _ _ _ _, hs⟩⟩
theorem Run.ret : Run P W q .ret s .ret s := ⟨.refl _ _, fun m w A r _ _ _ hs => wpIn_ret ⟨rfl, m, .refl _ _ _ _, hs⟩⟩
theorem Run.exit (id : Nat) : Run P W q (.exit id) s (.exit id) s := ⟨.refl _ _, fun m w A r _ _ _ hs => wpIn_exit ⟨rfl, m, .refl _ _ _ _, hs⟩⟩
theorem Run.label (l : Nat) : Run P W q (.label l) s .normal s := ⟨.refl _ _, fun m w A r _ _ _ hs => wpIn_label ⟨rfl, m, .refl _ _ _ _, hs⟩⟩
theorem Run.seq (h1 : Run P W q c₁ s .normal s₁) (h2 : Run P W q c₂ s₁ x s₂) : Run P W q (.seq c₁ c₂) s x s₂ := by
 refine ⟨h1.fr.trans h2.fr, fun m w A r hq hm hf hs => wpIn_seq (wpIn_mono (h1.run m w A r hq hm (hf.left h2.fr.n) hs) ?_)⟩
 rintro e a₁ w₁ ⟨rfl, m₁, f1, hs1⟩
 have hf1 := hf.left h2.fr.n
 refine wpIn_mono (h2.run m₁ w₁ a₁ r hq (hm.mono (f1.le hf1)) (hf.right h1.fr.n f1) hs1) ?_
 rintro e a₂ w₂ ⟨he, m₂, f2, hs2⟩
 exact ⟨he, m₂, Fr.trans h1.fr h2.fr.n f1 f2, hs2⟩
theorem Run.seq_out (h1 : Run P W q c₁ s x s₁) (hx : x ≠ .normal) : Run P W q (.seq c₁ c₂) s x s₁ := by
 refine ⟨h1.fr, fun m w A r hq hm hf hs => wpIn_seq (wpIn_mono (h1.run m w A r hq hm hf hs) ?_)⟩
 rintro e a₁ w₁ ⟨rfl, h⟩
 cases e with
 | normal => exact absurd rfl hx
 | _ => exact ⟨rfl, h⟩
theorem ARel.eval {m : Mp} (hm : MOk P m) {tm : List Value} {A : Act} (h : ARel m tm.toArray A.tmps) {o : Operand} {b : Bool} (e : evalT tm o = .bool b) : A.eval o = .bool b := by
 cases o with
 | tmp t =>
  have := h.getD t
  simp only [evalT] at e
  rw [show tm.toArray.getD t undef = tm.getD t undef from by simp, e] at this
  exact VRel.eq_of_flat this rfl
 | const v => exact e
 | global g => exact e
 | func f => exact e
theorem Run.cond {o : Operand} {b : Bool} (he : evalT s.tm o = .bool b) (h1 : Run P W q (if b then c₁ else c₂) s x s') : Run P W q (.cond o c₁ c₂) s x s' :=
 ⟨h1.fr, fun m w A r hq hm hf hs => wpIn_cond (hs.tm.eval hm he) (h1.run m w A r hq hm hf hs)⟩
theorem Run.cond_true {o : Operand} (he : evalT s.tm o = .bool true) (h1 : Run P W q c₁ s x s') : Run P W q (.cond o c₁ c₂) s x s' := Run.cond he h1
theorem Run.cond_false {o : Operand} (he : evalT s.tm o = .bool false) (h1 : Run P W q c₂ s x s') : Run P W q (.cond o c₁ c₂) s x s' := Run.cond he h1
def Exit.leave (id : Nat) : Exit → Exit
 | .exit i => if i = id then .normal else .exit i
 | e => e
theorem Run.block {id : Nat} (h1 : Run P W q c s x s') : Run P W q (.block id c) s (Exit.leave id x) s' := by
 refine ⟨h1.fr, fun m w A r hq hm hf hs => wpIn_block (wpIn_mono (h1.run m w A r hq hm hf hs) ?_)⟩
 rintro e a₁ w₁ ⟨rfl, h⟩
 cases e with
 | exit i =>
  simp only [Exit.inBlock, Exit.leave]
  split
  · exact ⟨rfl, h⟩
  · exact ⟨rfl, h⟩
 | _ => exact ⟨rfl, h⟩
inductive LoopRun (P : Program) (W : Nat → Prop) (q : Bool) (c : Code) : ASt → Exit → ASt → Prop
 | out {s s' : ASt} {x : Exit} (h : Run P W q c s x s') (hx : x ≠ .normal) : LoopRun P W q c s x s'
 | more {s s₁ s' : ASt} {x : Exit} (h : Run P W q c s .normal s₁) (k : LoopRun P W q c s₁ x s') : LoopRun P W q c s x s'
theorem LoopRun.fr (h : LoopRun P W q c s x s') : AFr W s.h s'.h := by
 induction h with
 | out h _ => exact h.fr
 | more h _ ih => exact h.fr.trans ih
theorem LoopRun.run (h : LoopRun P W q c s x s') : ∀ (m : Mp) (w : World) (A : Act) (r : Option Nat), (q = false → r = none) → MOk P m → Fresh m s.h s'.h → SRel P m s A w →
  ∀ (b : Frame) (k : List Item) (cs : List Frame), b.roundOf = r → ∃ e a' w', Post P m W s x s' w e a' w' ∧ ArrivesIn (Machine.fenced P (WF r)) P (lone (b.atR A (.code c :: .inLoop c :: k)) cs w) b k cs e a' w' := by
 induction h with
 | @out s s' x h hx =>
  intro m w A r hq hm hf hs b k cs hb
  obtain ⟨e, a', w', hq, harr⟩ := h.run m w A r hq hm hf hs b (.inLoop c :: k) cs hb trivial (WF.room _ _)
  refine ⟨e, a', w', hq, .pass (x := .inLoop c) rfl (fun _ _ => .inl ?_) harr⟩
  rw [hq.1]; exact hx
 | @more s s₁ s' x h kk ih =>
  intro m w A r hq hm hf hs b k cs hb
  have hf1 := hf.left kk.fr.n
  obtain ⟨e, a₁, w₁, ⟨he, m₁, f1, hs1⟩, harr⟩ := h.run m w A r hq hm hf1 hs b (.inLoop c :: k) cs hb trivial (WF.room _ _)
  subst he
  obtain ⟨e₂, a₂, w₂, ⟨he, m₂, f2, hs2⟩, harr₂⟩ := ih m₁ w₁ a₁ r hq (hm.mono (f1.le hf1)) (hf.right h.fr.n f1) hs1 b k cs hb
  exact ⟨e₂, a₂, w₂, ⟨he, m₂, Fr.trans h.fr kk.fr.n f1 f2, hs2⟩, .of_steps (StepsIn.trans harr (.one (fenced_calm (F := WF r) (n := 0) trivial (WF.room _ _) rfl) stepR_inLoop)) harr₂⟩
theorem Run.loop (h : LoopRun P W q c s x s') : Run P W q (.loop c) s x s' := by
 refine ⟨h.fr, fun m w A r hq hm hf hs b k cs hb h1 h2 => ?_⟩
 obtain ⟨e, a', w', hq, harr⟩ := h.run m w A r hq hm hf hs b k cs hb
 exact ⟨e, a', w', hq, .of_steps (.one (fenced_calm (F := WF r) h1 h2 rfl) stepR_loop) harr⟩
end
end Go.Proofs.YtncbbeghkpjpbaaDoor
namespace Go.Proofs.YtncbbeghkpjpbaaDoor
theorem HRel.ext {P : Program} {m : Mp} {D : Nat → Prop} {h h' : AHeap} {w : World} (H : HRel P m D h w) (hn : h'.n = h.n) (hg : ∀ j, h'.get j = h.get j) : HRel P m D h' w :=
 ⟨H.lt, fun i l c t a b => H.typ i l c t a (by rw [← hg]; exact b), fun i j l k a b c d e => H.inj i j l k a b (by rw [← hg]; exact c) (AHeap.live_eq (hg j) d) e, fun i l c a b => H.roS i l c a (by rw [← hg]; exact b), fun i l o a b c => H.obj i l o a b (by rw [← hg]; exact c)⟩
theorem HRel.sub {P : Program} {m : Mp} {D D' : Nat → Prop} {h : AHeap} {w : World} (H : HRel P m D h w) (hd : ∀ i, D' i → D i) : HRel P m D' h w :=
 ⟨H.lt, H.typ, H.inj, H.roS, fun i l o a b c => H.obj i l o (hd i a) b c⟩
theorem HRel.world {P : Program} {m : Mp} {D : Nat → Prop} {h : AHeap} {w w' : World} (H : HRel P m D h w) (e : w'.heap = w.heap) : HRel P m D h w' :=
 ⟨by rw [e]; exact H.lt, H.typ, H.inj, H.roS, by rw [e]; exact H.obj⟩
theorem alloc_size (w : World) (o : Obj) : (w.alloc o).heap.size = w.heap.size + 1 := Array.size_push _
theorem alloc_get (w : World) (o : Obj) (k : Nat) : (w.alloc o).heap[k]? = if k = w.heap.size then some o else w.heap[k]? := Array.getElem?_push
def upd (m : Mp) (i : Nat) (l : Loc) : Mp := fun j => if j = i then some l else m j
@[simp] theorem upd_same (m : Mp) (i : Nat) (l : Loc) : upd m i l i = some l := by simp [upd]
theorem upd_ne (m : Mp) {i j : Nat} (l : Loc) (h : j ≠ i) : upd m i l j = m j := by simp [upd, h]
theorem upd_le {m : Mp} {i : Nat} {l : Loc} (h : m i = none) : m.le (upd m i l) := fun j k e => by
 by_cases hj : j = i
 · subst hj; rw [h] at e; cases e
 · rw [upd_ne m l hj]; exact e
theorem AFr.push (W : Nat → Prop) (h : AHeap) (o : AObj) : AFr W h (h.push o) :=
 ⟨by simp, fun i hi _ => h.get_push_ne o (by omega), fun i c t hi e => ⟨c, by rw [h.get_push_ne o (by omega)] at e; exact e, rfl⟩, fun i hi e => by rw [h.get_push_ne o (by omega)] at e; exact e, fun i hi e => AHeap.live_eq (h.get_push_ne o (by omega)) e, fun i c hi e => by rw [h.get_push_ne o (by omega)] at e; exact e⟩
theorem AFr.put {W : Nat → Prop} (h : AHeap) {i : Nat} (hw : W i) {c c' : List Value} {t : TypeId} (hg : h.get i = some (.cells c t)) (hl : c'.length = c.length) : AFr W h (h.put i (some (.cells c' t))) :=
 ⟨by simp, fun j _ hj => h.get_put_ne _ (fun e => hj (e ▸ hw)), fun j d u hj e => by
  by_cases hij : i = j
  · subst hij; rw [h.get_put_same (AHeap.lt hg)] at e; cases e; exact ⟨c, hg, hl.symm⟩
  · rw [h.get_put_ne _ hij] at e; exact ⟨d, e, rfl⟩, fun j hj e => by
  by_cases hij : i = j
  · subst hij; rw [hg]; simp
  · rwa [h.get_put_ne _ hij] at e, fun j hj e => by
  by_cases hij : i = j
  · subst hij; exact AHeap.live_of hg rfl
  · exact AHeap.live_eq (h.get_put_ne _ hij) e, fun j d hj e => by
  by_cases hij : i = j
  · subst hij; rw [h.get_put_same (AHeap.lt hg)] at e; cases e
  · rwa [h.get_put_ne _ hij] at e⟩
section
variable {P : Program} {m : Mp} {D W : Nat → Prop} {h : AHeap} {w : World}
theorem HRel.alloc (H : HRel P m D h w) (hf : m h.n = none) {o : AObj} {o' : Obj} {l : Loc} (hb : l.b = w.heap.size) (ht : ∀ c t, o = .cells c t → sizeT P t = some l.sz ∧ c.length = l.A) (ho : ORel P (upd m h.n l) l o o') (hro : o.isRo = false := by rfl) (hsh : l.sh = 0 := by rfl) : HRel P (upd m h.n l) D (h.push o) (w.alloc o') where
 lt i k e := by
  by_cases hi : i = h.n
  · subst hi; rw [upd_same] at e; cases e; rw [alloc_size]; omega
  · rw [upd_ne m l hi] at e; have := H.lt i k e; rw [alloc_size]; omega
 typ i k c t e g := by
  by_cases hn : i = h.n
  · subst hn; rw [upd_same] at e; cases e; rw [h.get_push_same] at g; cases g; exact ⟨(ht c t rfl).1, (ht c t rfl).2, .inl hsh⟩
  ·
   rw [upd_ne m l hn] at e; rw [h.get_push_ne o (Ne.symm hn)] at g
   exact H.typ i k c t e g
 inj i j l₁ l₂ e₁ e₂ g₁ g₂ e := by
  by_cases hi : i = h.n
  ·
   by_cases hj : j = h.n
   · omega
   · subst hi; rw [upd_same] at e₁; cases e₁; rw [upd_ne m l hj] at e₂; have := H.lt j _ e₂; omega
  ·
   by_cases hj : j = h.n
   · subst hj; rw [upd_same] at e₂; cases e₂; rw [upd_ne m l hi] at e₁; have := H.lt i _ e₁; omega
   ·
    rw [upd_ne m l hi] at e₁; rw [upd_ne m l hj] at e₂
    rw [h.get_push_ne o (Ne.symm hi)] at g₁
    exact H.inj i j _ _ e₁ e₂ g₁ (AHeap.live_eq (h.get_push_ne o (Ne.symm hj)) g₂) e
 roS i k c e g := by
  by_cases hn : i = h.n
  · subst hn; rw [h.get_push_same] at g; cases g; cases hro
  · rw [upd_ne m l hn] at e; rw [h.get_push_ne o (Ne.symm hn)] at g; exact H.roS i k c e g
 obj i k x hd e g := by
  by_cases hi : i = h.n
  ·
   subst hi; rw [upd_same] at e; cases e; rw [h.get_push_same] at g; cases g
   exact ⟨o', by rw [alloc_get, if_pos hb], ho⟩
  ·
   rw [upd_ne m l hi] at e; rw [h.get_push_ne o (Ne.symm hi)] at g
   obtain ⟨x', a, b⟩ := H.obj i k x hd e g
   have hlt := H.lt i k e
   exact ⟨x', by rw [alloc_get, if_neg (by omega)]; exact a, b.mono (upd_le hf)⟩
theorem Fr.alloc (m : Mp) (W : Nat → Prop) (h : AHeap) (o : AObj) (w : World) (o' : Obj) (l : Loc) (hb : l.b = w.heap.size) : Fr m (upd m h.n l) W h (h.push o) w (w.alloc o') where
 old i hi := upd_ne m l (by simp at hi; omega)
 new i k h1 h2 e := by
  simp at h2
  obtain rfl : i = h.n := by omega
  rw [upd_same] at e; cases e; exact .inl (by omega)
 keep b hb _ := by rw [alloc_get, if_neg (by omega)]
 size := by rw [alloc_size]; omega
 os := rfl
 tape := rfl
 output := rfl
theorem FzOk.not {t : TypeId} {n : Nat} {fz : Nat × Nat} (hf : FzOk P t n fz) {i : Nat} (hi : i < n) : (fz.1 ≤ i && i < fz.2) = false := by
 rcases hf with rfl | ⟨_, rfl⟩
 · simp
 · simp; omega
theorem HRel.cells (H : HRel P m D h w) {i : Nat} {l : Loc} {c : List Value} {t : TypeId} (hd : D i) (hm : m i = some l) (hg : h.get i = some (.cells c t)) :
  ∃ c' fz, w.heap[l.b]? = some (.cells c' t fz) ∧ SzOk l c.length c' ∧ FzOk P t c'.size fz ∧ ∀ (i : Nat) v, c[i]? = some v → ∃ v', c'[i + l.sh]? = some v' ∧ VRel m v v' := by
 obtain ⟨o', a, b⟩ := H.obj i l _ hd hm hg
 cases b with
 | cells hs hf hv => exact ⟨_, _, a, hs, hf, hv⟩
theorem HRel.cell (H : HRel P m D h w) {i : Nat} {l : Loc} {c : List Value} {t : TypeId} (hd : D i) (hm : m i = some l) (hg : h.get i = some (.cells c t)) {o : Nat} {v : Value} (hv : c[o]? = some v) :
  ∃ v', w.cell? ⟨l.b, o + l.sh, none⟩ = some v' ∧ VRel m v v' ∧ w.frozen? ⟨l.b, o + l.sh, none⟩ = false := by
 obtain ⟨c', fz, a, hs, hf, hc⟩ := H.cells hd hm hg
 obtain ⟨v', b, r⟩ := hc o v hv
 have hlt : o + l.sh < c'.size := (Array.getElem?_eq_some_iff.1 b).1
 exact ⟨v', by simp [World.cell?, a, b], r, by simp only [World.frozen?, a]; exact hf.not hlt⟩
theorem addr_add (b o n : Nat) : (⟨b, o, none⟩ : Addr).add n = ⟨b, o + n, none⟩ := by
 unfold Addr.add
 split
 · rename_i e; subst e; rfl
 · rfl
theorem HRel.loadFrom (H : HRel P m D h w) {i : Nat} {l : Loc} {c : List Value} {t : TypeId} (hd : D i) (hm : m i = some l) (hg : h.get i = some (.cells c t)) (o : Nat) : ∀ (n k : Nat) (acc : List Value) (acc' : Array Value), ARel m acc.toArray acc' → o + k + n ≤ c.length →
  ∃ cs, (loadCellsFrom ⟨l.b, o + l.sh, none⟩ k n acc').run P w = .ok cs w ∧ ARel m (acc ++ (c.drop (o + k)).take n).toArray cs
 | 0, k, acc, acc', ha, _ => ⟨acc', by simp [loadCellsFrom], by simpa using ha⟩
 | n + 1, k, acc, acc', ha, hn => by
  have hlt : o + k < c.length := by omega
  obtain ⟨v', hv, hr, _⟩ := H.cell hd hm hg (List.getElem?_eq_getElem hlt)
  obtain ⟨cs, a, b⟩ := HRel.loadFrom H hd hm hg o n (k + 1) (acc ++ [c[o + k]]) (acc'.push v') (by simpa using ha.push hr) (by omega)
  refine ⟨cs, ?_, ?_⟩
  ·
   unfold loadCellsFrom
   rw [show o + k + l.sh = o + l.sh + k from by omega] at hv
   simp [addr_add, hv, a]
  ·
   rw [List.drop_eq_getElem_cons hlt, List.take_succ_cons]
   simpa [Nat.add_assoc] using b
theorem HRel.loadCells (H : HRel P m D h w) {i : Nat} {l : Loc} {c : List Value} {t : TypeId} (hd : D i) (hm : m i = some l) (hg : h.get i = some (.cells c t)) {o n : Nat} (hn : o + n ≤ c.length) :
  ∃ cs, (Go.loadCells ⟨l.b, o + l.sh, none⟩ n).run P w = .ok cs w ∧ ARel m ((c.drop o).take n).toArray cs := by
 obtain ⟨cs, a, b⟩ := H.loadFrom hd hm hg o n 0 [] #[] (ARel.empty m) (by omega)
 exact ⟨cs, a, by simpa using b⟩
theorem HRel.rcell (H : HRel P m D h w) {i : Nat} {l : Loc} {c : List Value} (hd : D i) (hm : m i = some l) (hg : rowOf (h.get i) = some c) {o : Nat} {v : Value} (hv : c[o]? = some v) :
  ∃ v', w.cell? ⟨l.b, o + l.sh, none⟩ = some v' ∧ VRel m v v' := by
 rcases rowOf_inv hg with ⟨t, hg⟩ | hg
 · obtain ⟨v', a, b, _⟩ := H.cell hd hm hg hv; exact ⟨v', a, b⟩
 ·
  obtain ⟨o', a, b⟩ := H.obj i l _ hd hm hg
  cases b with
  | ro hs hc =>
   obtain ⟨v', b, r⟩ := hc o v hv
   exact ⟨v', by simp [World.cell?, a, b], r⟩
theorem HRel.rloadFrom (H : HRel P m D h w) {i : Nat} {l : Loc} {c : List Value} (hd : D i) (hm : m i = some l) (hg : rowOf (h.get i) = some c) (o : Nat) : ∀ (n k : Nat) (acc : List Value) (acc' : Array Value), ARel m acc.toArray acc' → o + k + n ≤ c.length →
  ∃ cs, (loadCellsFrom ⟨l.b, o + l.sh, none⟩ k n acc').run P w = .ok cs w ∧ ARel m (acc ++ (c.drop (o + k)).take n).toArray cs
 | 0, k, acc, acc', ha, _ => ⟨acc', by simp [loadCellsFrom], by simpa using ha⟩
 | n + 1, k, acc, acc', ha, hn => by
  have hlt : o + k < c.length := by omega
  obtain ⟨v', hv, hr⟩ := H.rcell hd hm hg (List.getElem?_eq_getElem hlt)
  obtain ⟨cs, a, b⟩ := HRel.rloadFrom H hd hm hg o n (k + 1) (acc ++ [c[o + k]]) (acc'.push v') (by simpa using ha.push hr) (by omega)
  refine ⟨cs, ?_, ?_⟩
  ·
   unfold loadCellsFrom
   rw [show o + k + l.sh = o + l.sh + k from by omega] at hv
   simp [addr_add, hv, a]
  ·
   rw [List.drop_eq_getElem_cons hlt, List.take_succ_cons]
   simpa [Nat.add_assoc] using b
theorem HRel.rloadCells (H : HRel P m D h w) {i : Nat} {l : Loc} {c : List Value} (hd : D i) (hm : m i = some l) (hg : rowOf (h.get i) = some c) {o n : Nat} (hn : o + n ≤ c.length) :
  ∃ cs, (Go.loadCells ⟨l.b, o + l.sh, none⟩ n).run P w = .ok cs w ∧ ARel m ((c.drop o).take n).toArray cs := by
 obtain ⟨cs, a, b⟩ := H.rloadFrom hd hm hg o n 0 [] #[] (ARel.empty m) (by omega)
 exact ⟨cs, a, by simpa using b⟩
def setL (c : List Value) (o : Nat) (vs : List Value) : List Value := c.take o ++ vs ++ c.drop (o + vs.length)
theorem setL_length {c vs : List Value} {o : Nat} (h : o + vs.length ≤ c.length) : (setL c o vs).length = c.length := by
 simp [setL]; omega
theorem setL_cons {c vs : List Value} {o : Nat} {v : Value} (h : o < c.length) : setL (c.set o v) (o + 1) vs = setL c o (v :: vs) := by
 simp only [setL, List.take_set, List.drop_set, List.length_cons]
 rw [if_pos (by omega), List.take_succ_eq_append_getElem h]
 rw [List.set_append_right _ _ (by simp; omega)]
 simp [Nat.min_eq_left (Nat.le_of_lt h), Nat.add_assoc, Nat.add_comm 1]
theorem oneCell_rel {v v' : Value} (h : VRel m v v') : v'.oneCell' = v.oneCell' := by cases h <;> rfl
theorem heap_setCell (w : World) (b o : Nat) (v : Value) (k : Nat) : (w.setCell ⟨b, o, none⟩ v).heap[k]? = if b = k then (w.heap[k]?).map (fun | .cells c e f => .cells (c.setIfInBounds o v) e f | o => o) else w.heap[k]? := by
 simp only [World.setCell, Array.getElem?_modify]
 split
 · rename_i e; subst e; simp; rfl
 · rfl
theorem HRel.store1 (H : HRel P m D h w) {i : Nat} {l : Loc} {c : List Value} {t : TypeId} (hd : D i) (hm : m i = some l) (hg : h.get i = some (.cells c t)) {o : Nat} {v v' : Value} (ho : o < c.length) (hr : VRel m v v') :
  HRel P m D (h.put i (some (.cells (c.set o v) t))) (w.setCell ⟨l.b, o + l.sh, none⟩ v') := by
 obtain ⟨c', fz, a, hs, hf, hc⟩ := H.cells hd hm hg
 have hsz : (w.setCell ⟨l.b, o + l.sh, none⟩ v').heap.size = w.heap.size := by simp [World.setCell]
 refine ⟨fun j k e => by rw [hsz]; exact H.lt j k e, ?_, ?_, fun j k d e g => ?_, ?_⟩
 rotate_left 2
 ·
  by_cases hij : i = j
  · subst hij; rw [h.get_put_same (AHeap.lt hg)] at g; cases g
  · rw [h.get_put_ne _ hij] at g; exact H.roS j k d e g
 rotate_left 1
 ·
  intro j k d u e g
  by_cases hij : i = j
  · subst hij; rw [h.get_put_same (AHeap.lt hg)] at g; cases g; have := H.typ i k c t e hg; exact ⟨this.1, by rw [List.length_set]; exact this.2.1, this.2.2⟩
  · rw [h.get_put_ne _ hij] at g; exact H.typ j k d u e g
 ·
  intro j j' k k' e e' g g' ee
  refine H.inj j j' k k' e e' ?_ ?_ ee
  ·
   by_cases hij : i = j
   · subst hij; rw [hg]; simp
   · rwa [h.get_put_ne _ hij] at g
  ·
   by_cases hij : i = j'
   · subst hij; exact AHeap.live_of hg rfl
   · exact AHeap.live_eq (h.get_put_ne _ hij) g'
 ·
  intro j k x hdj e g
  rw [heap_setCell]
  by_cases hij : i = j
  ·
   subst hij
   rw [hm] at e; cases e
   rw [h.get_put_same (AHeap.lt hg)] at g; cases g
   rw [if_pos rfl, a]
   refine ⟨_, rfl, .cells ?_ ?_ ?_⟩
   ·
    refine ⟨by rw [List.length_set]; exact hs.1, by simpa using hs.2.1, fun j a b => ?_⟩
    obtain ⟨u, e, f⟩ := hs.2.2 j a b
    exact ⟨u, by rw [Array.getElem?_setIfInBounds_ne (by have := hs.1; omega)]; exact e, f⟩
   · simpa using hf
   ·
    intro q u hu
    rw [List.getElem?_set] at hu
    by_cases hq : o = q
    ·
     subst hq
     rw [if_pos rfl, if_pos ho] at hu
     cases hu
     obtain ⟨u', b, _⟩ := hc o c[o] (by simp [ho])
     have hlt : o + l.sh < c'.size := (Array.getElem?_eq_some_iff.1 b).1
     exact ⟨v', by simp [hlt], hr⟩
    ·
     rw [if_neg hq] at hu
     obtain ⟨u', b, r⟩ := hc q u hu
     exact ⟨u', by rw [Array.getElem?_setIfInBounds_ne (by omega)]; exact b, r⟩
  ·
   rw [h.get_put_ne _ hij] at g
   have hne : l.b ≠ k.b := fun ee => hij (H.inj j i k l e hm (by rw [g]; simp) (AHeap.live_of hg rfl) ee.symm).symm
   rw [if_neg hne]
   exact H.obj j k x hdj e g
theorem Fr.setCell {i : Nat} {l : Loc} (hW : W i) (ha : h.live i) (hi : i < h.n) (hm : m i = some l) (h' : AHeap) (hn : h'.n = h.n) (o : Nat) (v : Value) : Fr m m W h h' w (w.setCell ⟨l.b, o, none⟩ v) where
 old _ _ := rfl
 new j k h1 h2 := by omega
 keep b _ hk := by rw [heap_setCell, if_neg (hk i l hi hW ha hm)]
 size := by simp [World.setCell]
 os := rfl
 tape := rfl
 output := rfl
theorem HRel.storeL {i : Nat} {l : Loc} {t : TypeId} (hd : D i) (hW : W i) (hal : h.live i) (hi : i < h.n) (hm : m i = some l) : ∀ (vs vs' : List Value) (w : World) (c : List Value) (h₁ : AHeap) (o k : Nat), HRel P m D h₁ w → h₁.n = h.n → h₁.get i = some (.cells c t) → ARel m vs.toArray vs'.toArray → (∀ v ∈ vs, v.oneCell' = true) → o + k + vs.length ≤ c.length →
  ∃ w', (storeCells ⟨l.b, o + l.sh, none⟩ vs' k).run P w = .ok () w' ∧ HRel P m D (h₁.put i (some (.cells (setL c (o + k) vs) t))) w' ∧ Fr m m W h h w w'
 | [], vs', w, c, h₁, o, k, H, hn, hg, ha, h1, hs => by
  obtain rfl : vs' = [] := by have := ha.1; simp at this; exact List.eq_nil_of_length_eq_zero this.symm
  refine ⟨w, by simp [storeCells], H.ext rfl fun j => ?_, Fr.refl _ _ _ _⟩
  rw [AHeap.get_put]
  split
  · rename_i e; subst e; rw [if_pos (by omega), hg]; simp [setL]
  · rfl
 | v :: vs, vs', w, c, h₁, o, k, H, hn, hg, ha, h1, hs => by
  obtain ⟨v', vs', rfl⟩ : ∃ v' r, vs' = v' :: r := by
   cases vs' with
   | nil => have := ha.1; simp at this
   | cons a b => exact ⟨a, b, rfl⟩
  have hr : VRel m v v' := ha.2 0 v v' (by simp) (by simp)
  have ha' : ARel m vs.toArray vs'.toArray := ⟨by have := ha.1; simpa using this, fun q u u' e e' => ha.2 (q + 1) u u' (by simpa using e) (by simpa using e')⟩
  simp only [List.length_cons] at hs
  have hlt : o + k < c.length := by omega
  obtain ⟨u', hc, _, hfz⟩ := H.cell hd hm hg (List.getElem?_eq_getElem hlt)
  have H1 := H.store1 hd hm hg hlt hr
  obtain ⟨w', a, b, f⟩ := HRel.storeL hd hW hal hi hm vs vs' (w.setCell ⟨l.b, o + k + l.sh, none⟩ v') (c.set (o + k) v) (h₁.put i (some (.cells (c.set (o + k) v) t))) o (k + 1) H1 (by simpa using hn) (h₁.get_put_same (by omega) _) ha' (fun u hu => h1 u (List.mem_cons_of_mem _ hu)) (by simp; omega)
  refine ⟨w', ?_, b.ext rfl fun j => ?_, ?_⟩
  ·
   unfold storeCells
   rw [show o + k + l.sh = o + l.sh + k from by omega] at hc hfz a
   simp [addr_add, run_store P w _ v' .plain (by rw [oneCell_rel hr]; exact h1 v (by simp)), hc, hfz, a]
  ·
   simp only [AHeap.get_put]
   rw [show o + (k + 1) = o + k + 1 from by omega, setL_cons hlt]
   split <;> rfl
  · exact Fr.trans (h₁ := h) (AFr.refl _ _) (Nat.le_refl _) (Fr.setCell hW hal hi hm h rfl _ _) f
end
theorem VRel.cells {m : Mp} {v v' : Value} (h : VRel m v v') : ARel m v.cells v'.cells := by
 cases h with
 | agg h1 h3 => exact ⟨h1, h3⟩
 | _ =>
  refine ⟨rfl, fun i u u' e e' => ?_⟩
  cases i with
  | zero => simp [Value.cells] at e e'; subst e; subst e'; first | exact .bool _ | exact .int _ _ | exact .float _ _ | exact .complex _ _ _ | exact .string _ | exact .pnil | exact .ptr ‹_› | exact .snil | exact .slice ‹_› ‹_› | exact .slice0 _ _ _ | exact .mnil | exact .map ‹_› | exact .func ‹_› ‹_› ‹_› ‹_› ‹_› | exact .yield ‹_› | exact .nilFunc | exact .iface _ ‹_› | exact .nilIface | exact .tuple ‹_› ‹_›
  | succ i => simp [Value.cells] at e
end Go.Proofs.YtncbbeghkpjpbaaDoor
namespace Go.Proofs.YtncbbeghkpjpbaaDoor
theorem wpIn_value {P : Program} {o : Oper} {A : Act} {w w' : World} {v : Value} {r : Option Nat} {K : Act → World → Prop} {Q : Exit → Act → World → Prop} (hd : ∀ c, o.op ≠ .defer c)
  (h : (execOp A.eval o).run P w = .ok (.value v) w') (hK : K (A.put o.dst v) w') : o.wpIn (WF r) 0 P A w K Q :=
 ⟨fun _ _ => trivial, by rw [Oper.semAt_eq _ _ _ hd, h]; exact hK⟩
theorem wpIn_skipped {P : Program} {o : Oper} {A : Act} {w w' : World} {r : Option Nat} {K : Act → World → Prop} {Q : Exit → Act → World → Prop} (hd : ∀ c, o.op ≠ .defer c)
  (h : (execOp A.eval o).run P w = .ok .skip w') (hK : K (A.put o.dst undef) w') : o.wpIn (WF r) 0 P A w K Q :=
 ⟨fun _ _ => trivial, by rw [Oper.semAt_eq _ _ _ hd, h]; exact hK⟩
theorem OpRun.ofPure {P : Program} {D W : Nat → Prop} {o : Oper} {tm : List Value} {h : AHeap} {v : Value} (hd : ∀ c, o.op ≠ .defer c)
  (hr : ∀ (m : Mp) (w : World) (A : Act), MOk P m → (∀ x ∈ o.op.operands, VRel m (evalT tm x) (A.eval x)) → HRel P m D h w → ∃ v', VRel m v v' ∧ (execOp A.eval o).run P w = .ok (.value v') w) : OpRun P D W o tm h v h :=
 ⟨.refl _ _, fun m w A r hm hf hx H K Q hK => let ⟨v', a, b⟩ := hr m w A hm hx H; wpIn_value hd b (hK v' w m (.refl _ _ _ _) a H)⟩
def calm {α : Type} (P : Program) : Sem α → Option α
 | .pure a => some a
 | .program k => calm P (k P)
 | .mark _ k => calm P k
 | _ => none
theorem calm_run {α : Type} {P : Program} {s : Sem α} {a : α} (h : calm P s = some a) (w : World) : s.run P w = .ok a w := by
 induction s with
 | pure b => simp [calm] at h; subst h; rfl
 | program k ih => simp only [calm] at h; exact ih P h
 | mark m k ih => simp only [calm] at h; exact ih h
 | _ => simp [calm] at h
theorem run_under {P : Program} {t : TypeId} {d : TypeDesc} (h : P.underlying t = some d) (w : World) : (underlying t).run P w = .ok d w := by
 simp [underlying, h]
theorem run_sizeOf {P : Program} {t : TypeId} {n : Nat} (h : sizeT P t = some n) (w : World) : (sizeOf t).run P w = .ok n w := by
 unfold sizeT at h
 cases hi : P.info? t with
 | none => rw [hi] at h; cases h
 | some i => rw [hi] at h; cases h; simp [sizeOf, typeInfo, hi]
def cellsT (P : Program) (t : TypeId) : Option (Option Nat) :=
 match P.underlying t with
 | none => none
 | some (.struct _) => (sizeT P t).map some
 | some (.array _ _) => (sizeT P t).map some
 | some _ => some none
theorem run_isAgg_no {P : Program} {t : TypeId} (h : cellsT P t = some none) (w : World) : (isAgg t).run P w = .ok false w := by
 unfold cellsT at h
 unfold isAgg
 cases hu : P.underlying t with
 | none => rw [hu] at h; cases h
 | some d =>
  rw [hu] at h
  cases d <;> first | (simp [run_under hu]; done) | (simp at h; done)
theorem run_isAgg_yes {P : Program} {t : TypeId} {n : Nat} (h : cellsT P t = some (some n)) (w : World) : (isAgg t).run P w = .ok true w ∧ sizeT P t = some n := by
 unfold cellsT at h
 unfold isAgg
 cases hu : P.underlying t with
 | none => rw [hu] at h; cases h
 | some d =>
  rw [hu] at h
  cases d <;> first | (simp at h; exact ⟨by simp [run_under hu], h⟩) | (simp at h; done)
section
variable {P : Program} {D W : Nat → Prop} {o : Oper} {tm : List Value} {h : AHeap}
def aLoad (P : Program) (h : AHeap) (t : TypeId) : Value → Option (Value × Nat)
 | .pointer (some ⟨b, o, none⟩) => match rowOf (h.get b), cellsT P t with
  | some c, some none => (c[o]?).map fun v => (v, b)
  | some c, some (some n) => if o + n ≤ c.length then some (.agg ((c.drop o).take n).toArray, b) else none
  | _, _ => none
 | _ => none
theorem aLoad_run {t : TypeId} {a v : Value} {b : Nat} (he : aLoad P h t a = some (v, b)) (hD : D b) {m : Mp} {w : World} (H : HRel P m D h w) {a' : Value} (ha : VRel m a a') :
  ∃ v' x, a' = .pointer (some x) ∧ (loadVar t x).run P w = .ok v' w ∧ VRel m v v' := by
 unfold aLoad at he
 split at he
 ·
  rename_i bb oo
  cases ha with
  | @ptr _ _ l hm =>
   split at he
   ·
    rename_i c hg hc
    simp only [Option.map_eq_some_iff, Prod.mk.injEq] at he
    obtain ⟨u, hu, rfl, rfl⟩ := he
    obtain ⟨v', e1, e2⟩ := H.rcell hD hm hg hu
    exact ⟨v', _, rfl, by simp [loadVar, run_isAgg_no hc, e1], e2⟩
   ·
    rename_i c n hg hc
    split at he
    ·
     rename_i hle
     cases he
     obtain ⟨cs, e1, e2⟩ := H.rloadCells hD hm hg hle
     obtain ⟨h1, h2⟩ := run_isAgg_yes hc w
     exact ⟨.agg cs, _, rfl, by simp [loadVar, h1, run_sizeOf h2, e1], .agg e2.1 e2.2⟩
    · cases he
   · cases he
 · cases he
theorem OpRun.load {t : TypeId} {x : Operand} {v : Value} {b : Nat} (ho : o.op = .load t x) (he : aLoad P h t (evalT tm x) = some (v, b)) (hD : D b) : OpRun P D W o tm h v h :=
 .ofPure (by simp [ho]) fun m w A hm hx H => by
  obtain ⟨v', y, e1, e2, e3⟩ := aLoad_run he hD H (hx x (by simp [ho, Op.operands]))
  exact ⟨v', e3, by simp [execOp, ho, Instr.loadAt, e1, Instr.sureAddr, e2]⟩
theorem OpRun.move {x : Operand} (ho : o.op = .move x) : OpRun P D W o tm h (evalT tm x) h :=
 .ofPure (by simp [ho]) fun m w A hm hx H => ⟨_, hx x (by simp [ho, Op.operands]), by simp [execOp, ho]⟩
theorem OpRun.assign {x : Operand} (ho : o.op = .assign x) : OpRun P D W o tm h (evalT tm x) h :=
 .ofPure (by simp [ho]) fun m w A hm hx H => ⟨_, hx x (by simp [ho, Op.operands]), by simp [execOp, ho]⟩
theorem OpRun.pick {c a b : Operand} {t : Bool} (ho : o.op = .pick c a b) (hc : evalT tm c = .bool t) : OpRun P D W o tm h (if t then evalT tm a else evalT tm b) h :=
 .ofPure (by simp [ho]) fun m w A hm hx H => by
  have h1 := VRel.eq_of_flat (hx c (by simp [ho, Op.operands])) (by rw [hc]; rfl)
  rw [hc] at h1
  refine ⟨if t then A.eval a else A.eval b, ?_, by simp [execOp, ho, h1, asBool]⟩
  cases t
  · exact hx b (by simp [ho, Op.operands])
  · exact hx a (by simp [ho, Op.operands])
def aField (P : Program) (s : TypeId) (f : Nat) : Value → Option Value
 | .pointer (some ⟨b, o, none⟩) => match P.underlying s with
  | some (.struct fs) => match fs[f]? with
   | some fd => match sizeT P fd.type with
    | some (_ + 1) => some (.pointer (some ⟨b, o + fd.offset, none⟩))
    | _ => none
   | none => none
  | _ => none
 | _ => none
theorem OpRun.fieldAddr {s : TypeId} {x : Operand} {f : Nat} {v : Value} (ho : o.op = .fieldAddr s x f) (he : aField P s f (evalT tm x) = some v) : OpRun P D W o tm h v h :=
 .ofPure (by simp [ho]) fun m w A hm hx H => by
  have ha := hx x (by simp [ho, Op.operands])
  unfold aField at he
  split at he
  ·
   rename_i bb oo hb
   rw [hb] at ha
   split at he
   ·
    rename_i fs hu
    split at he
    ·
     rename_i fd hfd
     split at he
     ·
      rename_i n hn
      cases he
      generalize hy : A.eval x = y at ha
      cases ha with
      | @ptr _ _ l hl =>
       refine ⟨_, .ptr hl, ?_⟩
       simp [execOp, ho, Instr.fieldAt, run_under hu, hfd, hy, Instr.sureAddr, fieldPlace, run_sizeOf hn, addr_add]
     · cases he
    · cases he
   · cases he
  · cases he
def aIndexAddr (P : Program) (t : TypeId) : Value → Value → Option Value
 | .slice (some ⟨b, o, none⟩) len _, .int _ i => match P.underlying t with
  | some (.slice e) => match sizeT P e with
   | some n => if 0 ≤ i ∧ i < (len : Int) then some (.pointer (some ⟨b, o + i.toNat * n, none⟩)) else none
   | none => none
  | _ => none
 | .pointer (some ⟨b, o, none⟩), .int _ i => match P.underlying t with
  | some (.array len e) => match sizeT P e with
   | some n => if 0 ≤ i ∧ i < (len : Int) then some (.pointer (some ⟨b, o + i.toNat * n, none⟩)) else none
   | none => none
  | _ => none
 | _, _ => none
theorem OpRun.indexAddr {t : TypeId} {x ix : Operand} {v : Value} (ho : o.op = .indexAddr t x ix) (he : aIndexAddr P t (evalT tm x) (evalT tm ix) = some v) : OpRun P D W o tm h v h :=
 .ofPure (by simp [ho]) fun m w A hm hx H => by
  have ha := hx x (by simp [ho, Op.operands])
  have hi := hx ix (by simp [ho, Op.operands])
  unfold aIndexAddr at he
  split at he
  ·
   rename_i bb oo len cap k i e1 e2
   rw [e1] at ha
   rw [e2] at hi
   have hi' := VRel.eq_of_flat hi rfl
   split at he
   ·
    rename_i e hu
    split at he
    ·
     rename_i n hn
     split at he
     ·
      rename_i hlt
      cases he
      generalize hy : A.eval x = y at ha
      cases ha with
      | @slice _ _ _ _ cap' l hl hc =>
       refine ⟨_, .ptr hl, ?_⟩
       simp [execOp, ho, Instr.indexAt, hi', asIntOf, run_under hu, hy, hlt, run_sizeOf hn, addr_add]
      | slice0 => omega
     · cases he
    · cases he
   · cases he
  ·
   rename_i bb oo k i e1 e2
   rw [e1] at ha
   rw [e2] at hi
   have hi' := VRel.eq_of_flat hi rfl
   split at he
   ·
    rename_i len e hu
    split at he
    ·
     rename_i n hn
     split at he
     ·
      rename_i hlt
      cases he
      generalize hy : A.eval x = y at ha
      cases ha with
      | @ptr _ _ l hl =>
       refine ⟨_, .ptr hl, ?_⟩
       simp [execOp, ho, Instr.indexAt, hi', asIntOf, run_under hu, hy, hlt, run_sizeOf hn, Instr.sureAddr, addr_add]
     · cases he
    · cases he
   · cases he
  · cases he
theorem OpRun.nilCheck {x : Operand} {b c : Nat} (ho : o.op = .nilCheck x) (he : evalT tm x = .pointer (some ⟨b, c, none⟩)) : OpRun P D W o tm h (.pointer (some ⟨b, c, none⟩)) h :=
 .ofPure (by simp [ho]) fun m w A hm hx H => by
  have ha := hx x (by simp [ho, Op.operands])
  rw [he] at ha
  generalize hy : A.eval x = y at ha
  cases ha with
  | @ptr _ _ l hl => exact ⟨_, .ptr hl, by simp [execOp, ho, hy]⟩
def aPart (P : Program) (t : TypeId) (cs : Array Value) (off : Nat) : Option Value :=
 match cellsT P t with
 | some none => cs[off]?
 | some (some n) => some (.agg ((cs.toList.drop off).take n).toArray)
 | none => none
theorem aPart_run {t : TypeId} {cs cs' : Array Value} {off : Nat} {v : Value} (he : aPart P t cs off = some v) {m : Mp} (ha : ARel m cs cs') (w : World) : ∃ v', (part t cs' off).run P w = .ok v' w ∧ VRel m v v' := by
 unfold aPart at he
 split at he
 ·
  rename_i hc
  obtain ⟨v', e1, e2⟩ := ha.get he
  exact ⟨v', by simp [part, run_isAgg_no hc, e1], e2⟩
 ·
  rename_i n hc
  cases he
  obtain ⟨h1, h2⟩ := run_isAgg_yes hc w
  have e : ((cs.toList.drop off).take n).toArray = cs.extract off (off + n) := by
   apply Array.ext_getElem?
   intro i
   simp only [List.getElem?_toArray, List.getElem?_take, List.getElem?_drop, Array.getElem?_toList, Array.getElem?_extract]
   by_cases h1 : i < n
   ·
    rw [if_pos h1]
    by_cases h2 : i < min (off + n) cs.size - off
    · rw [if_pos h2]
    · rw [if_neg h2, Array.getElem?_eq_none (by omega)]
   · rw [if_neg h1, if_neg (by omega)]
  rw [e]
  exact ⟨.agg (cs'.extract off (off + n)), by simp [part, h1, run_sizeOf h2], .agg (ha.extract _ _).1 (ha.extract _ _).2⟩
 · cases he
def aFieldOf (P : Program) (t : TypeId) (f : Nat) : Value → Option Value
 | .agg cs => match P.underlying t with
  | some (.struct fs) => match fs[f]? with
   | some fd => aPart P fd.type cs fd.offset
   | none => none
  | _ => none
 | _ => none
theorem OpRun.field {t : TypeId} {x : Operand} {f : Nat} {v : Value} (ho : o.op = .field t x f) (he : aFieldOf P t f (evalT tm x) = some v) : OpRun P D W o tm h v h :=
 .ofPure (by simp [ho]) fun m w A hm hx H => by
  have ha := hx x (by simp [ho, Op.operands])
  unfold aFieldOf at he
  split at he
  ·
   rename_i cs e1
   rw [e1] at ha
   split at he
   ·
    rename_i fs hu
    split at he
    ·
     rename_i fd hfd
     generalize hy : A.eval x = y at ha
     cases ha with
     | agg h1 h3 =>
      obtain ⟨v', e2, e3⟩ := aPart_run he ⟨h1, h3⟩ w
      exact ⟨v', e3, by simp [execOp, ho, Instr.field, run_under hu, hfd, hy, asAgg, e2]⟩
    · cases he
   · cases he
  · cases he
def aExtract (i : Nat) : Value → Option Value
 | .tuple vs => vs[i]?
 | _ => none
theorem OpRun.extract {x : Operand} {i : Nat} {v : Value} (ho : o.op = .extract x i) (he : aExtract i (evalT tm x) = some v) : OpRun P D W o tm h v h :=
 .ofPure (by simp [ho]) fun m w A hm hx H => by
  have ha := hx x (by simp [ho, Op.operands])
  unfold aExtract at he
  split at he
  ·
   rename_i vs e1
   rw [e1] at ha
   generalize hy : A.eval x = y at ha
   cases ha with
   | tuple h1 h3 =>
    obtain ⟨v', e2, e3⟩ := ARel.get ⟨h1, h3⟩ he
    exact ⟨v', e3, by simp [execOp, ho, Instr.extract, hy, e2]⟩
  · cases he
def aIndex (P : Program) (t : TypeId) : Value → Value → Option Value
 | .agg cs, .int _ i => match P.underlying t with
  | some (.array len e) => match sizeT P e with
   | some n => if 0 ≤ i ∧ i < (len : Int) then aPart P e cs (i.toNat * n) else none
   | none => none
  | _ => none
 | .string s, .int _ i => match P.underlying t with
  | some .string => if 0 ≤ i then (s.data[i.toNat]?).map fun b => .int .u8 b.toNat else none
  | _ => none
 | _, _ => none
theorem OpRun.index {t : TypeId} {x ix : Operand} {v : Value} (ho : o.op = .index t x ix) (he : aIndex P t (evalT tm x) (evalT tm ix) = some v) : OpRun P D W o tm h v h :=
 .ofPure (by simp [ho]) fun m w A hm hx H => by
  have ha := hx x (by simp [ho, Op.operands])
  have hi := hx ix (by simp [ho, Op.operands])
  unfold aIndex at he
  split at he
  ·
   rename_i cs k i e1 e2
   rw [e1] at ha
   rw [e2] at hi
   have hi' := VRel.eq_of_flat hi rfl
   split at he
   ·
    rename_i len e hu
    split at he
    ·
     rename_i n hn
     split at he
     ·
      rename_i hlt
      generalize hy : A.eval x = y at ha
      cases ha with
      | agg h1 h3 =>
       obtain ⟨v', e2, e3⟩ := aPart_run he ⟨h1, h3⟩ w
       exact ⟨v', e3, by simp [execOp, ho, Instr.index, hi', asIntOf, run_under hu, hy, hlt, run_sizeOf hn, e2]⟩
     · cases he
    · cases he
   · cases he
  ·
   rename_i s k i e1 e2
   rw [e1] at ha
   rw [e2] at hi
   have hi' := VRel.eq_of_flat hi rfl
   have ha' := VRel.eq_of_flat ha rfl
   split at he
   ·
    rename_i hu
    split at he
    ·
     rename_i h0
     simp only [Option.map_eq_some_iff] at he
     obtain ⟨b, hb, rfl⟩ := he
     have hb' : s[i.toNat]? = some b := by
      have hlt := (Array.getElem?_eq_some_iff.1 hb).1
      have : i.toNat < s.size := hlt
      rw [getElem?_pos s i.toNat this]
      rw [Array.getElem?_eq_getElem hlt] at hb
      exact hb
     exact ⟨_, .int _ _, by simp [execOp, ho, Instr.index, hi', ha', asIntOf, run_under hu, h0, hb']⟩
    · cases he
   · cases he
  · cases he
theorem OpRun.calm {v : Value} (hd : ∀ c, o.op ≠ .defer c) (hs : ∀ cs b, o.op ≠ .select cs b) (hf : ∀ x ∈ o.op.operands, flatB (evalT tm x) = true) (he : calm P (execOp (evalT tm) o) = some (.value v)) (hv : flatB v = true) : OpRun P D W o tm h v h :=
 .ofPure hd fun m w A hm hx H => by
  have e : execOp A.eval o = execOp (evalT tm) o := execOp_congr o hs fun x hxo => VRel.eq_of_flat (hx x hxo) (hf x hxo)
  exact ⟨v, .flat m hv, by rw [e]; exact calm_run he w⟩
theorem OpRun.makeInterface {t : TypeId} {x : Operand} {d : TypeDesc} (ho : o.op = .makeInterface t x) (hu : P.underlying t = some d) (hn : ∀ ms, d ≠ .interface ms) : OpRun P D W o tm h (.iface t (evalT tm x)) h :=
 .ofPure (by simp [ho]) fun m w A hm hx H => by
  refine ⟨_, .iface t (hx x (by simp [ho, Op.operands])), ?_⟩
  cases d <;> first | exact absurd rfl (hn _) | simp [execOp, ho, Instr.makeInterface, run_under hu]
theorem OpRun.makeFunc {fn : Fn} {a b : Array Operand} (ho : o.op = .makeFunc fn a b) (hn : ∀ r, fn ≠ .yield r) : OpRun P D W o tm h (.func fn (a.map (evalT tm)) (b.map (evalT tm))) h :=
 .ofPure (by simp [ho]) fun m w A hm hx H => by
  have h1 := ARel.of_map (m := m) a (evalT tm) A.eval fun x hxa => hx x (by simp [ho, Op.operands, hxa])
  have h2 := ARel.of_map (m := m) b (evalT tm) A.eval fun x hxa => hx x (by simp [ho, Op.operands, hxa])
  exact ⟨_, .func hn h1.1 h2.1 h1.2 h2.2, by simp [execOp, ho, Instr.makeFunc]⟩
end
end Go.Proofs.YtncbbeghkpjpbaaDoor
namespace Go.Proofs.YtncbbeghkpjpbaaDoor
section
variable {P : Program} {D W : Nat → Prop} {o : Oper} {tm : List Value} {h : AHeap}
def locNew (w : World) (sz A slk : Nat) : Loc := ⟨w.heap.size, 0, sz, A, slk⟩
theorem HRel.row {m : Mp} {w : World} (H : HRel P m D h w) (hf : m h.n = none) {c : List Value} {c' : Array Value} {t : TypeId} {sz : Nat} (ht : sizeT P t = some sz) (hc : ARel m c.toArray c') :
  HRel P (upd m h.n (locNew w sz c.length 0)) D (h.push (.cells c t)) (w.alloc (.cells c' t (0, 0))) := by
 refine H.alloc hf rfl (fun d u e => by cases e; exact ⟨ht, rfl⟩) (.cells ⟨rfl, ?_, SlkOk.none rfl _⟩ (.inl rfl) fun i v e => ?_)
 · have := hc.1; simp at this; simp [locNew, this]
 ·
  obtain ⟨v', a, b⟩ := hc.get (v := v) (by simpa using e)
  exact ⟨v', by simpa [locNew] using a, b.mono (upd_le hf)⟩
theorem OpRun.ofNew {v : Value} {a : AObj} (hd : ∀ c, o.op ≠ .defer c)
  (hr : ∀ (m : Mp) (w : World) (A : Act), MOk P m → m h.n = none → (∀ x ∈ o.op.operands, VRel m (evalT tm x) (A.eval x)) → HRel P m D h w →
   ∃ (v' : Value) (o' : Obj) (l : Loc) (w₀ : World), w₀.heap = w.heap ∧ w₀.os = w.os ∧ w₀.tape = w.tape ∧ w₀.output = w.output ∧ l.b = w.heap.size ∧ VRel (upd m h.n l) v v' ∧ HRel P (upd m h.n l) D (h.push a) (w₀.alloc o') ∧ (execOp A.eval o).run P w = .ok (.value v') (w₀.alloc o')) : OpRun P D W o tm h v (h.push a) :=
 ⟨.push _ _ _, fun m w A r hm hf hx H K Q hK => by
  obtain ⟨v', o', l, w₀, e1, e2, e3, e4, hl, hv, H', hrun⟩ := hr m w A hm (hf h.n (Nat.le_refl _) (by simp)) hx H
  refine wpIn_value hd hrun (hK v' _ _ ?_ hv H')
  have f := Fr.alloc m W h a w₀ o' l (by rw [e1]; exact hl)
  exact ⟨f.old, fun i k h1 h2 h3 => by have := f.new i k h1 h2 h3; rwa [e1] at this, fun b hb hk => by rw [f.keep b (by rw [e1]; exact hb) hk, e1], by have := f.size; rwa [e1] at this, f.os.trans e2, f.tape.trans e3, f.output.trans e4⟩⟩
def zeroT (P : Program) (t : TypeId) : Option Value := (P.info? t).bind (·.zero)
theorem run_zero {t : TypeId} {z : Value} (hz : zeroT P t = some z) (w : World) : (zeroValue t).run P w = .ok z w := by
 unfold zeroT at hz
 cases hi : P.info? t with
 | none => rw [hi] at hz; cases hz
 | some i => rw [hi] at hz; simp at hz; simp [zeroValue, typeInfo, hi, hz]
theorem sizeT_some {t : TypeId} {z : Value} (hz : zeroT P t = some z) : ∃ n, sizeT P t = some n := by
 unfold zeroT at hz
 unfold sizeT
 cases hi : P.info? t with
 | none => rw [hi] at hz; cases hz
 | some i => exact ⟨i.size, rfl⟩
def aAlloc (P : Program) (t : TypeId) : Option AObj := match zeroT P t with
 | some z => if flatB z then some (.cells z.cells.toList t) else none
 | none => none
theorem OpRun.alloc {t : TypeId} {a : AObj} (ho : o.op = .alloc t) (he : aAlloc P t = some a) : OpRun P D W o tm h (.pointer (some ⟨h.n, 0, none⟩)) (h.push a) :=
 .ofNew (by simp [ho]) fun m w A hm hf hx H => by
  unfold aAlloc at he
  split at he
  ·
   rename_i z hz
   split at he
   ·
    rename_i hz0
    cases he
    obtain ⟨n, hn⟩ := sizeT_some hz
    refine ⟨.pointer (some ⟨w.heap.size, 0, none⟩), .cells z.cells t (0, 0), locNew w n z.cells.toList.length 0, w, rfl, rfl, rfl, rfl, rfl, ?_, H.row hf hn (by simpa using (VRel.flat m hz0).cells), ?_⟩
    · exact .ptr (l := locNew w n z.cells.toList.length 0) (upd_same _ _ _)
    · simp [execOp, ho, Instr.alloc, run_zero hz, newVar, newRow, World.alloc_eq]
   · cases he
  · cases he
theorem OpRun.box {t : TypeId} {x : Operand} {n : Nat} (ho : o.op = .box t x) (hn : sizeT P t = some n) : OpRun P D W o tm h (.pointer (some ⟨h.n, 0, none⟩)) (h.push (.cells (evalT tm x).cells.toList t)) :=
 .ofNew (by simp [ho]) fun m w A hm hf hx H => by
  refine ⟨.pointer (some ⟨w.heap.size, 0, none⟩), .cells (A.eval x).cells t (0, 0), locNew w n (evalT tm x).cells.toList.length 0, w, rfl, rfl, rfl, rfl, rfl, ?_, H.row hf hn (by simpa using (hx x (by simp [ho, Op.operands])).cells), ?_⟩
  · exact .ptr (l := locNew w n (evalT tm x).cells.toList.length 0) (upd_same _ _ _)
  · simp [execOp, ho, Instr.box, newVar, newRow, World.alloc_eq]
def fillL (place : Nat → Option (Nat × Nat)) : List Value → List (Nat × Value) → Option (List Value)
 | c, [] => some c
 | c, (i, v) :: rest => match place i with
  | none => none
  | some (off, size) => if v.cells.toList.length = size ∧ off + size ≤ c.length then fillL place (setL c off v.cells.toList) rest else none
theorem foldSet (off : Nat) : ∀ (l : List Value) (k : Nat) (d : Array Value), off + k + l.length ≤ d.size → (l.zipIdx k).foldl (fun cs (x : Value × Nat) => cs.setIfInBounds (off + x.2) x.1) d = (setL d.toList (off + k) l).toArray
 | [], k, d, _ => by simp [setL]
 | v :: l, k, d, h => by
  simp only [List.length_cons] at h
  simp only [List.zipIdx_cons, List.foldl_cons]
  rw [foldSet off l (k + 1) _ (by simp; omega), show off + (k + 1) = off + k + 1 from by omega]
  rw [Array.toList_setIfInBounds, setL_cons (by simp; omega)]
theorem ARel.setL {m : Mp} {c : List Value} {c' : Array Value} {vs vs' : List Value} {o : Nat} (hc : ARel m c.toArray c') (hv : ARel m vs.toArray vs'.toArray) : ARel m (setL c o vs).toArray (setL c'.toList o vs').toArray := by
 have hl : vs.length = vs'.length := by simpa using hv.1
 have e1 : (Go.Proofs.YtncbbeghkpjpbaaDoor.setL c o vs).toArray = c.toArray.extract 0 o ++ vs.toArray ++ c.toArray.extract (o + vs.length) c.toArray.size := by
  simp [Go.Proofs.YtncbbeghkpjpbaaDoor.setL]
  exact (List.take_of_length_le (by simp)).symm
 have e2 : (Go.Proofs.YtncbbeghkpjpbaaDoor.setL c'.toList o vs').toArray = c'.extract 0 o ++ vs'.toArray ++ c'.extract (o + vs.length) c.toArray.size := by
  have : c.toArray.size = c'.size := hc.1
  rw [this, hl]
  apply Array.toList_inj.1
  simp [Go.Proofs.YtncbbeghkpjpbaaDoor.setL, List.extract]
  exact (List.take_of_length_le (by simp)).symm
 rw [e1, e2]
 exact ((hc.extract 0 o).append hv).append (hc.extract _ _)
theorem fill_rel {m : Mp} (place : Nat → Option (Nat × Nat)) : ∀ (ps ps' : List (Nat × Value)) (c : List Value) (c' : Array Value) (r : List Value), ps.length = ps'.length → (∀ (i : Nat) p p', ps[i]? = some p → ps'[i]? = some p' → p.1 = p'.1 ∧ VRel m p.2 p'.2) → ARel m c.toArray c' → fillL place c ps = some r → ∃ r', Instr.fill place c' ps' = some r' ∧ ARel m r.toArray r'
 | [], ps', c, c', r, hl, hp, hc, he => by
  obtain rfl : ps' = [] := List.eq_nil_of_length_eq_zero (by simpa using hl.symm)
  simp [fillL] at he; subst he
  exact ⟨c', by simp [Instr.fill], hc⟩
 | (i, v) :: ps, ps', c, c', r, hl, hp, hc, he => by
  obtain ⟨⟨i', v'⟩, ps', rfl⟩ : ∃ p q, ps' = p :: q := by
   cases ps' with
   | nil => simp at hl
   | cons a b => exact ⟨a, b, rfl⟩
  obtain ⟨e1, e2⟩ := hp 0 (i, v) (i', v') rfl rfl
  have e1 : i = i' := e1
  have e2 : VRel m v v' := e2
  subst e1
  have hvc := e2.cells
  unfold fillL at he
  unfold Instr.fill
  cases hpl : place i with
  | none => rw [hpl] at he; cases he
  | some q =>
   obtain ⟨off, size⟩ := q
   rw [hpl] at he
   simp only at he ⊢
   split at he
   ·
    rename_i hcond
    obtain ⟨h1, h2⟩ := hcond
    have hs : v'.cells.size = size := by rw [← hvc.1]; simpa using h1
    have hc1 : c.length = c'.size := by simpa using hc.1
    rw [if_neg (by simp [hs]; omega)]
    refine fill_rel place ps ps' _ _ r (by simpa using hl) (fun j p p' a b => hp (j + 1) p p' (by simpa using a) (by simpa using b)) ?_ he
    rw [← Array.foldl_toList, Array.toList_zipIdx, foldSet off _ 0 _ (by simp [hs]; omega)]
    exact ARel.setL hc (by simpa using hvc)
   · cases he
def placesOf (P : Program) (fs : Array Field) : Option (List (Nat × Nat)) := fs.toList.mapM fun f => (sizeT P f.type).map fun n => (f.offset, n)
theorem run_places {w : World} : ∀ (l : List Field) (r : List (Nat × Nat)), l.mapM (fun f => (sizeT P f.type).map fun n => (f.offset, n)) = some r → (l.mapM (fun f => do pure (f.offset, ← sizeOf f.type)) : Sem _).run P w = .ok r w
 | [], r, h => by simp at h; subst h; simp
 | f :: l, r, h => by
  simp only [List.mapM_cons, Option.bind_eq_bind, Option.bind_eq_some_iff, Option.map_eq_some_iff, Option.pure_def, Option.some.injEq] at h
  obtain ⟨p, ⟨n, hn, rfl⟩, q, hq, rfl⟩ := h
  have := run_places (w := w) l q hq
  simp only [List.mapM_cons, Sem.run_bind, run_sizeOf hn, Result.andThen_ok, Sem.run_pure, this]
def aBuild (P : Program) (t : TypeId) (ps : List (Nat × Value)) : Option Value :=
 match zeroT P t with
 | some z => if flatB z then
   match P.underlying t with
   | some (.struct fs) => match placesOf P fs with
    | some pl => (fillL (fun i => pl[i]?) z.cells.toList ps).map fun c => .agg c.toArray
    | none => none
   | some (.array _ e) => match sizeT P e with
    | some size => (fillL (fun i => some (i * size, size)) z.cells.toList ps).map fun c => .agg c.toArray
    | none => none
   | _ => none
  else none
 | none => none
theorem parts_rel {m : Mp} {A : Act} {ps : Array (Nat × Operand)} (hx : ∀ x ∈ (ps.toList.map (·.2)).toArray, VRel m (evalT tm x) (A.eval x)) :
  (ps.toList.map fun p => (p.1, evalT tm p.2)).length = (ps.toList.map fun p => (p.1, A.eval p.2)).length ∧ ∀ (i : Nat) p p', (ps.toList.map fun p => (p.1, evalT tm p.2))[i]? = some p → (ps.toList.map fun p => (p.1, A.eval p.2))[i]? = some p' → p.1 = p'.1 ∧ VRel m p.2 p'.2 := by
 refine ⟨by simp, fun i p p' e e' => ?_⟩
 simp only [List.getElem?_map, Option.map_eq_some_iff] at e e'
 obtain ⟨q, hq, rfl⟩ := e
 obtain ⟨q', hq', rfl⟩ := e'
 rw [hq] at hq'; cases hq'
 refine ⟨rfl, hx q.2 ?_⟩
 simp only [List.mem_toArray, List.mem_map]
 exact ⟨q, List.mem_of_getElem? hq, rfl⟩
theorem OpRun.build {t : TypeId} {ps : Array (Nat × Operand)} {v : Value} (ho : o.op = .build t ps) (he : aBuild P t (ps.toList.map fun p => (p.1, evalT tm p.2)) = some v) : OpRun P D W o tm h v h :=
 .ofPure (by simp [ho]) fun m w A hm hx H => by
  have hp := parts_rel (m := m) (A := A) (tm := tm) (ps := ps) (by simpa [ho, Op.operands] using hx)
  unfold aBuild at he
  split at he
  ·
   rename_i z hz
   split at he
   ·
    rename_i hz0
    have hzc : ARel m z.cells.toList.toArray z.cells := by simpa using (VRel.flat m hz0).cells
    split at he
    ·
     rename_i fs hu
     split at he
     ·
      rename_i pl hpl
      simp only [Option.map_eq_some_iff] at he
      obtain ⟨r, hr, rfl⟩ := he
      obtain ⟨r', e1, e2⟩ := fill_rel _ _ _ _ _ _ hp.1 hp.2 hzc hr
      refine ⟨.agg r', .agg e2.1 e2.2, ?_⟩
      have e3 : (ps.map fun x => (x.1, A.eval x.2)).toList = ps.toList.map fun p => (p.1, A.eval p.2) := by simp
      have e4 : (fs.mapM (fun f => do pure (f.offset, ← sizeOf f.type)) : Sem _).run P w = .ok pl.toArray w := by
       rw [Array.mapM_eq_mapM_toList]
       rw [Sem.run_map, run_places _ _ hpl]; rfl
      simp only [execOp, ho, Instr.build, Sem.run_bind, run_zero hz, Result.andThen_ok, run_under hu, e4, e3]
      have e5 : (fun (i : Nat) => pl.toArray[i]?) = fun (i : Nat) => pl[i]? := by funext i; simp
      simp [e5, e1]
     · cases he
    ·
     rename_i nn e hu
     split at he
     ·
      rename_i size hs
      simp only [Option.map_eq_some_iff] at he
      obtain ⟨r, hr, rfl⟩ := he
      obtain ⟨r', e1, e2⟩ := fill_rel _ _ _ _ _ _ hp.1 hp.2 hzc hr
      refine ⟨.agg r', .agg e2.1 e2.2, ?_⟩
      have e3 : (ps.map fun x => (x.1, A.eval x.2)).toList = ps.toList.map fun p => (p.1, A.eval p.2) := by simp
      simp only [execOp, ho, Instr.build, Sem.run_bind, run_zero hz, Result.andThen_ok, run_under hu, run_sizeOf hs, e3]
      simp [e1]
     · cases he
    · cases he
   · cases he
  · cases he
end
end Go.Proofs.YtncbbeghkpjpbaaDoor
namespace Go.Proofs.YtncbbeghkpjpbaaDoor
section
variable {P : Program} {D W : Nat → Prop} {o : Oper} {tm : List Value} {h : AHeap}
def aStore (P : Program) (h : AHeap) (t : TypeId) (v : Value) : Value → Option (AHeap × Nat)
 | .pointer (some ⟨b, o, none⟩) => match h.get b, sizeT P t with
  | some (.cells c ct), some n => if v.cells.toList.length = n ∧ o + n ≤ c.length ∧ v.cells.toList.all Value.oneCell' = true then some (h.put b (some (.cells (setL c o v.cells.toList) ct)), b) else none
  | _, _ => none
 | _ => none
theorem ARel.list {m : Mp} {a a' : Array Value} (h : ARel m a a') : ARel m a.toList.toArray a'.toList.toArray := by simpa using h
theorem OpRun.store {t : TypeId} {x y : Operand} {h' : AHeap} {b : Nat} (ho : o.op = .store t x y) (he : aStore P h t (evalT tm y) (evalT tm x) = some (h', b)) (hD : D b) (hW : W b) : OpRun P D W o tm h undef h' := by
 unfold aStore at he
 split at he
 ·
  rename_i bb oo e1
  split at he
  ·
   rename_i c ct n hg hn
   split at he
   ·
    rename_i hcond
    obtain ⟨h1, h2, h3⟩ := hcond
    cases he
    refine ⟨.put h hW hg (setL_length (by omega)), fun m w A r hm hf hx H K Q hK => ?_⟩
    have ha := hx x (by simp [ho, Op.operands])
    have hv := hx y (by simp [ho, Op.operands])
    rw [e1] at ha
    generalize hy : A.eval x = z at ha
    cases ha with
    | @ptr _ _ l hl =>
     obtain ⟨w', a, b, f⟩ := HRel.storeL (P := P) (t := ct) (h := h) hD hW (AHeap.live_of hg rfl) (AHeap.lt hg) hl (evalT tm y).cells.toList (A.eval y).cells.toList w c h oo 0 H rfl hg hv.cells.list (fun v hv => List.all_eq_true.1 h3 v hv) (by omega)
     refine wpIn_skipped (by simp [ho]) ?_ (hK undef w' m ⟨f.old, f.new, f.keep, f.size, f.os, f.tape, f.output⟩ (.tuple rfl fun i v v' e => by simp at e) b)
     have e2 : (A.eval y).cells.size = n := by rw [← hv.cells.1]; simpa using h1
     simp [execOp, ho, Instr.storeAt, hy, Instr.sureAddr, storeVar, e2, run_sizeOf hn, a]
   · cases he
  · cases he
 · cases he
def zeros (z : List Value) (k : Nat) : List Value := (List.replicate k z).flatten
theorem zeros_eq (z : List Value) : ∀ k, ((Array.range (k * z.length)).map fun i => z.toArray[i % z.toArray.size]!) = (zeros z k).toArray
 | 0 => by simp [zeros]
 | k + 1 => by
  rcases Nat.eq_zero_or_pos z.length with h0 | h0
  ·
   have : z = [] := List.eq_nil_of_length_eq_zero h0
   subst this; simp [zeros]
  ·
   have ih := zeros_eq z k
   apply Array.toList_inj.1
   have ih' := congrArg Array.toList ih
   simp only [Array.toList_map, Array.toList_range] at ih' ⊢
   rw [Nat.succ_mul, List.range_add, List.map_append, ih']
   have e : zeros z (k + 1) = zeros z k ++ z := by
    simp [zeros, List.replicate_succ']
   rw [e]
   simp only [List.map_map]
   congr 1
   apply List.ext_getElem?
   intro i
   by_cases hi : i < z.length
   · simp [hi, Nat.mod_eq_of_lt hi]
   · rw [List.getElem?_eq_none (by simp; omega), List.getElem?_eq_none (by omega)]
theorem zeros_length (z : List Value) (k : Nat) : (zeros z k).length = k * z.length := by simp [zeros]
theorem zeros_flat (m : Mp) {z : List Value} (hz : ∀ v ∈ z, VRel m v v) (k : Nat) : ARel m (zeros z k).toArray (zeros z k).toArray := by
 refine ⟨rfl, fun i v v' e e' => ?_⟩
 rw [e] at e'; cases e'
 have hm : v ∈ zeros z k := by simpa using Array.mem_of_getElem? e
 simp only [zeros, List.mem_flatten, List.mem_replicate] at hm
 obtain ⟨l, ⟨_, rfl⟩, hv⟩ := hm
 exact hz v hv
theorem flat_cells {z : Value} (hz : flatB z = true) (m : Mp) : ∀ v ∈ z.cells.toList, VRel m v v := fun v hv => by
 rw [Array.mem_toList_iff] at hv
 have hr := (VRel.flat m hz).cells
 obtain ⟨i, hi, rfl⟩ := Array.getElem_of_mem hv
 exact hr.2 i _ _ (Array.getElem?_eq_getElem hi) (Array.getElem?_eq_getElem hi)
def aZeros (P : Program) (e : TypeId) (size n : Nat) : Option (List Value) :=
 if n * size = 0 then some [] else match zeroT P e with
 | some z => if flatB z ∧ z.cells.toList.length = size then some (zeros z.cells.toList n) else none
 | none => none
theorem aZeros_rel {e : TypeId} {size n : Nat} {c : List Value} (he : aZeros P e size n = some c) (m : Mp) : ARel m c.toArray c.toArray ∧ c.length = n * size := by
 unfold aZeros at he
 split at he
 · rename_i h0; cases he; exact ⟨ARel.empty m, by simpa using h0.symm⟩
 ·
  rename_i h0
  split at he
  ·
   rename_i z hz
   split at he
   ·
    rename_i hc
    cases he
    exact ⟨zeros_flat m (flat_cells hc.1 m) _, by rw [zeros_length, hc.2]⟩
   · cases he
  · cases he
theorem aZeros_run {e : TypeId} {size n : Nat} {c : List Value} (he : aZeros P e size n = some c) (w : World) :
  (n * size = 0 ∧ c = []) ∨ (n * size ≠ 0 ∧ ∃ z, (zeroValue e).run P w = .ok z w ∧ (Array.range (n * size)).map (fun i => z.cells[i % z.cells.size]!) = c.toArray) := by
 unfold aZeros at he
 split at he
 · rename_i h0; cases he; exact .inl ⟨h0, rfl⟩
 ·
  rename_i h0
  split at he
  ·
   rename_i z hz
   split at he
   ·
    rename_i hc
    cases he
    refine .inr ⟨h0, z, run_zero hz w, ?_⟩
    rw [← hc.2]
    exact zeros_eq z.cells.toList n
   · cases he
  · cases he
theorem map_range0 (f : Nat → Value) : Array.map f (Array.range 0) = #[] := Array.eq_empty_of_size_eq_zero (by simp)
def aMake (P : Program) (t : TypeId) : Value → Value → Option (Nat × Nat × AObj)
 | .int _ l, .int _ c => match P.underlying t with
  | some (.slice e) => match P.info? e with
   | some i => if 0 ≤ l ∧ l ≤ c ∧ c ≤ 1099511627776 ∧ (i.bytes : Int) * c ≤ 281474976710656 then
     (aZeros P e i.size c.toNat).map fun cs => (l.toNat, c.toNat, .cells cs e)
    else none
   | none => none
  | _ => none
 | _, _ => none
theorem wrap_small {n : Int} (h0 : 0 ≤ n) (h : n ≤ 1099511627776) : IntKind.i64.wrap n = n := by
 have e : n % 2 ^ 64 = n := Int.emod_eq_of_lt h0 (by omega)
 have e2 : ¬ (2 : Int) ^ 63 ≤ n := by omega
 simp [IntKind.wrap, IntKind.signed, IntKind.bits, e]
 omega
theorem OpRun.makeSlice {t : TypeId} {x y : Operand} {l c : Nat} {a : AObj} (ho : o.op = .makeSlice t x y) (he : aMake P t (evalT tm x) (evalT tm y) = some (l, c, a)) : OpRun P D W o tm h (.slice (some ⟨h.n, 0, none⟩) l c) (h.push a) :=
 .ofNew (by simp [ho]) fun m w A hm hf hx H => by
  have h1 := hx x (by simp [ho, Op.operands])
  have h2 := hx y (by simp [ho, Op.operands])
  unfold aMake at he
  split at he
  ·
   rename_i k1 ll k2 cc e1 e2
   rw [e1] at h1; rw [e2] at h2
   have h1 := VRel.eq_of_flat h1 rfl
   have h2 := VRel.eq_of_flat h2 rfl
   split at he
   ·
    rename_i e hu
    split at he
    ·
     rename_i i hi
     split at he
     ·
      rename_i hc
      obtain ⟨c1, c2, c3, c4⟩ := hc
      simp only [Option.map_eq_some_iff, Prod.mk.injEq] at he
      obtain ⟨cs, hcs, rfl, rfl, rfl⟩ := he
      obtain ⟨hr, hsz⟩ := aZeros_rel hcs m
      have hs : sizeT P e = some i.size := by simp [sizeT, hi]
      refine ⟨.slice (some ⟨w.heap.size, 0, none⟩) ll.toNat cc.toNat, .cells cs.toArray e (0, 0), locNew w i.size cs.length 0, w, rfl, rfl, rfl, rfl, rfl, ?_, H.row hf hs hr, ?_⟩
      · exact .slice (l := locNew w i.size cs.length 0) (upd_same _ _ _) (.inl rfl)
      ·
       have w1 := wrap_small (n := ll) c1 (by omega)
       have w2 := wrap_small (n := cc) (by omega) c3
       have n1 : ¬ cc < 0 := by omega
       have n2 : ¬ ll < 0 := by omega
       have n3 : ¬ cc < ll := by omega
       have n4 : ¬ (281474976710656 : Int) < (i.bytes : Int) * cc := by omega
       simp only [execOp, ho, Instr.makeSlice, Sem.run_bind, run_under hu, h1, h2, asInt, asIntOf, typeInfo, run_program, Result.andThen_ok, hi, Sem.run_pure, w1, w2]
       rcases aZeros_run hcs w with ⟨h0, rfl⟩ | ⟨h0, z, hz1, hz2⟩
       · simp [n1, n2, n3, n4, run_sizeOf hs, h0, newRow, World.alloc_eq, map_range0]
       · simp [n1, n2, n3, n4, run_sizeOf hs, h0, hz1, hz2, newRow, World.alloc_eq]
     · cases he
    · cases he
   · cases he
  · cases he
def aBuildSlice (P : Program) (t : TypeId) (len : Nat) (ps : List (Nat × Value)) : Option AObj :=
 match P.underlying t with
 | some (.slice e) => match sizeT P e with
  | some size => if len * size ≤ 16777216 then match aZeros P e size len with
    | some z => (fillL (fun i => some (i * size, size)) z ps).map fun c => .cells c e
    | none => none
   else none
  | none => none
 | _ => none
theorem OpRun.buildSlice {t : TypeId} {len : Nat} {ps : Array (Nat × Operand)} {a : AObj} (ho : o.op = .buildSlice t len ps) (he : aBuildSlice P t len (ps.toList.map fun p => (p.1, evalT tm p.2)) = some a) : OpRun P D W o tm h (.slice (some ⟨h.n, 0, none⟩) len len) (h.push a) :=
 .ofNew (by simp [ho]) fun m w A hm hf hx H => by
  have hp := parts_rel (m := m) (A := A) (tm := tm) (ps := ps) (by simpa [ho, Op.operands] using hx)
  unfold aBuildSlice at he
  split at he
  ·
   rename_i e hu
   split at he
   ·
    rename_i size hs
    split at he
    ·
     rename_i hle
     split at he
     ·
      rename_i z hz
      simp only [Option.map_eq_some_iff] at he
      obtain ⟨c, hc, rfl⟩ := he
      obtain ⟨hzr, hzs⟩ := aZeros_rel hz m
      obtain ⟨c', e1, e2⟩ := fill_rel _ _ _ _ _ _ hp.1 hp.2 hzr hc
      have e3 : (ps.map fun x => (x.1, A.eval x.2)).toList = ps.toList.map fun p => (p.1, A.eval p.2) := by simp
      refine ⟨.slice (some ⟨w.heap.size, 0, none⟩) len len, .cells c' e (0, 0), locNew w size c.length 0, w, rfl, rfl, rfl, rfl, rfl, ?_, H.row hf hs e2, ?_⟩
      · exact .slice (l := locNew w size c.length 0) (upd_same _ _ _) (.inl rfl)
      ·
       have hle' : ¬ len * size > 2 ^ 24 := by omega
       simp only [execOp, ho, Instr.buildSlice, Sem.run_bind, run_under hu, Result.andThen_ok, run_sizeOf hs, e3, if_neg hle', Sem.run_pure]
       rcases aZeros_run hz w with ⟨h0, rfl⟩ | ⟨h0, z', hz1, hz2⟩
       ·
        have e4 : Instr.fill (fun i => some (i * size, size)) #[] (ps.toList.map fun p => (p.1, A.eval p.2)) = some c' := e1
        simp [h0, e4, newRow, World.alloc_eq, map_range0]
       · simp [h0, hz1, hz2, e1, newRow, World.alloc_eq]
     · cases he
    · cases he
   · cases he
  · cases he
end
end Go.Proofs.YtncbbeghkpjpbaaDoor
namespace Go.Proofs.YtncbbeghkpjpbaaDoor
section
variable {P : Program} {D W : Nat → Prop} {o : Oper} {tm : List Value} {h : AHeap}
def bnd (d : Nat) : Option Value → Option Nat
 | none => some d
 | some (.int _ i) => if 0 ≤ i then some i.toNat else none
 | some _ => none
def tight (P : Program) (h : AHeap) (b o cap : Nat) : Bool := match h.get b with
 | some (.cells c t) => match sizeT P t with
  | some sz => o + cap * sz == c.length
  | none => true
 | some (.ro _) => false
 | _ => true
def sameSize (P : Program) (h : AHeap) (b n : Nat) : Bool := match h.get b with
 | some (.cells c t) => sizeT P t == some n
 | _ => false
theorem capOk_exact {m : Mp} {w : World} (H : HRel P m D h w) {b o cap cap' : Nat} {l : Loc} (hm : m b = some l) (ht : tight P h b o cap = false) (hc : CapOk l o cap cap') : cap' = cap := by
 rcases hc with hc | ⟨h1, h2⟩
 · exact hc
 ·
  unfold tight at ht
  split at ht
  ·
   rename_i c t hg
   have ht' := H.typ b l c t hm hg
   rw [ht'.1] at ht
   simp at ht
   omega
  ·
   rename_i c hg
   have := H.roS b l c hm hg
   omega
  · cases ht
def aSlice (P : Program) (h : AHeap) (t : TypeId) (lo hi mx : Option Value) : Value → Option Value
 | .slice (some ⟨b, o, none⟩) len cap => match P.underlying t with
  | some (.slice e) => match sizeT P e, bnd 0 lo, bnd len hi, bnd cap mx with
   | some n, some l, some r, some x => if l ≤ r ∧ r ≤ x ∧ x ≤ cap ∧ (mx.isSome ∧ hi.isSome ∨ mx = none ∧ (sameSize P h b n = true ∨ tight P h b o cap = false)) then some (.slice (some ⟨b, o + l * n, none⟩) (r - l) (x - l)) else none
   | _, _, _, _ => none
  | _ => none
 | .slice none 0 0 => match P.underlying t with
  | some (.slice e) => match sizeT P e, bnd 0 lo, bnd 0 hi, bnd 0 mx with
   | some _, some 0, some 0, some 0 => if mx.isSome → hi.isSome then some (.slice none 0 0) else none
   | _, _, _, _ => none
  | _ => none
 | .pointer (some ⟨b, o, none⟩) => match P.underlying t with
  | some (.array k e) => match sizeT P e, bnd 0 lo, bnd k hi, bnd k mx with
   | some n, some l, some r, some x => if l ≤ r ∧ r ≤ x ∧ x ≤ k ∧ (mx.isSome → hi.isSome) then some (.slice (some ⟨b, o + l * n, none⟩) (r - l) (x - l)) else none
   | _, _, _, _ => none
  | _ => none
 | .string s => match P.underlying t with
  | some .string => match bnd 0 lo, bnd s.size hi with
   | some l, some r => if l ≤ r ∧ r ≤ s.size ∧ mx = none then some (.string ⟨((s.data.toList.take r).drop l).toArray⟩) else none
   | _, _ => none
  | _ => none
 | _ => none
theorem bnd_run {x : Option Value} {d l y : Nat} (he : bnd d x = some l) (hx : x.isSome = true) (hle : l ≤ y) (code : BoundsCode) (w : World) : ∃ v, x = some v ∧ (Instr.sliceBound v y code).run P w = .ok l w := by
 unfold bnd at he
 split at he
 · cases hx
 ·
  rename_i k i
  split at he
  ·
   rename_i h0
   cases he
   have : i ≤ (y : Int) := by omega
   exact ⟨_, rfl, by simp [Instr.sliceBound, asIntOf, h0, this]⟩
  · cases he
 · cases he
theorem bnd_none {d l : Nat} (he : bnd d none = some l) : l = d := by simp [bnd] at he; exact he.symm
theorem run_bounds {isS : Bool} {lo hi mx : Option Value} {len cap cap' l r x : Nat} (hl : bnd 0 lo = some l) (hr : bnd len hi = some r) (hx : bnd cap mx = some x) (h1 : l ≤ r) (h2 : r ≤ x) (h3 : x ≤ cap) (h4 : cap ≤ cap') (h5 : mx.isSome → hi.isSome) (w : World) :
  (Instr.sliceBounds isS len cap' lo hi mx).run P w = .ok (l, r, if mx.isSome then x else cap') w := by
 cases mx with
 | none =>
  have := bnd_none hx
  subst this
  cases hi with
  | none =>
   have := bnd_none hr
   subst this
   cases lo with
   | none => have := bnd_none hl; subst this; simp [Instr.sliceBounds]
   | some v =>
    obtain ⟨v', e, hrun⟩ := bnd_run (P := P) (y := r) hl rfl h1 .sliceB w
    cases e
    simp [Instr.sliceBounds, hrun]
  | some u =>
   obtain ⟨u', e, hrun⟩ := bnd_run (P := P) (y := cap') hr rfl (by omega) (if isS then .sliceAcap else .sliceAlen) w
   cases e
   cases lo with
   | none => have := bnd_none hl; subst this; simp [Instr.sliceBounds, hrun]
   | some v =>
    obtain ⟨v', e, hrun'⟩ := bnd_run (P := P) (y := r) hl rfl h1 .sliceB w
    cases e
    simp [Instr.sliceBounds, hrun, hrun']
 | some z =>
  obtain ⟨z', e, hrunz⟩ := bnd_run (P := P) (y := cap') hx rfl (by omega) (if isS then .slice3Acap else .slice3Alen) w
  cases e
  cases hi with
  | none => simp at h5
  | some u =>
   obtain ⟨u', e, hrun⟩ := bnd_run (P := P) (y := x) hr rfl h2 .slice3B w
   cases e
   cases lo with
   | none => have := bnd_none hl; subst this; simp [Instr.sliceBounds, hrunz, hrun]
   | some v =>
    obtain ⟨v', e, hrun'⟩ := bnd_run (P := P) (y := r) hl rfl h1 .slice3C w
    cases e
    simp [Instr.sliceBounds, hrunz, hrun, hrun']
theorem bnd_rel {m : Mp} {d l : Nat} {x x' : Option Value} (he : bnd d x = some l) (hn : x.isSome = x'.isSome) (hr : ∀ v v', x = some v → x' = some v' → VRel m v v') : x' = x := by
 cases x with
 | none => cases x' with
  | none => rfl
  | some v => cases hn
 | some v => cases x' with
  | none => cases hn
  | some v' =>
   have := hr v v' rfl rfl
   cases v with
   | int k i => rw [VRel.eq_of_flat this rfl]
   | _ => simp [bnd] at he
theorem OpRun.slice {t : TypeId} {x : Operand} {lo hi mx : Option Operand} {v : Value} (ho : o.op = .slice t x lo hi mx) (he : aSlice P h t (lo.map (evalT tm)) (hi.map (evalT tm)) (mx.map (evalT tm)) (evalT tm x) = some v) : OpRun P D W o tm h v h :=
 .ofPure (by simp [ho]) fun m w A hm hx H => by
  have ha := hx x (by simp [ho, Op.operands])
  have hlo : ∀ v v', lo.map (evalT tm) = some v → lo.map A.eval = some v' → VRel m v v' := fun v v' e e' => by
   cases lo with
   | none => cases e
   | some y => cases e; cases e'; exact hx y (by simp [ho, Op.operands])
  have hhi : ∀ v v', hi.map (evalT tm) = some v → hi.map A.eval = some v' → VRel m v v' := fun v v' e e' => by
   cases hi with
   | none => cases e
   | some y => cases e; cases e'; exact hx y (by simp [ho, Op.operands])
  have hmx : ∀ v v', mx.map (evalT tm) = some v → mx.map A.eval = some v' → VRel m v v' := fun v v' e e' => by
   cases mx with
   | none => cases e
   | some y => cases e; cases e'; exact hx y (by simp [ho, Op.operands])
  unfold aSlice at he
  split at he
  ·
   rename_i b oo len cap e1
   rw [e1] at ha
   split at he
   ·
    rename_i e hu
    split at he
    ·
     rename_i n l r z hn b1 b2 b3
     split at he
     ·
      rename_i hcond
      obtain ⟨c1, c2, c3, c4⟩ := hcond
      cases he
      rw [← bnd_rel b1 (by simp) hlo] at b1
      rw [← bnd_rel b2 (by simp) hhi] at b2
      have emx := bnd_rel b3 (by simp) hmx
      rw [← emx] at b3
      have c5 : (mx.map A.eval).isSome → (hi.map A.eval).isSome := by
       rcases c4 with ⟨_, c4⟩ | ⟨c4, _⟩
       · intro _; simpa using c4
       · intro e; rw [emx, c4] at e; cases e
      generalize hy : A.eval x = y at ha
      cases ha with
      | @slice _ _ _ _ cap' k hk hc =>
       have hcc : cap ≤ cap' := by rcases hc with rfl | ⟨_, rfl⟩ <;> omega
       have hrun := run_bounds (P := P) (isS := true) (len := len) (cap' := cap') b1 b2 b3 c1 c2 c3 hcc c5 w
       generalize hz' : (if (mx.map A.eval).isSome then z else cap') = z' at hrun
       have hcap : CapOk k (oo + l * n) (z - l) (z' - l) ∧ z ≤ z' := by
        rcases c4 with ⟨c4, _⟩ | ⟨c4, c6⟩
        ·
         rw [if_pos (by rw [emx]; exact c4)] at hz'
         subst hz'; exact ⟨.inl rfl, Nat.le_refl _⟩
        ·
         rw [if_neg (by rw [emx, c4]; simp)] at hz'
         subst hz'
         rw [emx, c4] at b3
         have hzc := bnd_none b3
         subst hzc
         refine ⟨?_, hcc⟩
         rcases hc with rfl | ⟨t1, t2⟩
         · exact .inl rfl
         ·
          rcases c6 with c6 | c7
          ·
           unfold sameSize at c6
           split at c6
           ·
            rename_i c ct hg
            simp at c6
            have := H.typ b k c ct hk hg
            rw [c6] at this
            have hsz : n = k.sz := by simpa using this.1
            refine .inr ⟨?_, by omega⟩
            rw [← hsz] at t1 ⊢
            rw [← t1, Nat.add_assoc, ← Nat.add_mul]
            congr 2
            omega
           · cases c6
          ·
           have := capOk_exact H hk c7 (.inr ⟨t1, t2⟩)
           exact .inl (by omega)
       by_cases hz : z' = l
       ·
        have : z = l := by omega
        have : r = l := by omega
        subst hz
        refine ⟨.slice (some ⟨k.b, oo + k.sh, none⟩) 0 0, ?_, ?_⟩
        ·
         have e1 : r - z' = 0 := by omega
         have e2 : z - z' = 0 := by omega
         rw [e1, e2]
         exact .slice0 _ _ _
        ·
         simp [execOp, ho, Instr.sliceAt, Instr.slice, run_under hu, hy, hrun, run_sizeOf hn]
         omega
       ·
        refine ⟨.slice (some ⟨k.b, oo + l * n + k.sh, none⟩) (r - l) (z' - l), .slice hk hcap.1, ?_⟩
        simp [execOp, ho, Instr.sliceAt, Instr.slice, run_under hu, hy, hrun, run_sizeOf hn, hz, addr_add]
      | slice0 _ _ a =>
       obtain ⟨rfl, rfl, rfl⟩ : l = 0 ∧ r = 0 ∧ z = 0 := by omega
       have hrun := run_bounds (P := P) (isS := true) (len := 0) (cap' := 0) b1 b2 b3 c1 c2 c3 (Nat.le_refl _) c5 w
       have hz : (if (mx.map A.eval).isSome then 0 else 0) = 0 := by split <;> rfl
       rw [hz] at hrun
       exact ⟨.slice (some a) 0 0, .slice0 _ _ _, by simp [execOp, ho, Instr.sliceAt, Instr.slice, run_under hu, hy, hrun, run_sizeOf hn]⟩
     · cases he
    · cases he
   · cases he
  ·
   rename_i e1
   rw [e1] at ha
   have ha := VRel.eq_of_flat ha rfl
   split at he
   ·
    rename_i e hu
    split at he
    ·
     rename_i n hn b1 b2 b3
     split at he
     ·
      rename_i hcond
      cases he
      rw [← bnd_rel b1 (by simp) hlo] at b1
      rw [← bnd_rel b2 (by simp) hhi] at b2
      rw [← bnd_rel b3 (by simp) hmx] at b3
      have hrun := run_bounds (P := P) (isS := true) (len := 0) (cap' := 0) b1 b2 b3 (Nat.le_refl _) (Nat.le_refl _) (Nat.le_refl _) (Nat.le_refl _) (by simpa using hcond) w
      have hz : (if (mx.map A.eval).isSome then 0 else 0) = 0 := by split <;> rfl
      rw [hz] at hrun
      exact ⟨_, .snil, by simp [execOp, ho, Instr.sliceAt, Instr.slice, run_under hu, ha, hrun, run_sizeOf hn]⟩
     · cases he
    · cases he
   · cases he
  ·
   rename_i b oo e1
   rw [e1] at ha
   split at he
   ·
    rename_i kk e hu
    split at he
    ·
     rename_i n l r z hn b1 b2 b3
     split at he
     ·
      rename_i hcond
      obtain ⟨c1, c2, c3, c4⟩ := hcond
      cases he
      rw [← bnd_rel b1 (by simp) hlo] at b1
      rw [← bnd_rel b2 (by simp) hhi] at b2
      rw [← bnd_rel b3 (by simp) hmx] at b3
      have hrun := run_bounds (P := P) (isS := false) (len := kk) (cap' := kk) b1 b2 b3 c1 c2 c3 (Nat.le_refl _) (by simpa using c4) w
      have hz : (if (mx.map A.eval).isSome then z else kk) = z := by
       split
       · rfl
       ·
        rename_i hh
        cases mx with
        | none => exact (bnd_none b3).symm
        | some _ => simp at hh
      rw [hz] at hrun
      generalize hy : A.eval x = y at ha
      cases ha with
      | @ptr _ _ k hk =>
       by_cases hz : z = l
       ·
        have : r = l := by omega
        subst hz
        refine ⟨.slice (some ⟨k.b, oo + k.sh, none⟩) 0 0, ?_, ?_⟩
        ·
         have e1 : r - z = 0 := by omega
         rw [e1, Nat.sub_self]
         exact .slice0 _ _ _
        ·
         simp [execOp, ho, Instr.sliceAt, run_under hu, hy, hrun, run_sizeOf hn, Instr.sureAddr]
         omega
       ·
        refine ⟨.slice (some ⟨k.b, oo + l * n + k.sh, none⟩) (r - l) (z - l), .slice hk (.inl rfl), ?_⟩
        simp [execOp, ho, Instr.sliceAt, run_under hu, hy, hrun, run_sizeOf hn, hz, addr_add, Instr.sureAddr]
     · cases he
    · cases he
   · cases he
  ·
   rename_i s e1
   rw [e1] at ha
   have ha := VRel.eq_of_flat ha rfl
   split at he
   ·
    rename_i hu
    split at he
    ·
     rename_i l r b1 b2
     split at he
     ·
      rename_i hcond
      obtain ⟨c1, c2, c3⟩ := hcond
      cases he
      rw [← bnd_rel b1 (by simp) hlo] at b1
      rw [← bnd_rel b2 (by simp) hhi] at b2
      have c3' : mx = none := by cases mx with
       | none => rfl
       | some _ => cases c3
      subst c3'
      have hrun := run_bounds (P := P) (isS := false) (len := s.size) (cap := s.size) (cap' := s.size) (mx := none) b1 b2 rfl c1 c2 (Nat.le_refl _) (Nat.le_refl _) (by simp) w
      refine ⟨_, .string _, ?_⟩
      have es : s.extract l r = ⟨((s.data.toList.take r).drop l).toArray⟩ := by
       apply ByteArray.ext
       rw [ByteArray.data_extract]
       apply Array.toList_inj.1
       simp [List.extract, List.drop_take]
      simp [execOp, ho, Instr.sliceAt, Instr.slice, run_under hu, ha, hrun, es]
     · cases he
    · cases he
   · cases he
  · cases he
end
end Go.Proofs.YtncbbeghkpjpbaaDoor
namespace Go.Proofs.YtncbbeghkpjpbaaDoor
section
variable {P : Program} {D W : Nat → Prop} {o : Oper} {tm : List Value} {h : AHeap}
def aSrc (h : AHeap) (size n : Nat) : Value → Option (List Value × List Nat)
 | .slice (some ⟨b, o, none⟩) len _ => if n * size = 0 then some ([], []) else match rowOf (h.get b) with
  | some c => if n ≤ len ∧ o + n * size ≤ c.length then some ((c.drop o).take (n * size), [b]) else none
  | _ => none
 | .slice none _ _ => some ([], [])
 | .string s => some (((s.data.toList.take n).map fun b => .int .u8 b.toNat), [])
 | _ => none
theorem aSrc_run {size n : Nat} {x : Value} {cs : List Value} {rd : List Nat} (he : aSrc h size n x = some (cs, rd)) (hD : ∀ i ∈ rd, D i) {m : Mp} {w : World} (H : HRel P m D h w) {x' : Value} (ha : VRel m x x') :
  ∃ cs', (Builtin.firstCells size n x').run P w = .ok cs' w ∧ ARel m cs.toArray cs' := by
 unfold aSrc at he
 split at he
 ·
  rename_i b o len cap
  split at he
  ·
   rename_i h0
   cases he
   cases ha with
   | slice hk hc => exact ⟨#[], by simp [Builtin.firstCells, h0, loadCells, loadCellsFrom], ARel.empty m⟩
   | slice0 _ _ a => exact ⟨#[], by simp [Builtin.firstCells, h0, loadCells, loadCellsFrom], ARel.empty m⟩
  ·
   rename_i h0
   split at he
   ·
    rename_i c hg
    split at he
    ·
     rename_i hle
     cases he
     cases ha with
     | @slice _ _ _ _ _ l hk hc =>
      obtain ⟨cs', a, b⟩ := H.rloadCells (hD _ (by simp)) hk hg hle.2
      exact ⟨cs', by simp [Builtin.firstCells, a], b⟩
     | slice0 _ _ a =>
      obtain rfl : n = 0 := by omega
      simp at h0
    · cases he
   · cases he
 ·
  cases he
  cases ha with
  | snil => exact ⟨#[], by simp [Builtin.firstCells], ARel.empty m⟩
 ·
  rename_i s
  cases he
  have := VRel.eq_of_flat ha rfl
  subst this
  refine ⟨(s.extract 0 n).data.map fun b => Value.int .u8 b.toNat, by simp only [Builtin.firstCells, Sem.run_pure], ?_⟩
  have e : ((s.extract 0 n).data.map fun b => Value.int .u8 b.toNat) = ((s.data.toList.take n).map fun b => Value.int .u8 b.toNat).toArray := by
   rw [ByteArray.data_extract]
   apply Array.toList_inj.1
   simp [List.extract]
  rw [e]
  exact ⟨rfl, fun i v v' a b => by
   rw [a] at b; cases b
   simp only [List.getElem?_toArray, List.getElem?_map, Option.map_eq_some_iff] at a
   obtain ⟨u, _, rfl⟩ := a
   exact .int _ _⟩
 · cases he
inductive AppSrc (P : Program) (e : TypeId) (size : Nat) : TypeId → Value → Nat → Array Value → World → Prop
 | cells {t : TypeId} {d : TypeDesc} {x : Value} {n : Nat} {new : Array Value} {w : World} (hu : P.underlying t = some d) (hd : d = .string ∨ ∃ e, d = .slice e) (hl : (Builtin.lenOf x).run P w = .ok n w) (hc : (Builtin.firstCells size n x).run P w = .ok new w) : AppSrc P e size t x n new w
 | zeros {t : TypeId} {k kk : IntKind} {i : Int} {new : List Value} {w : World} {inf : TypeInfo} (hu : P.underlying t = some (.int k)) (h0 : 0 ≤ i) (h1 : i ≤ 1099511627776) (hi : P.info? e = some inf) (hb : i * inf.bytes ≤ 281474976710656) (hz : aZeros P e size i.toNat = some new) : AppSrc P e size t (.int kk i) i.toNat new.toArray w
set_option maxHeartbeats 1000000 in
theorem AppSrc.place {t₁ t₂ ty e : TypeId} {size n len cap : Nat} {x : Value} {new : Array Value} {w : World} {base : Option Addr} (hu : P.underlying t₁ = some (.slice e)) (hs : sizeT P e = some size) (hx : AppSrc P e size t₂ x n new w) (hle : len + n ≤ cap) :
  (Builtin.append_ #[t₁, t₂] ty #[.slice base len cap, x]).run P w = (match base with
   | some a => (storeCells (a.add (len * size)) new.toList).run P w
   | none => .ok () w).andThen fun _ w' => .ok (.slice base (len + n) cap) w' := by
 cases hx with
 | cells hu2 hd hl hc =>
  rename_i d
  rcases hd with rfl | ⟨e2, rfl⟩
  all_goals
   cases base with
   | none => simp only [Builtin.append_, List.getElem?_toArray, List.getElem?_cons_zero, List.getElem?_cons_succ, Sem.run_bind, run_under hu, Result.andThen_ok, run_sizeOf hs, run_under hu2, Sem.run_pure, hl, if_pos hle, hc]; simp [hl, hle, hc]
   | some a => simp only [Builtin.append_, List.getElem?_toArray, List.getElem?_cons_zero, List.getElem?_cons_succ, Sem.run_bind, run_under hu, Result.andThen_ok, run_sizeOf hs, run_under hu2, Sem.run_pure, hl, if_pos hle, hc]; simp [hl, hle, hc]
 | zeros hu2 h0 h1 hi hb hz =>
  rename_i k kk i new inf
  have w1 := wrap_small h0 h1
  have n0 : ¬ i < 0 := by omega
  have n1 : ¬ (281474976710656 : Int) < i * inf.bytes := by omega
  rcases aZeros_run hz w with ⟨hz0, rfl⟩ | ⟨hz0, z, hz1, hz2⟩
  ·
   cases base with
   | none => simp [Builtin.append_, run_under hu, run_sizeOf hs, run_under hu2, asInt, asIntOf, w1, n0, typeInfo, hi, n1, hle, hz0]
   | some a => simp [Builtin.append_, run_under hu, run_sizeOf hs, run_under hu2, asInt, asIntOf, w1, n0, typeInfo, hi, n1, hle, hz0]
  ·
   have hzz : Builtin.zeroCells z.cells i.toNat = new.toArray := by
    unfold aZeros at hz
    rw [if_neg hz0] at hz
    split at hz
    ·
     rename_i z' hz'
     split at hz
     ·
      rename_i hc
      cases hz
      have : z = z' := by have := (run_zero hz' w).symm.trans hz1; cases this; rfl
      subst this
      unfold Builtin.zeroCells
      rw [← zeros_eq]
      rfl
     · cases hz
    · cases hz
   cases base with
   | none => simp [Builtin.append_, run_under hu, run_sizeOf hs, run_under hu2, asInt, asIntOf, w1, n0, typeInfo, hi, n1, hle, hz0, hz1]
   | some a => simp [Builtin.append_, run_under hu, run_sizeOf hs, run_under hu2, asInt, asIntOf, w1, n0, typeInfo, hi, n1, hle, hz0, hz1, hzz]
theorem AppSrc.len {t e : TypeId} {size n : Nat} {x : Value} {new : Array Value} {w w' : World} (hl : (Builtin.lenOf x).run P w = .ok n w) : (Builtin.lenOf x).run P w' = .ok n w' := by
 cases x <;> simp_all [Builtin.lenOf]
set_option maxHeartbeats 2000000 in
theorem AppSrc.grow {t₁ t₂ ty e : TypeId} {size n len cap : Nat} {x : Value} {new old : Array Value} {w : World} {base : Option Addr} {inf : TypeInfo} {z : Value} (hu : P.underlying t₁ = some (.slice e)) (hi : P.info? e = some inf) (hsz : inf.size = size) (hz : inf.zero = some z)
  (h63 : len + n ≤ 1099511627776) (hb : (len + n) * inf.bytes ≤ 140737488355328) (hx : AppSrc P e size t₂ x n new w.drew) (hgt : cap < len + n) (hold : (Builtin.firstCells size len (.slice base len cap)).run P w.drew = .ok old w.drew) :
  ∃ c, len + n ≤ c ∧ (Builtin.append_ #[t₁, t₂] ty #[.slice base len cap, x]).run P w = .ok (.slice (some ⟨w.heap.size, 0, none⟩) (len + n) c) (w.drew.alloc (.cells (old ++ new ++ Builtin.zeroCells z.cells (c - (len + n))) e (0, 0))) := by
 have hs : sizeT P e = some size := by simp [sizeT, hi, hsz]
 have hz' : zeroT P e = some z := by simp [zeroT, hi, hz]
 have hnle : ¬ len + n ≤ cap := by omega
 have h63' : ¬ ((len + n : Nat) : Int) > IntKind.i64.max := by simp [IntKind.max, IntKind.signed, IntKind.bits]; omega
 have hfit := growslice_fits (old := cap) (need := len + n) (bytes := inf.bytes) hgt hb
 have hfit' : ¬ Builtin.nextslicecap (len + n) cap * inf.bytes > 2 ^ 48 := by omega
 generalize hq : Question.appendCap (len + n) cap e = q
 have hqf : q.forced = false := by rw [← hq]; rfl
 refine ⟨q.cut (w.tape w.drawn q), by rw [← hq]; simp [Question.cut], ?_⟩
 cases hx with
 | cells hu2 hd hl hc =>
  rename_i d
  have hl' := AppSrc.len (P := P) (t := t₁) (e := e) (size := size) (new := new) (w' := w) hl
  rcases hd with rfl | ⟨e2, rfl⟩
  all_goals
   simp only [Builtin.append_, List.getElem?_toArray, List.getElem?_cons_zero, List.getElem?_cons_succ, Sem.run_bind, run_under hu, Result.andThen_ok, run_sizeOf hs, run_under hu2, Sem.run_pure, hl', if_neg hnle]
   simp only [hl', if_neg hnle, Result.andThen_ok, Sem.run_bind, Sem.run_pure, Bool.false_eq_true, if_false, Bool.not_false, if_true, h63', false_and, typeInfo, run_program, hi, hfit', hq, run_choose, hqf, run_askRoom]
   have e1 : ({ w with drawn := w.drawn + 1 } : World) = w.drew := rfl
   simp only [e1, hold, hc, Result.andThen_ok, run_zero hz', newRow, Sem.run_bind, run_newObj, Sem.run_pure]
   rfl
 | zeros hu2 h0 h1 hi' hb' hzz =>
  rename_i k kk i new inf'
  rw [hi] at hi'; cases hi'
  have w1 := wrap_small h0 h1
  have n0 : ¬ i < 0 := by omega
  have n1 : ¬ i * (inf.bytes : Int) > 2 ^ 48 := by omega
  have e1 : ({ w with drawn := w.drawn + 1 } : World) = w.drew := rfl
  have happ : (if i.toNat * size = 0 then (pure #[] : Sem (Array Value)) else do pure (Builtin.zeroCells (← zeroValue e).cells i.toNat)).run P w.drew = .ok new.toArray w.drew := by
   rcases aZeros_run hzz w.drew with ⟨hz0, rfl⟩ | ⟨hz0, z2, hz1, hz2⟩
   · simp [hz0]
   ·
    rw [if_neg hz0]
    unfold aZeros at hzz
    rw [if_neg hz0, hz'] at hzz
    simp only at hzz
    split at hzz
    ·
     cases hzz
     simp only [Sem.run_bind, run_zero hz', Result.andThen_ok, Sem.run_pure]
     unfold Builtin.zeroCells
     rw [← zeros_eq]
     rfl
    · cases hzz
  simp only [Builtin.append_, List.getElem?_toArray, List.getElem?_cons_zero, List.getElem?_cons_succ, Sem.run_bind, run_under hu, Result.andThen_ok, run_sizeOf hs, run_under hu2, Sem.run_pure, asInt, asIntOf, w1]
  simp only [if_true, asInt, asIntOf, w1, if_neg n0, typeInfo, run_program, hi, if_neg n1, if_neg hnle, Result.andThen_ok, Sem.run_bind, Sem.run_pure, Bool.not_true, Bool.false_eq_true, if_false, h63', false_and, hfit', hq, run_choose, hqf, run_askRoom]
  simp only [e1, hold, Result.andThen_ok]
  rw [happ]
  simp only [Result.andThen_ok, run_zero hz', newRow, Sem.run_bind, run_newObj, Sem.run_pure]
  rfl
end
end Go.Proofs.YtncbbeghkpjpbaaDoor
namespace Go.Proofs.YtncbbeghkpjpbaaDoor
section
variable {P : Program} {D W : Nat → Prop} {o : Oper} {tm : List Value} {h : AHeap}
theorem run_storeRaw {b off : Nat} {t : TypeId} {fz : Nat × Nat} : ∀ (vs : List Value) (w : World) (c : Array Value) (k : Nat), w.heap[b]? = some (.cells c t fz) → FzOk P t c.size fz → off + k + vs.length ≤ c.size → (∀ v ∈ vs, v.oneCell' = true) →
  ∃ w', (storeCells ⟨b, off, none⟩ vs k).run P w = .ok () w' ∧ w'.heap[b]? = some (.cells (setL c.toList (off + k) vs).toArray t fz) ∧ (∀ j, j ≠ b → w'.heap[j]? = w.heap[j]?) ∧ w'.heap.size = w.heap.size ∧ w'.os = w.os ∧ w'.tape = w.tape ∧ w'.output = w.output
 | [], w, c, k, hg, hf, hl, h1 => ⟨w, by simp [storeCells], by simpa [setL] using hg, fun _ _ => rfl, rfl, rfl, rfl, rfl⟩
 | v :: vs, w, c, k, hg, hf, hl, h1 => by
  simp only [List.length_cons] at hl
  have hlt : off + k < c.size := by omega
  have hcell : w.cell? ⟨b, off + k, none⟩ = some c[off + k] := by simp [World.cell?, hg, hlt]
  have hfz : w.frozen? ⟨b, off + k, none⟩ = false := by simp only [World.frozen?, hg]; exact hf.not hlt
  have hg' : (w.setCell ⟨b, off + k, none⟩ v).heap[b]? = some (.cells (c.setIfInBounds (off + k) v) t fz) := by rw [heap_setCell, if_pos rfl, hg]; rfl
  obtain ⟨w', a, e1, e2, e3, e4, e5, e6⟩ := run_storeRaw (off := off) vs (w.setCell ⟨b, off + k, none⟩ v) _ (k + 1) hg' (by simpa using hf) (by simp; omega) (fun u hu => h1 u (List.mem_cons_of_mem _ hu))
  refine ⟨w', ?_, ?_, fun j hj => ?_, ?_, e4, e5, e6⟩
  ·
   unfold storeCells
   simp [addr_add, run_store P w _ v .plain (h1 v (by simp)), hcell, hfz, a]
  · rw [e1, Array.toList_setIfInBounds, show off + (k + 1) = off + k + 1 from by omega, setL_cons (by simpa using hlt)]
  · rw [e2 j hj, heap_setCell, if_neg (Ne.symm hj)]
  · rw [e3]; simp [World.setCell]
theorem VRel.nil_len {m : Mp} {len cap : Nat} {v : Value} (h : VRel m (.slice none len cap) v) : len = 0 := by cases h; rfl
theorem setL_get {c vs : List Value} {o : Nat} (h : o + vs.length ≤ c.length) (i : Nat) : (setL c o vs)[i]? = if o ≤ i ∧ i < o + vs.length then vs[i - o]? else c[i]? := by
 unfold setL
 rw [List.append_assoc, List.getElem?_append]
 have hl : (c.take o).length = o := by simp; omega
 rw [hl]
 by_cases h1 : i < o
 · rw [if_pos h1, if_neg (by omega), List.getElem?_take, if_pos h1]
 ·
  rw [if_neg h1, List.getElem?_append]
  by_cases h2 : i - o < vs.length
  · rw [if_pos h2, if_pos (by omega)]
  ·
   rw [if_neg h2, if_neg (by omega), List.getElem?_drop]
   congr 1
   omega
def aNew (P : Program) (h : AHeap) (e : TypeId) (inf : TypeInfo) (t : TypeId) (x : Value) : Option (Nat × List Value × List Nat) :=
 match P.underlying t with
 | some (.int _) => match x with
  | .int _ i => if 0 ≤ i ∧ i ≤ 1099511627776 ∧ i * inf.bytes ≤ 281474976710656 then (aZeros P e inf.size i.toNat).map fun c => (i.toNat, c, []) else none
  | _ => none
 | some .string => match x with
  | .string s => if inf.size = 1 then (aSrc h 1 s.size x).map fun r => (s.size, r.1, r.2) else none
  | _ => none
 | some (.slice _) => match x with
  | .slice _ len _ => (aSrc h inf.size len x).map fun r => (len, r.1, r.2)
  | _ => none
 | _ => none
theorem aSrc_length {size n : Nat} {x : Value} {cs : List Value} {rd : List Nat} (he : aSrc h size n x = some (cs, rd)) (hx1 : ∀ l c, x = .slice none l c → n = 0) (hx2 : ∀ s, x = .string s → n = s.size ∧ size = 1) : cs.length = n * size := by
 unfold aSrc at he
 split at he
 ·
  split at he
  · rename_i h0; cases he; simpa using h0.symm
  ·
   split at he
   ·
    split at he
    · rename_i hle; cases he; simp; omega
    · cases he
   · cases he
 · cases he; obtain rfl := hx1 _ _ rfl; simp
 ·
  rename_i s
  cases he
  obtain ⟨e1, e2⟩ := hx2 _ rfl
  rw [e2, e1, List.length_map, List.length_take, Nat.mul_one]
  exact Nat.min_eq_left (Nat.le_refl _)
 · cases he
theorem aNew_run {e : TypeId} {inf : TypeInfo} {t : TypeId} {x : Value} {n : Nat} {new : List Value} {rd : List Nat} (hi : P.info? e = some inf) (he : aNew P h e inf t x = some (n, new, rd)) (hD : ∀ i ∈ rd, D i) {m : Mp} {w : World} (H : HRel P m D h w) {x' : Value} (ha : VRel m x x') :
  ∃ new', AppSrc P e inf.size t x' n new' w ∧ ARel m new.toArray new' := by
 unfold aNew at he
 split at he
 ·
  rename_i k hu
  split at he
  ·
   rename_i kk i
   split at he
   ·
    rename_i hc
    simp only [Option.map_eq_some_iff, Prod.mk.injEq] at he
    obtain ⟨c, hz, rfl, rfl, rfl⟩ := he
    have := VRel.eq_of_flat ha rfl
    subst this
    exact ⟨c.toArray, .zeros hu hc.1 hc.2.1 hi hc.2.2 hz, (aZeros_rel hz m).1⟩
   · cases he
  · cases he
 ·
  rename_i hu
  split at he
  ·
   rename_i s
   split at he
   ·
    rename_i h1
    simp only [Option.map_eq_some_iff, Prod.mk.injEq] at he
    obtain ⟨⟨cs, rd'⟩, hz, rfl, rfl, rfl⟩ := he
    obtain ⟨cs', a, b⟩ := aSrc_run hz hD H ha
    have := VRel.eq_of_flat ha rfl
    subst this
    exact ⟨cs', .cells hu (.inl rfl) (by simp [Builtin.lenOf]) (by rw [h1]; exact a), b⟩
   · cases he
  · cases he
 ·
  rename_i e2 hu
  split at he
  ·
   rename_i ba len cap
   simp only [Option.map_eq_some_iff, Prod.mk.injEq] at he
   obtain ⟨⟨cs, rd'⟩, hz, rfl, rfl, rfl⟩ := he
   obtain ⟨cs', a, b⟩ := aSrc_run hz hD H ha
   refine ⟨cs', .cells hu (.inr ⟨_, rfl⟩) ?_ a, b⟩
   cases ha <;> simp [Builtin.lenOf]
  · cases he
 · cases he
theorem aNew_length {e : TypeId} {inf : TypeInfo} {t : TypeId} {x : Value} {n : Nat} {new : List Value} {rd : List Nat} (he : aNew P h e inf t x = some (n, new, rd)) (hx : ∀ len cap, x = .slice none len cap → len = 0) : new.length = n * inf.size := by
 unfold aNew at he
 split at he
 ·
  split at he
  ·
   split at he
   ·
    simp only [Option.map_eq_some_iff, Prod.mk.injEq] at he
    obtain ⟨c, hz, rfl, rfl, rfl⟩ := he
    exact (aZeros_rel hz fun _ => none).2
   · cases he
  · cases he
 ·
  split at he
  ·
   split at he
   ·
    rename_i h1
    simp only [Option.map_eq_some_iff, Prod.mk.injEq] at he
    obtain ⟨⟨cs, rd'⟩, hz, rfl, rfl, rfl⟩ := he
    rw [h1]
    exact aSrc_length hz (fun _ _ e => by cases e) (fun _ e => by cases e; exact ⟨rfl, rfl⟩)
   · cases he
  · cases he
 ·
  split at he
  ·
   rename_i ba len cap
   simp only [Option.map_eq_some_iff, Prod.mk.injEq] at he
   obtain ⟨⟨cs, rd'⟩, hz, rfl, rfl, rfl⟩ := he
   exact aSrc_length hz (fun l c e => by cases e; exact hx _ _ rfl) (fun _ e => by cases e)
  · cases he
 · cases he
def aGrow (P : Program) (h : AHeap) (e : TypeId) (inf : TypeInfo) (n : Nat) (new : List Value) (rd : List Nat) : Value → Option (Value × AHeap × List Nat × List Nat)
 | .slice none 0 0 => if n = 0 then some (.slice none 0 0, h, rd, []) else if n ≤ 1099511627776 ∧ n * inf.bytes ≤ 140737488355328 then some (.slice (some ⟨h.n, 0, none⟩) n n, h.push (.cells new e), rd, []) else none
 | .slice (some ⟨b, o, none⟩) len cap =>
  if len + n ≤ cap then
   if new.isEmpty then some (.slice (some ⟨b, o, none⟩) (len + n) cap, h, rd, []) else
   match h.get b with
   | some (.cells c t) => if o + len * inf.size + new.length ≤ c.length ∧ new.all Value.oneCell' = true then some (.slice (some ⟨b, o, none⟩) (len + n) cap, h.put b (some (.cells (setL c (o + len * inf.size) new) t)), b :: rd, [b]) else none
   | _ => none
  else if len + n ≤ 1099511627776 ∧ (len + n) * inf.bytes ≤ 140737488355328 then
   match aSrc h inf.size len (.slice (some ⟨b, o, none⟩) len cap) with
   | some (old, rd₂) => if tight P h b o cap = false then some (.slice (some ⟨h.n, 0, none⟩) (len + n) (len + n), h.push (.cells (old ++ new) e), rd ++ rd₂, []) else
    match h.get b with
    | some (.cells c t) => if t = e ∧ o + cap * inf.size = c.length ∧ new.all Value.oneCell' = true ∧ len ≤ cap then some (.slice (some ⟨h.n, 0, none⟩) (len + n) (len + n), (h.put b none).push (.cells (old ++ new) e), b :: (rd ++ rd₂), [b]) else none
    | _ => none
   | none => none
  else none
 | _ => none
def aAppend (P : Program) (h : AHeap) (t₁ t₂ : TypeId) (s x : Value) : Option (Value × AHeap × List Nat × List Nat) :=
 match P.underlying t₁ with
 | some (.slice e) => match P.info? e with
  | some inf => match inf.zero with
   | some z => if 0 < inf.size ∧ zOk z = true ∧ z.cells.toList.length = inf.size then match aNew P h e inf t₂ x with
     | some (n, new, rd) => aGrow P h e inf n new rd s
     | none => none
    else none
   | none => none
  | none => none
 | _ => none
theorem HRel.kill {m : Mp} {w : World} (H : HRel P m D h w) (b : Nat) : HRel P m D (h.put b none) w where
 lt := H.lt
 typ i l c t e g := by
  by_cases hb : b = i
  · subst hb; rw [h.get_put_none] at g; cases g
  · rw [h.get_put_ne _ hb] at g; exact H.typ i l c t e g
 inj i j l k e₁ e₂ g₁ g₂ e := by
  refine H.inj i j l k e₁ e₂ ?_ ?_ e
  ·
   by_cases hb : b = i
   · subst hb; rw [h.get_put_none] at g₁; exact absurd rfl g₁
   · rwa [h.get_put_ne _ hb] at g₁
  ·
   by_cases hb : b = j
   · subst hb; exact absurd (h.get_put_none b) g₂.ne
   · exact AHeap.live_eq (h.get_put_ne _ hb) g₂
 roS i l c e g := by
  by_cases hb : b = i
  · subst hb; rw [h.get_put_none] at g; cases g
  · rw [h.get_put_ne _ hb] at g; exact H.roS i l c e g
 obj i l x hd e g := by
  by_cases hb : b = i
  · subst hb; rw [h.get_put_none] at g; cases g
  · rw [h.get_put_ne _ hb] at g; exact H.obj i l x hd e g
theorem AFr.killPush {b : Nat} (hW : W b) (a : AObj) : AFr W h ((h.put b none).push a) where
 n := by simp
 get i hi hn := by
  rw [AHeap.get_push_ne _ a (by simp; omega), h.get_put_ne _ (show b ≠ i from fun e => hn (e ▸ hW))]
 typ i c t hi e := by
  rw [AHeap.get_push_ne _ a (by simp; omega)] at e
  by_cases hb : b = i
  · subst hb; rw [h.get_put_none] at e; cases e
  · rw [h.get_put_ne _ hb] at e; exact ⟨c, e, rfl⟩
 alive i hi e := by
  rw [AHeap.get_push_ne _ a (by simp; omega)] at e
  by_cases hb : b = i
  · subst hb; rw [h.get_put_none] at e; exact absurd rfl e
  · rwa [h.get_put_ne _ hb] at e
 live i hi e := by
  have e := AHeap.live_eq (AHeap.get_push_ne (h.put b none) a (show (h.put b none).n ≠ i from by simp; omega)) e
  by_cases hb : b = i
  · subst hb; exact absurd (h.get_put_none b) e.ne
  · exact AHeap.live_eq (h.get_put_ne _ hb) e
 roT i c hi e := by
  rw [AHeap.get_push_ne _ a (by simp; omega)] at e
  by_cases hb : b = i
  · subst hb; rw [h.get_put_none] at e; cases e
  · rwa [h.get_put_ne _ hb] at e
theorem HRel.grown {m : Mp} {w : World} (H : HRel P m D h w) (hf : m h.n = none) {c : List Value} {c' rest : Array Value} {t : TypeId} {sz slk : Nat} (ht : sizeT P t = some sz) (hc : ARel m c.toArray c') (hr : slk * sz ≤ rest.size) (hrz : ∀ v ∈ rest.toList, ∀ m : Mp, VRel m v v) :
  HRel P (upd m h.n (locNew w sz c.length slk)) D (h.push (.cells c t)) (w.alloc (.cells (c' ++ rest) t (0, 0))) := by
 have hl : c.length = c'.size := by simpa using hc.1
 refine H.alloc hf rfl (fun d u e => by cases e; exact ⟨ht, rfl⟩) (.cells ⟨rfl, ?_, fun j a b => ?_⟩ (.inl rfl) fun i v e => ?_)
 · simp [locNew, hl]; omega
 ·
  simp only [locNew, Nat.zero_add, hl] at a b
  have hj : j - c'.size < rest.size := by omega
  exact ⟨rest[j - c'.size], by rw [Array.getElem?_append_right a]; simp [hj], hrz _ (by simp)⟩
 ·
  obtain ⟨v', a, b⟩ := hc.get (v := v) (by simpa using e)
  have hlt : i < c'.size := (Array.getElem?_eq_some_iff.1 a).1
  exact ⟨v', by simp only [locNew, Nat.add_zero, Array.getElem?_append, if_pos hlt]; exact a, b.mono (upd_le hf)⟩
theorem HRel.inPlace {m : Mp} {w w' : World} (H : HRel P m D h w) (hf : m h.n = none) {b : Nat} {l : Loc} (hm : m b = some l) {c : List Value} {t e : TypeId} (hg : h.get b = some (.cells c t)) (hd : D b)
  {c' : Array Value} {fz : Nat × Nat} (hw : w'.heap[l.b]? = some (.cells c' e fz)) (hfz : FzOk P e c'.size fz) (hoth : ∀ j, j ≠ l.b → w'.heap[j]? = w.heap[j]?) (hsz : w'.heap.size = w.heap.size)
  {l' : Loc} (hl : l'.b = l.b) (ht : sizeT P e = some l'.sz) {r : List Value} (hr : r.length = l'.A) (hroom : l'.sh + l'.A + l'.slk * l'.sz ≤ c'.size) (hslk : SlkOk l' c') (hv : ∀ (i : Nat) v, r[i]? = some v → ∃ v', c'[i + l'.sh]? = some v' ∧ VRel m v v') (hal : ∃ z, (P.info? e).bind (·.zero) = some z ∧ isBu z = false) :
  HRel P (upd m h.n l') D ((h.put b none).push (.cells r e)) w' where
 lt i k e := by
  rw [hsz]
  by_cases hi : i = h.n
  · subst hi; rw [upd_same] at e; cases e; rw [hl]; exact H.lt b l hm
  · rw [upd_ne m l' hi] at e; exact H.lt i k e
 typ i k d u e g := by
  by_cases hn : i = h.n
  ·
   subst hn; rw [upd_same] at e; cases e
   have : (AHeap.push (h.put b none) (.cells r e)).get h.n = some (.cells r e) := AHeap.get_push_same (h.put b none) _
   rw [this] at g; cases g; exact ⟨ht, hr, .inr hal⟩
  ·
   rw [upd_ne m l' hn] at e; rw [AHeap.get_push_ne (h.put b none) _ (by simp; omega)] at g
   exact (H.kill b).typ i k d u e g
 inj i j l₁ l₂ e₁ e₂ g₁ g₂ ee := by
  have key : ∀ i k, i ≠ h.n → m i = some k → ((h.put b none).push (.cells r e)).get i ≠ none → k.b ≠ l.b := fun i k hi e g ek => by
   rw [AHeap.get_push_ne (h.put b none) _ (by simp; omega)] at g
   have hb : b ≠ i := fun x => by subst x; rw [h.get_put_none] at g; exact g rfl
   rw [h.get_put_ne _ hb] at g
   exact hb (H.inj i b k l e hm g (AHeap.live_of hg rfl) ek).symm
  by_cases hi : i = h.n
  ·
   by_cases hj : j = h.n
   · omega
   ·
    rw [hi, upd_same] at e₁; cases e₁; rw [upd_ne m l' hj] at e₂
    exact absurd (ee.symm.trans hl) (key j _ hj e₂ g₂.ne)
  ·
   by_cases hj : j = h.n
   ·
    rw [hj, upd_same] at e₂; cases e₂; rw [upd_ne m l' hi] at e₁
    exact absurd (ee.trans hl) (key i _ hi e₁ g₁)
   ·
    rw [upd_ne m l' hi] at e₁; rw [upd_ne m l' hj] at e₂
    rw [AHeap.get_push_ne (h.put b none) _ (by simp; omega)] at g₁
    exact (H.kill b).inj i j _ _ e₁ e₂ g₁ (AHeap.live_eq (AHeap.get_push_ne (h.put b none) _ (by simp; omega)) g₂) ee
 roS i k d ei g := by
  by_cases hi : i = h.n
  ·
   have : (AHeap.push (h.put b none) (.cells r e)).get h.n = some (.cells r e) := AHeap.get_push_same (h.put b none) _
   rw [hi, this] at g; cases g
  ·
   rw [upd_ne m l' hi] at ei; rw [AHeap.get_push_ne (h.put b none) _ (by simp; omega)] at g
   exact (H.kill b).roS i k d ei g
 obj i k x hdi e g := by
  by_cases hi : i = h.n
  ·
   rw [hi, upd_same] at e; cases e
   have : (AHeap.push (h.put b none) (.cells r e)).get h.n = some (.cells r e) := AHeap.get_push_same (h.put b none) _
   rw [hi, this] at g; cases g
   rw [hl]
   exact ⟨_, hw, .cells ⟨hr, hroom, hslk⟩ hfz fun q v hq => let ⟨v', a, b⟩ := hv q v hq; ⟨v', a, b.mono (upd_le hf)⟩⟩
  ·
   rw [upd_ne m l' hi] at e
   rw [AHeap.get_push_ne (h.put b none) _ (by simp; omega)] at g
   have hb : b ≠ i := fun y => by subst y; rw [h.get_put_none] at g; cases g
   rw [h.get_put_ne _ hb] at g
   have hne : k.b ≠ l.b := fun ek => hb (H.inj i b k l e hm (by rw [g]; simp) (AHeap.live_of hg rfl) ek).symm
   rw [hoth _ hne]
   obtain ⟨x', a, b⟩ := H.obj i k x hdi e g
   exact ⟨x', a, b.mono (upd_le hf)⟩
end
end Go.Proofs.YtncbbeghkpjpbaaDoor
namespace Go.Proofs.YtncbbeghkpjpbaaDoor
section
variable {P : Program} {D W : Nat → Prop} {o : Oper} {tm : List Value} {h : AHeap}
theorem exec_append {t₁ t₂ : TypeId} {sx xx : Operand} (ho : o.op = .call { callee := .builtin .append, args := #[sx, xx], argTypes := #[t₁, t₂] }) (A : Act) (w : World) :
  (execOp A.eval o).run P w = ((Builtin.append_ #[t₁, t₂] o.type #[A.eval sx, A.eval xx]).run P w).andThen fun v w' => .ok (.value v) w' := by
 simp [execOp, ho, resolve, invoke, builtin]
theorem zeroCells_plain {z : Array Value} (hz : ∀ v ∈ z.toList, ∀ m : Mp, VRel m v v) (h0 : 0 < z.size) (n : Nat) : ∀ v ∈ (Builtin.zeroCells z n).toList, ∀ m : Mp, VRel m v v := fun v hv => by
 simp only [Builtin.zeroCells, Array.toList_map, List.mem_map] at hv
 obtain ⟨i, -, rfl⟩ := hv
 have hi : i % z.size < z.size := Nat.mod_lt _ h0
 rw [getElem!_pos z _ hi]
 exact hz _ (by simp)
theorem size_zeroCells' (z : Array Value) (n : Nat) : (Builtin.zeroCells z n).size = n * z.size := by simp [Builtin.zeroCells]
theorem Fr.drewAlloc (m : Mp) (W : Nat → Prop) {h h' : AHeap} (hn : h'.n = h.n + 1) (w : World) (o' : Obj) (l : Loc) (hb : l.b = w.heap.size) : Fr m (upd m h.n l) W h h' w (w.drew.alloc o') where
 old i hi := upd_ne m l (by omega)
 new i k h1 h2 e := by
  obtain rfl : i = h.n := by omega
  rw [upd_same] at e; cases e; exact .inl (by omega)
 keep b hb _ := by rw [alloc_get, if_neg (show ¬ b = w.drew.heap.size by show ¬ b = w.heap.size; omega)]; rfl
 size := by rw [alloc_size]; show w.heap.size ≤ w.heap.size + 1; omega
 os := rfl
 tape := rfl
 output := rfl
theorem OpRun.append {t₁ t₂ : TypeId} {sx xx : Operand} {v : Value} {h' : AHeap} {rd wr : List Nat} (ho : o.op = .call { callee := .builtin .append, args := #[sx, xx], argTypes := #[t₁, t₂] })
  (he : aAppend P h t₁ t₂ (evalT tm sx) (evalT tm xx) = some (v, h', rd, wr)) (hD : ∀ i ∈ rd, D i) (hW : ∀ i ∈ wr, W i) : OpRun P D W o tm h v h' := by
 have hnd : ∀ c, o.op ≠ .defer c := by simp [ho]
 unfold aAppend at he
 split at he
 case h_2 => cases he
 rename_i e hu
 split at he
 case h_2 => cases he
 rename_i inf hi
 split at he
 case h_2 => cases he
 rename_i z hz
 split at he
 case isFalse => cases he
 rename_i hc0
 obtain ⟨hsz, hzo, hzl⟩ := hc0
 have hzf := zOk.flat hzo
 split at he
 case h_2 => cases he
 rename_i n new rd₁ hnew
 have hs : sizeT P e = some inf.size := by simp [sizeT, hi]
 have hzc : z.cells.size = inf.size := by simpa using hzl
 unfold aGrow at he
 split at he
 ·
  -- nil
  rename_i e1
  split at he
  ·
   rename_i hn0
   cases he
   subst hn0
   refine .ofPure hnd fun m w A hm hx H => ⟨_, .snil, ?_⟩
   have h1 := hx sx (by simp [ho, Op.operands, Call.operands])
   rw [e1] at h1
   have h1 := VRel.eq_of_flat h1 rfl
   obtain ⟨new', hsrc, hnr⟩ := aNew_run hi hnew hD H (hx xx (by simp [ho, Op.operands, Call.operands]))
   rw [exec_append ho, h1, hsrc.place hu hs (by omega)]
   rfl
  ·
   rename_i hn0
   split at he
   ·
    rename_i hb
    cases he
    refine ⟨.push _ _ _, fun m w A r hm hf hx H K Q hK => ?_⟩
    have h1 := hx sx (by simp [ho, Op.operands, Call.operands])
    have h2 := hx xx (by simp [ho, Op.operands, Call.operands])
    rw [e1] at h1
    have h1 := VRel.eq_of_flat h1 rfl
    have hfn := hf h.n (Nat.le_refl _) (by simp)
    have Hd : HRel P m D h w.drew := H.world rfl
    obtain ⟨new', hsrc, hnr⟩ := aNew_run hi hnew hD Hd h2
    have hlen := aNew_length hnew (fun len cap ex => by rw [ex] at h2; exact h2.nil_len)
    obtain ⟨c, hc, hrun⟩ := hsrc.grow (t₁ := t₁) (ty := o.type) (len := 0) (cap := 0) (base := none) (old := #[]) hu hi rfl hz (by omega) (by simpa using hb.2) (by omega) (by simp [Builtin.firstCells])
    rw [Nat.zero_add] at hc hrun
    have hl : new.length = n * inf.size := hlen
    let l : Loc := locNew w inf.size new.length (c - n)
    refine wpIn_value hnd (by rw [exec_append ho, h1, hrun]; rfl) (hK _ _ (upd m h.n l) ?_ ?_ ?_)
    · exact Fr.drewAlloc m W (by simp) w _ l rfl
    · exact .slice (l := l) (upd_same _ _ _) (.inr ⟨by simp [l, locNew, hl], by simp [l, locNew]; omega⟩)
    ·
     have := Hd.grown (slk := c - n) (rest := Builtin.zeroCells z.cells (c - n)) hfn hs hnr (by rw [size_zeroCells', hzc]; exact Nat.le_refl _) (zeroCells_plain (fun v hv m => flat_cells hzf m v hv) (by omega) _)
     simpa [l, locNew] using this
   · cases he
 ·
  -- a row
  rename_i b oo len cap e1
  split at he
  ·
   rename_i hle
   split at he
   ·
    rename_i hemp
    cases he
    refine .ofPure hnd fun m w A hm hx H => ?_
    have h1 := hx sx (by simp [ho, Op.operands, Call.operands])
    rw [e1] at h1
    obtain ⟨new', hsrc, hnr⟩ := aNew_run hi hnew hD H (hx xx (by simp [ho, Op.operands, Call.operands]))
    have hn' : new' = #[] := by
     have := hnr.1
     rw [List.isEmpty_iff.1 hemp] at this
     exact Array.eq_empty_of_size_eq_zero this.symm
    subst hn'
    generalize hy : A.eval sx = y at h1
    cases h1 with
    | @slice _ _ _ _ cap' l hl hcap =>
     refine ⟨_, .slice hl hcap, ?_⟩
     have : cap ≤ cap' := by rcases hcap with rfl | ⟨_, rfl⟩ <;> omega
     rw [exec_append ho, hy, hsrc.place hu hs (by omega)]
     simp [storeCells]
    | slice0 _ _ a =>
     obtain rfl : n = 0 := by omega
     refine ⟨_, .slice0 _ _ a, ?_⟩
     rw [exec_append ho, hy, hsrc.place hu hs (by omega)]
     simp [storeCells]
   ·
    rename_i hemp
    split at he
    ·
     rename_i c t hg
     split at he
     ·
      rename_i hcond
      cases he
      have hWb : W b := hW b (by simp)
      have hDb : D b := hD b (by simp)
      refine ⟨.put h hWb hg (setL_length hcond.1), fun m w A r hm hf hx H K Q hK => ?_⟩
      have h1 := hx sx (by simp [ho, Op.operands, Call.operands])
      have h2 := hx xx (by simp [ho, Op.operands, Call.operands])
      rw [e1] at h1
      obtain ⟨new', hsrc, hnr⟩ := aNew_run hi hnew (fun i hi => hD i (List.mem_cons_of_mem _ hi)) H h2
      have hlen := aNew_length hnew (fun len cap ex => by rw [ex] at h2; exact h2.nil_len)
      generalize hy : A.eval sx = y at h1
      cases h1 with
      | @slice _ _ _ _ cap' l hl hcap =>
       have : cap ≤ cap' := by rcases hcap with rfl | ⟨_, rfl⟩ <;> omega
       obtain ⟨w', a, bb, f⟩ := HRel.storeL (P := P) (t := t) (h := h) hDb hWb (AHeap.live_of hg rfl) (AHeap.lt hg) hl new new'.toList w c h (oo + len * inf.size) 0 H rfl hg (by simpa using hnr) (fun v hv => List.all_eq_true.1 hcond.2 v hv) (by omega)
       refine wpIn_value (v := .slice (some ⟨l.b, oo + l.sh, none⟩) (len + n) cap') (w' := w') hnd ?_ (hK _ w' m ⟨f.old, f.new, f.keep, f.size, f.os, f.tape, f.output⟩ (.slice hl hcap) bb)
       rw [exec_append ho, hy, hsrc.place hu hs (by omega)]
       simp only [addr_add]
       rw [show oo + l.sh + len * inf.size = oo + len * inf.size + l.sh from by omega, a]
       rfl
      | slice0 _ _ a =>
       exfalso
       obtain rfl : n = 0 := by omega
       simp at hlen
       subst hlen
       simp at hemp
     · cases he
    · cases he
  ·
   rename_i hgt
   split at he
   case isFalse => cases he
   rename_i hb
   split at he
   case h_2 => cases he
   rename_i old rd₂ hold
   have hol : old.length = len * inf.size := aSrc_length hold (fun _ _ e => by cases e) (fun _ e => by cases e)
   split at he
   ·
    rename_i htt
    cases he
    refine ⟨.push _ _ _, fun m w A r hm hf hx H K Q hK => ?_⟩
    have h1 := hx sx (by simp [ho, Op.operands, Call.operands])
    have h2 := hx xx (by simp [ho, Op.operands, Call.operands])
    rw [e1] at h1
    have hfn := hf h.n (Nat.le_refl _) (by simp)
    have Hd : HRel P m D h w.drew := H.world rfl
    obtain ⟨new', hsrc, hnr⟩ := aNew_run hi hnew (fun i hi => hD i (by simp [hi])) Hd h2
    have hlen := aNew_length hnew (fun len cap ex => by rw [ex] at h2; exact h2.nil_len)
    obtain ⟨old', hor, hoa⟩ := aSrc_run hold (fun i hi => hD i (by simp [hi])) Hd h1
    have hnn : (old ++ new).length = (len + n) * inf.size := by rw [List.length_append, hol, hlen, Nat.add_mul]
    obtain ⟨ba, hba⟩ : ∃ ba, A.eval sx = .slice ba len cap := by
     generalize hy : A.eval sx = y at h1
     cases h1 with
     | @slice _ _ _ _ cap' l hl hcap =>
      have := capOk_exact H hl htt hcap
      subst this
      exact ⟨_, rfl⟩
     | slice0 _ _ a => exact ⟨_, rfl⟩
    rw [hba] at hor
    obtain ⟨c, hc, hrun⟩ := hsrc.grow (t₁ := t₁) (ty := o.type) hu hi rfl hz hb.1 hb.2 (by omega) hor
    let l : Loc := locNew w inf.size (old ++ new).length (c - (len + n))
    refine wpIn_value hnd (by rw [exec_append ho, hba, hrun]; rfl) (hK _ _ (upd m h.n l) ?_ ?_ ?_)
    · exact Fr.drewAlloc m W (by simp) w _ l rfl
    · exact .slice (l := l) (upd_same _ _ _) (.inr ⟨by simp only [l, locNew, hnn, Nat.zero_add], by simp [l, locNew]; omega⟩)
    · exact Hd.grown (slk := c - (len + n)) (rest := Builtin.zeroCells z.cells (c - (len + n))) hfn hs (by simpa using hoa.append hnr) (by rw [size_zeroCells', hzc]; exact Nat.le_refl _) (zeroCells_plain (fun v hv m => flat_cells hzf m v hv) (by omega) _)
   ·
    split at he
    case h_2 => cases he
    rename_i c t hg
    split at he
    case isFalse => cases he
    rename_i hcond
    obtain ⟨hte, htight, hone, hlc⟩ := hcond
    subst hte
    have hst := hs
    cases he
    have hWb : W b := hW b (by simp)
    have hDb : D b := hD b (by simp)
    refine ⟨.killPush hWb _, fun m w A r hm hf hx H K Q hK => ?_⟩
    have h1 := hx sx (by simp [ho, Op.operands, Call.operands])
    have h2 := hx xx (by simp [ho, Op.operands, Call.operands])
    rw [e1] at h1
    have hfn := hf h.n (Nat.le_refl _) (by simp)
    have Hd : HRel P m D h w.drew := H.world rfl
    have hlen := aNew_length hnew (fun len cap ex => by rw [ex] at h2; exact h2.nil_len)
    have hnn : (old ++ new).length = (len + n) * inf.size := by rw [List.length_append, hol, hlen, Nat.add_mul]
    have away : ∀ ba cap', A.eval sx = .slice ba len cap' → cap' < len + n → o.wpIn (WF r) 0 P A w K Q := fun ba cap' hba hlt => by
     obtain ⟨new', hsrc, hnr⟩ := aNew_run hi hnew (fun i hi => hD i (by simp [hi])) Hd h2
     obtain ⟨old', hor, hoa⟩ := aSrc_run hold (fun i hi => hD i (by simp [hi])) Hd h1
     rw [hba] at hor
     obtain ⟨c, hc, hrun⟩ := hsrc.grow (t₁ := t₁) (ty := o.type) hu hi rfl hz hb.1 hb.2 hlt hor
     let l : Loc := locNew w inf.size (old ++ new).length (c - (len + n))
     refine wpIn_value hnd (by rw [exec_append ho, hba, hrun]; rfl) (hK _ _ (upd m h.n l) ?_ ?_ ?_)
     · exact Fr.drewAlloc m W (by simp) w _ l rfl
     · exact .slice (l := l) (upd_same _ _ _) (.inr ⟨by simp only [l, locNew, hnn, Nat.zero_add], by simp [l, locNew]; omega⟩)
     · exact (Hd.kill b).grown (slk := c - (len + n)) (rest := Builtin.zeroCells z.cells (c - (len + n))) hfn hs (by simpa using hoa.append hnr) (by rw [size_zeroCells', hzc]; exact Nat.le_refl _) (zeroCells_plain (fun v hv m => flat_cells hzf m v hv) (by omega) _)
    generalize hy : A.eval sx = y at h1
    cases h1 with
    | slice0 _ _ a => exact away _ _ hy (by omega)
    | @slice _ _ _ _ cap' l hl hcap =>
     by_cases hfit : len + n ≤ cap'
     ·
      -- the model has room
      have hcap2 : oo + cap * l.sz = l.A ∧ cap' = cap + l.slk := by
       rcases hcap with rfl | hcap
       · omega
       · exact hcap
      obtain ⟨t1, t2⟩ := hcap2
      have htyp := H.typ b l c t hl hg
      have hlsz : l.sz = inf.size := by have := htyp.1; rw [hst] at this; simpa using this.symm
      obtain ⟨new', hsrc, hnr⟩ := aNew_run hi hnew (fun i hi => hD i (by simp [hi])) H h2
      obtain ⟨c', fz, hw, hszok, hfz, hcv⟩ := H.cells hDb hl hg
      have hnl : new'.size = n * inf.size := by rw [← hlen]; simpa using hnr.1.symm
      obtain ⟨s1, s2, s3⟩ := hszok
      rw [hlsz] at t1 s2
      have hroom : oo + l.sh + cap' * inf.size ≤ c'.size := by
       rw [t2, Nat.add_mul]; omega
      have hle2 : (len + n) * inf.size ≤ cap' * inf.size := Nat.mul_le_mul_right _ hfit
      rw [Nat.add_mul] at hle2
      obtain ⟨w', hrun, g1, g2, g3, g4, g5, g6⟩ := run_storeRaw (P := P) (b := l.b) (off := oo + l.sh + len * inf.size) new'.toList w c' 0 hw hfz (by simp [hnl]; omega) (fun v hv => by
       obtain ⟨i, hi1, hi2⟩ := List.getElem_of_mem hv
       have hin : i < new.length := by rw [hlen, ← hnl]; simpa using hi1
       have := hnr.2 i new[i] v (by simp [hin]) (by rw [← hi2]; simp at hi1; simp [hi1])
       rw [oneCell_rel this]
       exact List.all_eq_true.1 hone _ (by simp))
      rw [Nat.add_zero] at g1
      let l' : Loc := ⟨l.b, oo + l.sh, inf.size, (len + n) * inf.size, cap' - (len + n)⟩
      refine wpIn_value (v := .slice (some ⟨l.b, oo + l.sh, none⟩) (len + n) cap') (w' := w') hnd ?_ (hK _ w' (upd m h.n l') ?_ ?_ ?_)
      ·
       rw [exec_append ho, hy, hsrc.place hu hs hfit]
       simp only [addr_add]
       rw [hrun]
       rfl
      ·
       exact ⟨fun i hi => upd_ne m l' (by simp at hi; omega), fun i k h1 h2 e => by
        simp at h2
        obtain rfl : i = h.n := by omega
        rw [upd_same] at e; cases e
        exact .inr ⟨b, l, AHeap.lt hg, hWb, AHeap.live_of hg rfl, hl, rfl⟩, fun q hq hk => g2 q (fun e => hk b l (AHeap.lt hg) hWb (AHeap.live_of hg rfl) hl e.symm), by omega, g4, g5, g6⟩
      ·
       have := VRel.slice (m := upd m h.n l') (i := h.n) (o := 0) (len := len + n) (cap := len + n) (cap' := cap') (l := l') (upd_same _ _ _) (.inr ⟨by simp [l'], by simp [l']; omega⟩)
       simpa [l'] using this
      ·
       refine H.inPlace hfn hl hg hDb g1 ?_ g2 g3 (l' := l') rfl hs hnn ?_ ?_ ?_ ⟨z, by rw [hi]; exact hz, zOk.bu hzo⟩
       ·
        have e9 : (setL c'.toList (oo + l.sh + len * inf.size) new'.toList).toArray.size = c'.size := by
         have := setL_length (c := c'.toList) (vs := new'.toList) (o := oo + l.sh + len * inf.size) (by simp [hnl]; omega)
         simpa using this
        rw [e9]; exact hfz
       ·
        have e9 : (setL c'.toList (oo + l.sh + len * inf.size) new'.toList).toArray.size = c'.size := by
         have := setL_length (c := c'.toList) (vs := new'.toList) (o := oo + l.sh + len * inf.size) (by simp [hnl]; omega)
         simpa using this
        rw [e9]
        simp only [l']
        rw [Nat.add_assoc, ← Nat.add_mul, show len + n + (cap' - (len + n)) = cap' from by omega]
        exact hroom
       ·
        intro j j1 j2
        simp only [l'] at j1 j2
        have e7 : (len + n) * inf.size + (cap' - (len + n)) * inf.size = cap' * inf.size := by rw [← Nat.add_mul]; congr 1; omega
        have e8 : cap' * inf.size = cap * inf.size + l.slk * inf.size := by rw [t2, Nat.add_mul]
        have e10 : cap * inf.size ≤ (len + n) * inf.size := Nat.mul_le_mul_right _ (by omega)
        have e11 : (len + n) * inf.size = len * inf.size + n * inf.size := Nat.add_mul _ _ _
        obtain ⟨u, k1, k2⟩ := s3 j (by omega) (by rw [hlsz]; omega)
        refine ⟨u, ?_, k2⟩
        have q := setL_get (c := c'.toList) (vs := new'.toList) (o := oo + l.sh + len * inf.size) (by simp [hnl]; omega) j
        rw [if_neg (by simp [hnl]; omega)] at q
        simpa using q.trans (by simpa using k1)
       ·
        intro i v hv
        have hoc : ∀ (i : Nat) v, old[i]? = some v → c[oo + i]? = some v := fun i v hv => by
         unfold aSrc at hold
         simp only at hold
         split at hold
         · cases hold; simp at hv
         ·
          rw [hg] at hold
          simp only [rowOf] at hold
          split at hold
          ·
           cases hold
           rw [List.getElem?_take] at hv
           split at hv
           · rwa [List.getElem?_drop] at hv
           · cases hv
          · cases hold
        rw [List.getElem?_toArray, setL_get (by simp [hnl]; omega)]
        rw [List.getElem?_append] at hv
        simp only [l', Array.length_toList, Array.getElem?_toList]
        split at hv
        ·
         rename_i hio
         rw [if_neg (by omega)]
         obtain ⟨v', a1, a2⟩ := hcv _ v (hoc i v hv)
         exact ⟨v', by rw [← a1]; congr 1; omega, a2⟩
        ·
         rename_i hio
         obtain ⟨v', a1, a2⟩ := hnr.get (v := v) (i := i - old.length) (by simpa using hv)
         have hlt : i - old.length < new'.size := (Array.getElem?_eq_some_iff.1 a1).1
         rw [if_pos (by omega)]
         exact ⟨v', by rw [← a1]; congr 1; omega, a2⟩
     · exact away _ _ hy (by omega)
 · cases he
end
end Go.Proofs.YtncbbeghkpjpbaaDoor
namespace Go.Proofs.YtncbbeghkpjpbaaDoor
def okOpd (P : Program) : Operand → Bool
 | .tmp _ => true
 | .const v => flatB v
 | .global g => decide (g < P.globals.size)
 | .func _ => true
def opsOk (P : Program) (ops : Array Oper) : Bool := ops.toList.all fun o => o.op.operands.toList.all (okOpd P)
def putT (tm : List Value) (d : Option Tmp) (v : Value) : List Value := match d with
 | some t => tm.set t v
 | none => tm
theorem opd_rel {P : Program} {m : Mp} (hm : MOk P m) {tm : List Value} {A : Act} {x : Operand} (hk : okOpd P x = true) (ht : ∀ t, x = .tmp t → VRel m (tm.getD t undef) (A.tmps.getD t undef)) : VRel m (evalT tm x) (A.eval x) := by
 cases x with
 | tmp t => exact ht t rfl
 | const v => exact VRel.flat m hk
 | global g =>
  obtain ⟨l, h1, h2, h3⟩ := hm g (by simpa [okOpd] using hk)
  have := VRel.ptr (m := m) (o := 0) h1
  simpa [evalT, Act.eval, h2, h3] using this
 | func f => exact .func (fun r => by simp) rfl rfl (fun i v v' e => by simp at e) (fun i v v' e => by simp at e)
def bef (ops : Array Oper) (i j : Nat) : Bool := ((Region.before ops).getD j 0).testBit i
theorem before_fold (i : Nat) (acc : Array Nat) : ∀ (es : List Edge) (s : Nat), (es.foldl (fun s e => if Region.binds .any e then s ||| 2 ^ e.on ||| acc.getD e.on 0 else s) s).testBit i = true → s.testBit i = true ∨ ∃ e ∈ es, Region.binds .any e = true ∧ (i = e.on ∨ (acc.getD e.on 0).testBit i = true)
 | [], s, h => .inl h
 | e :: es, s, h => by
  simp only [List.foldl_cons] at h
  rcases before_fold i acc es _ h with h1 | ⟨e', he, h2⟩
  ·
   split at h1
   ·
    rename_i hb
    simp only [Nat.testBit_or, Bool.or_eq_true, Nat.testBit_two_pow, decide_eq_true_eq] at h1
    rcases h1 with (h1 | h1) | h1
    · exact .inl h1
    · exact .inr ⟨e, by simp, hb, .inl h1.symm⟩
    · exact .inr ⟨e, by simp, hb, .inr h1⟩
   · exact .inl h1
  · exact .inr ⟨e', List.mem_cons_of_mem _ he, h2⟩
theorem before_go (f : Array Nat → Oper → Nat) : ∀ (l : List Oper) (acc : Array Nat), ∃ tab : Array Nat, l.foldl (fun a o => a.push (f a o)) acc = acc ++ tab ∧ tab.size = l.length ∧ ∀ (j : Nat) o, l[j]? = some o → ∃ a : Array Nat, (∀ q, q < acc.size + j → a[q]? = (acc ++ tab)[q]?) ∧ a.size = acc.size + j ∧ (acc ++ tab)[acc.size + j]? = some (f a o)
 | [], acc => ⟨#[], by simp, rfl, fun j o e => by simp at e⟩
 | o :: l, acc => by
  obtain ⟨tab, h1, h2, h3⟩ := before_go f l (acc.push (f acc o))
  refine ⟨#[f acc o] ++ tab, ?_, by simp [h2]; omega, fun j x e => ?_⟩
  ·
   simp only [List.foldl_cons, h1]
   apply Array.toList_inj.1; simp
  ·
   have e0 : acc ++ (#[f acc o] ++ tab) = acc.push (f acc o) ++ tab := by apply Array.toList_inj.1; simp
   cases j with
   | zero =>
    simp at e
    subst e
    refine ⟨acc, fun q hq => ?_, by simp, ?_⟩
    · rw [Array.getElem?_append_left (by omega)]
    ·
     rw [e0, Array.getElem?_append_left (by simp)]
     simp
   | succ j =>
    obtain ⟨a, g1, g2, g3⟩ := h3 j x (by simpa using e)
    refine ⟨a, fun q hq => ?_, by simp at g2; omega, ?_⟩
    · rw [e0]; exact g1 q (by simp; omega)
    · rw [e0]; simpa [Nat.add_assoc, Nat.add_comm 1] using g3
theorem bef_edge {ops : Array Oper} {i j : Nat} {o : Oper} (ho : ops[j]? = some o) (h : bef ops i j = true) : ∃ e ∈ o.after, Region.binds .any e = true ∧ (i = e.on ∨ bef ops i e.on = true) := by
 have hb : Region.before ops = ops.toList.foldl (fun a o => a.push (o.after.foldl (fun s e => if Region.binds .any e then s ||| 2 ^ e.on ||| a.getD e.on 0 else s) 0)) #[] := by
  unfold Region.before
  rw [← Array.foldl_toList]
 obtain ⟨tab, h1, h2, h3⟩ := before_go (fun a o => o.after.foldl (fun s e => if Region.binds .any e then s ||| 2 ^ e.on ||| a.getD e.on 0 else s) 0) ops.toList #[]
 obtain ⟨a, g1, g2, g3⟩ := h3 j o (by simpa using ho)
 simp only [List.size_toArray, List.length_nil, Nat.zero_add, Array.empty_append] at g1 g2 g3 h1
 rw [← hb] at h1
 unfold bef at h
 rw [h1, Array.getD_eq_getD_getElem?, g3] at h
 simp only [Option.getD_some] at h
 rw [← Array.foldl_toList] at h
 rcases before_fold i a _ 0 h with h4 | ⟨e, he, hbind, h5⟩
 · simp at h4
 ·
  refine ⟨e, by simpa using he, hbind, h5.imp id fun h6 => ?_⟩
  unfold bef
  rw [h1]
  by_cases hlt : e.on < j
  · rw [Array.getD_eq_getD_getElem?, ← g1 e.on hlt, ← Array.getD_eq_getD_getElem?]; exact h6
  · rw [Array.getD_eq_getD_getElem?, Array.getElem?_eq_none (by omega)] at h6; simp at h6
structure Trace (P : Program) (ops : Array Oper) (T : Nat → List Value) (H : Nat → AHeap) (V : Nat → Value) (D W : Nat → Nat → Prop) (L : Nat → Prop) : Prop where
 step : ∀ k o, ops[k]? = some o → (Region.wanted o (yielded ops (T k).toArray) = true ∧ OpRun P (D k) (W k) o (T k) (H k) (V k) (H (k + 1))) ∨ (Region.wanted o (yielded ops (T k).toArray) = false ∧ V k = undef ∧ H (k + 1) = H k) ∨ (Region.wanted o (yielded ops (T k).toArray) = true ∧ H (k + 1) = H k ∧ (∀ i, ¬ D k i) ∧ ∃ b, ∀ q, q ≤ ops.size → (∀ i, i < q → L i → W i b → bef ops k i = false) → OpRun P (fun i => i = b) (fun _ => False) o (T k) (H q) (V k) (H q))
 tm : ∀ k o, ops[k]? = some o → T (k + 1) = putT (T k) o.dst (V k)
 own : ∀ k, ¬ L k → ∀ i, W k i → (H k).n ≤ i
 new : ∀ k i, (H k).n ≤ i → i < (H (k + 1)).n → D k i
 rw : ∀ k i, L k → W k i → D k i
 apart : ∀ i j oi oj, i < j → ops[i]? = some oi → ops[j]? = some oj → bef ops i j = true ∨ oi.apart ops oj = true
 loud : ∀ i j, L i → i ≠ j → i < ops.size → j < ops.size → bef ops i j = false → bef ops j i = false → (¬ L j ∨ H (j + 1) = H j) ∧ ∀ id, W i id → ¬ D j id
 wlt : ∀ k i, W k i → i < (H k).n
 edge : ∀ k o e, ops[k]? = some o → e ∈ o.after → Region.binds .any e = true → e.on < k
 opds : opsOk P ops = true
section
variable {P : Program} {ops : Array Oper} {T : Nat → List Value} {H : Nat → AHeap} {V : Nat → Value} {D W : Nat → Nat → Prop} {L : Nat → Prop}
theorem Trace.fr (t : Trace P ops T H V D W L) {k : Nat} (hk : k < ops.size) : AFr (W k) (H k) (H (k + 1)) := by
 rcases t.step k ops[k] (by simp [hk]) with ⟨_, h⟩ | ⟨_, _, h⟩ | ⟨_, h, _⟩
 · exact h.fr
 · rw [h]; exact .refl _ _
 · rw [h]; exact .refl _ _
theorem Trace.n (t : Trace P ops T H V D W L) {a b : Nat} (hab : a ≤ b) (hb : b ≤ ops.size) : (H a).n ≤ (H b).n := by
 induction hab with
 | refl => exact Nat.le_refl _
 | @step b hab ih => exact Nat.le_trans (ih (by omega)) (t.fr (by omega)).n
theorem Trace.typ (t : Trace P ops T H V D W L) {a b : Nat} (hab : a ≤ b) (hb : b ≤ ops.size) {i : Nat} {c : List Value} {ty : TypeId} (hi : i < (H a).n) (h : (H b).get i = some (.cells c ty)) : ∃ c₀, (H a).get i = some (.cells c₀ ty) ∧ c₀.length = c.length := by
 induction hab generalizing c with
 | refl => exact ⟨c, h, rfl⟩
 | @step b hab ih =>
  obtain ⟨c₁, h1, h2⟩ := (t.fr (k := b) (by omega)).typ i c ty (Nat.lt_of_lt_of_le hi (t.n hab (by omega))) h
  obtain ⟨c₀, h3, h4⟩ := ih (by omega) h1
  exact ⟨c₀, h3, h4.trans h2⟩
theorem Trace.alive (t : Trace P ops T H V D W L) {a b : Nat} (hab : a ≤ b) (hb : b ≤ ops.size) {i : Nat} (hi : i < (H a).n) (h : (H b).get i ≠ none) : (H a).get i ≠ none := by
 induction hab with
 | refl => exact h
 | @step b hab ih => exact ih (by omega) ((t.fr (k := b) (by omega)).alive i (Nat.lt_of_lt_of_le hi (t.n hab (by omega))) h)
theorem Trace.liveT (t : Trace P ops T H V D W L) {a b : Nat} (hab : a ≤ b) (hb : b ≤ ops.size) {i : Nat} (hi : i < (H a).n) (h : (H b).live i) : (H a).live i := by
 induction hab with
 | refl => exact h
 | @step b hab ih => exact ih (by omega) ((t.fr (k := b) (by omega)).live i (Nat.lt_of_lt_of_le hi (t.n hab (by omega))) h)
theorem Trace.roT (t : Trace P ops T H V D W L) {a b : Nat} (hab : a ≤ b) (hb : b ≤ ops.size) {i : Nat} {c : List Value} (hi : i < (H a).n) (h : (H b).get i = some (.ro c)) : (H a).get i = some (.ro c) := by
 induction hab with
 | refl => exact h
 | @step b hab ih => exact ih (by omega) ((t.fr (k := b) (by omega)).roT i c (Nat.lt_of_lt_of_le hi (t.n hab (by omega))) h)
theorem Trace.same (t : Trace P ops T H V D W L) {a b : Nat} (hab : a ≤ b) (hb : b ≤ ops.size) {i : Nat} (hi : i < (H a).n) (h : ∀ k, a ≤ k → k < b → L k → ¬ W k i) : (H b).get i = (H a).get i := by
 induction hab with
 | refl => rfl
 | @step b hab ih =>
  have hlt := Nat.lt_of_lt_of_le hi (t.n hab (by omega))
  rw [(t.fr (k := b) (by omega)).get i hlt ?_, ih (by omega) fun k h1 h2 => h k h1 (by omega)]
  by_cases hl : L b
  · exact h b hab (by omega) hl
  · intro hw; have := t.own b hl i hw; omega
theorem Trace.tmLen (t : Trace P ops T H V D W L) {a b : Nat} (hab : a ≤ b) (hb : b ≤ ops.size) : (T b).length = (T a).length := by
 induction hab with
 | refl => rfl
 | @step b hab ih =>
  rw [t.tm b ops[b] (by simp), ← ih (by omega)]
  unfold putT
  split <;> simp
theorem Trace.tmSame (t : Trace P ops T H V D W L) {a b : Nat} (hab : a ≤ b) (hb : b ≤ ops.size) {q : Nat} (h : ∀ k o, a ≤ k → k < b → ops[k]? = some o → o.dst ≠ some q) : (T b).getD q undef = (T a).getD q undef := by
 induction hab with
 | refl => rfl
 | @step b hab ih =>
  rw [t.tm b ops[b] (by simp), ← ih (by omega) fun k o h1 h2 => h k o h1 (by omega)]
  have := h b ops[b] hab (by omega) (by simp)
  unfold putT
  split
  ·
   rename_i d hd
   have hne : d ≠ q := fun e => this (by rw [hd, e])
   simp [List.getElem?_set_ne hne]
  · rfl
def lst (listed : Array Bool) (i : Nat) : Prop := listed.getD i false = true
def CurT (ops : Array Oper) (listed : Array Bool) (k q : Nat) : Prop := (∀ i o, i < k → ops[i]? = some o → o.dst = some q → lst listed i) ∧ (∀ i o, k ≤ i → ops[i]? = some o → o.dst = some q → ¬ lst listed i)
def CurH (ops : Array Oper) (W : Nat → Nat → Prop) (L : Nat → Prop) (listed : Array Bool) (k id : Nat) : Prop := (∀ i, i < k → L i → W i id → lst listed i) ∧ (∀ i, k ≤ i → i < ops.size → L i → W i id → ¬ lst listed i)
structure Inv (P : Program) (ops : Array Oper) (T : Nat → List Value) (H : Nat → AHeap) (W : Nat → Nat → Prop) (L : Nat → Prop) (Wt : Nat → Prop) (m₀ : Mp) (w₀ : World) (ds : List Deferred) (listed : Array Bool) (m : Mp) (A : Act) (w : World) : Prop where
 sz : listed.size = ops.size
 down : ∀ i j, lst listed j → bef ops i j = true → lst listed i
 m1 : ∀ id, id < (H 0).n ∨ (H ops.size).n ≤ id → m id = m₀ id
 m2 : ∀ k, k < ops.size → ¬ lst listed k → ∀ id, (H k).n ≤ id → id < (H (k + 1)).n → m id = none
 df : A.defers = ds
 tl : A.tmps.size = (T 0).length
 tv : ∀ k q, k ≤ ops.size → CurT ops listed k q → VRel m ((T k).getD q undef) (A.tmps.getD q undef)
 lt : ∀ i l, m i = some l → l.b < w.heap.size
 typ : ∀ k, k ≤ ops.size → ∀ i l c t, m i = some l → (H k).get i = some (.cells c t) → sizeT P t = some l.sz ∧ c.length = l.A ∧ Al P t l
 inj : ∀ k, k ≤ ops.size → ∀ i j l l', m i = some l → m j = some l' → (H k).get i ≠ none → (H k).live j → l.b = l'.b → i = j
 roS : ∀ k, k ≤ ops.size → ∀ i l c, m i = some l → (H k).get i = some (.ro c) → l.slk = 0
 inj2 : ∀ k, k < ops.size → L k → ¬ lst listed k → ∀ i l j l', (H k).live i → m i = some l → m j = some l' → (H (k + 1)).n ≤ j → j < (H ops.size).n → l.b ≠ l'.b
 obj : ∀ k, k ≤ ops.size → ∀ i l o, CurH ops W L listed k i → m i = some l → (H k).get i = some o → ∃ o', w.heap[l.b]? = some o' ∧ ORel P m l o o'
 new : ∀ i l, (H 0).n ≤ i → i < (H ops.size).n → m i = some l → w₀.heap.size ≤ l.b ∨ ∃ j k, j < (H 0).n ∧ Wt j ∧ (H 0).live j ∧ m₀ j = some k ∧ k.b = l.b
 keep : ∀ b, b < w₀.heap.size → (∀ j k, j < (H 0).n → Wt j → (H 0).live j → m₀ j = some k → k.b ≠ b) → w.heap[b]? = w₀.heap[b]?
 size : w₀.heap.size ≤ w.heap.size
 os : w.os = w₀.os
 tape : w.tape = w₀.tape
 output : w.output = w₀.output
end
end Go.Proofs.YtncbbeghkpjpbaaDoor
namespace Go.Proofs.YtncbbeghkpjpbaaDoor
section
variable {P : Program} {ops : Array Oper} {T : Nat → List Value} {H : Nat → AHeap} {V : Nat → Value} {D W : Nat → Nat → Prop} {L : Nat → Prop} {Wt : Nat → Prop} {m₀ m : Mp} {w₀ w : World} {ds : List Deferred} {listed : Array Bool} {A : Act}
theorem lst_set {listed : Array Bool} {j : Nat} (hj : j < listed.size) (i : Nat) : lst (listed.setIfInBounds j true) i ↔ lst listed i ∨ i = j := by
 unfold lst
 by_cases e : j = i
 · subst e; simp [hj]
 ·
  rw [getD_set_ne false e]
  constructor
  · exact .inl
  ·
   rintro (h | h)
   · exact h
   · exact absurd h.symm e
theorem Inv.ready (I : Inv P ops T H W L Wt m₀ w₀ ds listed m A w) {j : Nat} {o : Oper} (hj : j ∈ Region.ready .any ops listed) (ho : ops[j]? = some o) : j < ops.size ∧ ¬ lst listed j ∧ ∀ i, bef ops i j = true → lst listed i := by
 obtain ⟨h0, o', ho', hall⟩ := mem_ready.1 hj
 rw [ho] at ho'; cases ho'
 have hlt : j < ops.size := (Array.getElem?_eq_some_iff.1 ho).1
 refine ⟨hlt, ?_, fun i hi => ?_⟩
 ·
  unfold lst
  have hl : j < listed.size := by rw [I.sz]; exact hlt
  simp [hl] at h0 ⊢
  exact h0
 ·
  obtain ⟨e, he, hb, h1⟩ := bef_edge ho hi
  have := hall e he hb
  rcases h1 with rfl | h1
  · exact this
  · exact I.down i e.on this h1
theorem Inv.hrel (t : Trace P ops T H V D W L) (I : Inv P ops T H W L Wt m₀ w₀ ds listed m A w) {j : Nat} (hlt : j < ops.size) (hn : ¬ lst listed j) (hp : ∀ i, bef ops i j = true → lst listed i) : HRel P m (D j) (H j) w := by
 refine ⟨I.lt, I.typ j (by omega), I.inj j (by omega), I.roS j (by omega), fun i l o hd hm hg => I.obj j (by omega) i l o ⟨fun k hk hl hw => ?_, fun k hk hk2 hl hw => ?_⟩ hm hg⟩
 ·
  cases hb : bef ops k j with
  | true => exact hp k hb
  | false =>
   cases hb2 : bef ops j k with
   | true =>
    exfalso
    obtain ⟨e, he, hbind, h1⟩ := bef_edge (ops := ops) (j := k) (o := ops[k]) (by simp) hb2
    have key : ∀ q, q ≤ k → bef ops j q = true → j < q := by
     intro q
     induction q using Nat.strongRecOn with
     | _ q ih =>
      intro hq hbq
      obtain ⟨e, he, hbind, h1⟩ := bef_edge (ops := ops) (j := q) (o := ops[q]) (by simp) hbq
      have := t.edge q ops[q] e (by simp) he hbind
      rcases h1 with rfl | h1
      · exact this
      · have := ih e.on this (by omega) h1; omega
    have := key k (Nat.le_refl _) hb2
    omega
   | false => exact absurd hd ((t.loud k j hl (by omega) (by omega) hlt hb hb2).2 i hw)
 ·
  by_cases e : k = j
  · subst e; exact hn
  ·
   intro hs
   cases hb : bef ops j k with
   | true => exact hn (I.down j k hs hb)
   | false =>
    cases hb2 : bef ops k j with
    | true =>
     have key : ∀ q, q ≤ j → bef ops k q = true → k < q := by
      intro q
      induction q using Nat.strongRecOn with
      | _ q ih =>
       intro hq hbq
       obtain ⟨e, he, hbind, h1⟩ := bef_edge (ops := ops) (j := q) (o := ops[q]) (by simp) hbq
       have := t.edge q ops[q] e (by simp) he hbind
       rcases h1 with rfl | h1
       · exact this
       · have := ih e.on this (by omega) h1; omega
     have := key j (Nat.le_refl _) hb2
     omega
    | false => exact absurd hd ((t.loud k j hl e hk2 hlt hb2 hb).2 i hw)
theorem Inv.curT (t : Trace P ops T H V D W L) (I : Inv P ops T H W L Wt m₀ w₀ ds listed m A w) {j : Nat} {o : Oper} (ho : ops[j]? = some o) (hn : ¬ lst listed j) (hp : ∀ i, bef ops i j = true → lst listed i) {q : Nat} (hq : q ∈ o.looksAt ops) : CurT ops listed j q := by
 refine ⟨fun i oi hi hoi hd => ?_, fun i oi hi hoi hd => ?_⟩
 ·
  rcases t.apart i j oi o hi hoi ho with h | h
  · exact hp i h
  · exact absurd hq ((Oper.apart_spec h).1 q hd)
 ·
  by_cases e : i = j
  · subst e; exact hn
  ·
   intro hs
   rcases t.apart j i o oi (by omega) ho hoi with h | h
   · exact hn (I.down j i hs h)
   · exact (Oper.apart_spec h).2.2 q hd hq
theorem Inv.opds (t : Trace P ops T H V D W L) (I : Inv P ops T H W L Wt m₀ w₀ ds listed m A w) (hm : MOk P m) {j : Nat} {o : Oper} (ho : ops[j]? = some o) (hn : ¬ lst listed j) (hp : ∀ i, bef ops i j = true → lst listed i) : ∀ x ∈ o.op.operands, VRel m (evalT (T j) x) (A.eval x) := fun x hx => by
 have hlt : j < ops.size := (Array.getElem?_eq_some_iff.1 ho).1
 refine opd_rel hm ?_ fun q e => I.tv j q (by omega) (I.curT t ho hn hp ?_)
 ·
  have := List.all_eq_true.1 t.opds o (by simpa using Array.mem_of_getElem? ho)
  exact List.all_eq_true.1 this x (by simpa using hx)
 ·
  subst e
  exact List.mem_append_left _ (List.mem_filterMap.2 ⟨.tmp q, by simpa using hx, rfl⟩)
theorem yielded_rel {tm : List Value} {A : Act} (hl : A.tmps.size = tm.length) (g : Nat) (hr : ∀ d, (ops[g]?).bind (·.dst) = some d → VRel m (tm.getD d undef) (A.tmps.getD d undef)) : yielded ops A.tmps g = yielded ops tm.toArray g := by
 unfold yielded
 cases hd : (ops[g]?).bind (·.dst) with
 | none => rfl
 | some d =>
  have h := hr d hd
  simp only [Option.bind_some]
  by_cases hlt : d < tm.length
  ·
   have h1 : A.tmps[d]? = some (A.tmps.getD d undef) := by simp [hl, hlt]
   have h2 : tm.toArray[d]? = some (tm.getD d undef) := by simp [hlt]
   rw [h1, h2]
   generalize tm.getD d undef = u at h
   generalize A.tmps.getD d undef = u' at h
   cases h <;> rfl
  ·
   have h1 : A.tmps[d]? = none := Array.getElem?_eq_none (by rw [hl]; exact Nat.le_of_not_lt hlt)
   have h2 : tm.toArray[d]? = none := Array.getElem?_eq_none (by simpa using Nat.le_of_not_lt hlt)
   rw [h1, h2]
theorem Inv.wanted (t : Trace P ops T H V D W L) (I : Inv P ops T H W L Wt m₀ w₀ ds listed m A w) {j : Nat} {o : Oper} (ho : ops[j]? = some o) (hn : ¬ lst listed j) (hp : ∀ i, bef ops i j = true → lst listed i) : Region.wanted o (yielded ops A.tmps) = Region.wanted o (yielded ops (T j).toArray) := by
 have hlt : j < ops.size := (Array.getElem?_eq_some_iff.1 ho).1
 unfold Region.wanted
 cases hg : o.guard with
 | none => rfl
 | some gw =>
  obtain ⟨g, want⟩ := gw
  simp only
  rw [yielded_rel (m := m) (by rw [I.tl, t.tmLen (Nat.zero_le j) (by omega)]) g fun d hd => I.tv j d (by omega) (I.curT t ho hn hp (by simp [Oper.looksAt, hg, hd]))]
theorem Inv.more (t : Trace P ops T H V D W L) (hWt : ∀ k, k < ops.size → L k → ∀ i, W k i → i < (H 0).n → Wt i) (I : Inv P ops T H W L Wt m₀ w₀ ds listed m A w) {j : Nat} {o : Oper} (ho : ops[j]? = some o) (hn : ¬ lst listed j) (hp : ∀ i, bef ops i j = true → lst listed i)
  {m' : Mp} {w' : World} {v' : Value} (hf : Fr m m' (W j) (H j) (H (j + 1)) w w') (hv : VRel m' (V j) v') (hh : HRel P m' (D j) (H (j + 1)) w') :
  Inv P ops T H W L Wt m₀ w₀ ds (listed.setIfInBounds j true) m' (A.put o.dst v') w' := by
 have hlt : j < ops.size := (Array.getElem?_eq_some_iff.1 ho).1
 have hls : j < listed.size := by rw [I.sz]; exact hlt
 have hset := lst_set hls
 have hn1 := (t.fr hlt).n
 have hn0 := t.n (Nat.zero_le j) (by omega)
 have hnn := t.n (show j + 1 ≤ ops.size by omega) (Nat.le_refl _)
 have hfresh : Fresh m (H j) (H (j + 1)) := fun i h1 h2 => I.m2 j hlt hn i h1 h2
 have hle : m.le m' := hf.le hfresh
 have key : ∀ a b, bef ops a b = true → b < ops.size → a < b := by
  intro a b
  induction b using Nat.strongRecOn with
  | _ b ih =>
   intro hb hbs
   obtain ⟨e, he, hbind, h1⟩ := bef_edge (ops := ops) (j := b) (o := ops[b]) (by simp [hbs]) hb
   have := t.edge b ops[b] e (by simp [hbs]) he hbind
   rcases h1 with rfl | h1
   · exact this
   · have := ih e.on this h1 (by omega); omega
 have hlsz : ∀ i, lst listed i → i < ops.size := fun i hi => by
  rcases Nat.lt_or_ge i ops.size with h | h
  · exact h
  · unfold lst at hi; rw [Array.getD_eq_getD_getElem?, Array.getElem?_eq_none (by rw [I.sz]; exact h)] at hi; simp at hi
 have hout : ∀ i, lst listed i → bef ops j i = false := fun i hi => by
  cases hb : bef ops j i with
  | false => rfl
  | true => exact absurd (I.down j i hi hb) hn
 have hquiet : ∀ i id, (H j).n ≤ id → id < (H (j + 1)).n → L i → W i id → j < i → i < ops.size → ¬ lst listed i := fun i id h1 h2 hl hw hji his hs => by
  have hb2 : bef ops i j = false := by
   cases hb : bef ops i j with
   | false => rfl
   | true => have := key i j hb hlt; omega
  exact (t.loud i j hl (by omega) his hlt hb2 (hout i hs)).2 id hw (t.new j id h1 h2)
 have hnoW : ∀ i id, L i → L j → W i id → W j id → j < i → i < ops.size → ¬ lst listed i := fun i id hl hlj hw hwj hji his hs => by
  have hb2 : bef ops i j = false := by
   cases hb : bef ops i j with
   | false => rfl
   | true => have := key i j hb hlt; omega
  exact (t.loud i j hl (by omega) his hlt hb2 (hout i hs)).2 id hw (t.rw j id hlj hwj)
 have hmold : ∀ id l, m' id = some l → ¬ ((H j).n ≤ id ∧ id < (H (j + 1)).n) → m id = some l := fun id l e h => by
  rw [← hf.old id (by omega)]; exact e
 refine {
  sz := by simp [I.sz]
  down := fun i k hk hb => ?_
  m1 := fun id hid => by rw [hf.old id (by omega)]; exact I.m1 id hid
  m2 := fun k hk hs id h1 h2 => ?_
  df := ?_
  tl := ?_
  tv := fun k q hk hc => ?_
  lt := hh.lt
  typ := fun k hk i l c ty e g => ?_
  inj := fun k hk i i' l l' e e' g g' eb => ?_
  roS := fun k hk i l c e g => ?_
  inj2 := fun k hk hl2 hs i l i' l' g e e' h1 h2 eb => ?_
  obj := fun k hk i l x hc e g => ?_
  new := fun i l h1 h2 e => ?_
  keep := fun b hb hk => ?_
  size := Nat.le_trans I.size hf.size
  os := hf.os.trans I.os
  tape := hf.tape.trans I.tape
  output := hf.output.trans I.output }
 ·
  rcases (hset k).1 hk with h | rfl
  · exact (hset i).2 (.inl (I.down i k h hb))
  · exact (hset i).2 (.inl (hp i hb))
 ·
  have hkj : k ≠ j := fun e => hs ((hset k).2 (.inr e))
  have hs' : ¬ lst listed k := fun e => hs ((hset k).2 (.inl e))
  rw [hf.old id ?_]
  · exact I.m2 k hk hs' id h1 h2
  ·
   rcases Nat.lt_or_gt_of_ne hkj with h | h
   · have := t.n (show k + 1 ≤ j by omega) (by omega); exact .inl (by omega)
   · have := t.n (show j + 1 ≤ k by omega) (by omega); exact .inr (by omega)
 · cases hd : o.dst <;> simp [Act.put, I.df]
 · cases hd : o.dst <;> simp [Act.put, I.tl]
 ·
  -- temporaries
  by_cases hd : o.dst = some q
  ·
   have hjk : j < k := by
    rcases Nat.lt_or_ge j k with h | h
    · exact h
    · exact absurd ((hset j).2 (.inr rfl)) (hc.2 j o h ho hd)
   have e1 : (T k).getD q undef = (T (j + 1)).getD q undef := t.tmSame hjk hk fun i oi h1 h2 hoi hdi => by
    have hs := hc.1 i oi h2 hoi hdi
    rcases (hset i).1 hs with hs | rfl
    ·
     rcases t.apart j i o oi (by omega) ho hoi with h | h
     · rw [hout i hs] at h; cases h
     · exact (Oper.apart_spec h).2.1 q hd hdi
    · omega
   rw [e1, t.tm j o ho, hd]
   have hl : A.tmps.size = (T j).length := by rw [I.tl, t.tmLen (Nat.zero_le j) (by omega)]
   by_cases hq : q < (T j).length
   · simpa [putT, Act.put, hq, hl] using hv
   ·
    have : VRel m' undef undef := .tuple rfl fun i v v' e => by simp at e
    simpa [putT, Act.put, hq, hl] using this
  ·
   have hc' : CurT ops listed k q := ⟨fun i oi h1 h2 h3 => by
     rcases (hset i).1 (hc.1 i oi h1 h2 h3) with h | rfl
     · exact h
     · rw [ho] at h2; cases h2; exact absurd h3 hd, fun i oi h1 h2 h3 h4 => hc.2 i oi h1 h2 h3 ((hset i).2 (.inl h4))⟩
   have := (I.tv k q hk hc').mono hle
   have e2 : (A.put o.dst v').tmps.getD q undef = A.tmps.getD q undef := by
    cases hdd : o.dst with
    | none => rfl
    | some d =>
     have hne : d ≠ q := fun e => hd (by rw [hdd, e])
     simp [Act.put, Array.getElem?_setIfInBounds_ne hne]
   rw [e2]; exact this
 ·
  -- types
  by_cases hi : (H j).n ≤ i ∧ i < (H (j + 1)).n
  ·
   have hik := AHeap.lt g
   have hjk : j + 1 ≤ k := by
    rcases Nat.lt_or_ge j k with h | h
    · exact h
    · have := t.n h (by omega); omega
   obtain ⟨c₀, g1, g2⟩ := t.typ hjk hk hi.2 g
   have := hh.typ i l c₀ ty e g1
   exact ⟨this.1, g2 ▸ this.2.1, this.2.2⟩
  · exact I.typ k hk i l c ty (hmold i l e hi) g
 ·
  -- no two lie in one block
  have one : ∀ i i' l l', m' i = some l → m' i' = some l' → (H k).get i ≠ none → (H k).get i' ≠ none → (H k).live i ∨ (H k).live i' → l.b = l'.b → ((H j).n ≤ i ∧ i < (H (j + 1)).n) → i = i' := fun i i' l l' e e' g g' gl eb hi => by
   have hik : i < (H k).n := by
    cases hg : (H k).get i with
    | none => exact absurd hg g
    | some x => exact AHeap.lt hg
   have hjk : j + 1 ≤ k := by
    rcases Nat.lt_or_ge j k with h | h
    · exact h
    · have := t.n h (by omega); omega
   by_cases hi' : i' < (H (j + 1)).n
   ·
    rcases gl with gl | gl
    · exact (hh.inj i' i l' l e' e (t.alive hjk hk hi' g') (t.liveT hjk hk hi.2 gl) eb.symm).symm
    · exact hh.inj i i' l l' e e' (t.alive hjk hk hi.2 g) (t.liveT hjk hk hi' gl) eb
   ·
    exfalso
    have e2 := hmold i' l' e' (by omega)
    have hi'k : i' < (H k).n := by
     cases hg : (H k).get i' with
     | none => exact absurd hg g'
     | some x => exact AHeap.lt hg
    have hkn := t.n hk (Nat.le_refl _)
    rcases hf.new i l hi.1 hi.2 e with h | ⟨jj, kk, h1, h2, h3, h4, h5⟩
    · have := I.lt i' l' e2; omega
    ·
     by_cases hl : L j
     · exact I.inj2 j hlt hl hn jj kk i' l' h3 h4 e2 (by omega) (by omega) (h5.trans eb)
     · have := t.own j hl jj h2; omega
  by_cases hi : (H j).n ≤ i ∧ i < (H (j + 1)).n
  · exact one i i' l l' e e' g g'.ne (.inr g') eb hi
  ·
   by_cases hi' : (H j).n ≤ i' ∧ i' < (H (j + 1)).n
   · exact (one i' i l' l e' e g'.ne g (.inl g') eb.symm hi').symm
   · exact I.inj k hk i i' l l' (hmold i l e hi) (hmold i' l' e' hi') g g' eb
 ·
  -- rows that are only read
  by_cases hi : (H j).n ≤ i ∧ i < (H (j + 1)).n
  ·
   have hik := AHeap.lt g
   have hjk : j + 1 ≤ k := by
    rcases Nat.lt_or_ge j k with h | h
    · exact h
    · have := t.n h (by omega); omega
   exact hh.roS i l c e (t.roT hjk hk hi.2 g)
  · exact I.roS k hk i l c (hmold i l e hi) g
 ·
  -- what is made behind one that waits to write lies elsewhere
  have hkj : k ≠ j := fun ee => hs ((hset k).2 (.inr ee))
  have hs' : ¬ lst listed k := fun ee => hs ((hset k).2 (.inl ee))
  have hik : i < (H k).n := by
   obtain ⟨x, hx, _⟩ := g
   exact AHeap.lt hx
  have hk1 := (t.fr hk).n
  by_cases hi' : (H j).n ≤ i' ∧ i' < (H (j + 1)).n
  ·
   have hjk : k < j := by
    rcases Nat.lt_or_ge k j with h | h
    · exact h
    · have := t.n (show j + 1 ≤ k + 1 by omega) (by omega); omega
   have e0 : m i = some l := hmold i l e (by have := t.n (show k ≤ j by omega) (by omega); omega)
   rcases hf.new i' l' hi'.1 hi'.2 e' with h | ⟨jw, kk, g1, g2, g3, g4, g5⟩
   · have := I.lt i l e0; omega
   ·
    by_cases hl : L j
    ·
     have b1 : bef ops k j = false := by
      cases hb : bef ops k j with
      | false => rfl
      | true => exact absurd (hp k hb) hs'
     have b2 : bef ops j k = false := by
      cases hb : bef ops j k with
      | false => rfl
      | true => have := key j k hb hk; omega
     rcases (t.loud k j hl2 hkj hk hlt b1 b2).1 with h9 | h9
     · exact h9 hl
     · rw [h9] at hi'; omega
    · have := t.own j hl jw g2; omega
  ·
   have e0' : m i' = some l' := hmold i' l' e' hi'
   by_cases hi : (H j).n ≤ i ∧ i < (H (j + 1)).n
   ·
    have hjk : j < k := by
     rcases Nat.lt_or_ge j k with h | h
     · exact h
     · have := t.n h (by omega); omega
    rcases hf.new i l hi.1 hi.2 e with h | ⟨jw, kk, g1, g2, g3, g4, g5⟩
    · have := I.lt i' l' e0'; omega
    ·
     by_cases hl : L j
     ·
      have := t.n (show j + 1 ≤ k + 1 by omega) (by omega)
      exact I.inj2 j hlt hl hn jw kk i' l' g3 g4 e0' (by omega) h2 (g5.trans eb)
     · have := t.own j hl jw g2; omega
   · exact I.inj2 k hk hl2 hs' i l i' l' g (hmold i l e hi) e0' h1 h2 eb
 ·
  -- what lies there
  by_cases hi : (H j).n ≤ i ∧ i < (H (j + 1)).n
  ·
   have hik := AHeap.lt g
   have hjk : j + 1 ≤ k := by
    rcases Nat.lt_or_ge j k with h | h
    · exact h
    · have := t.n h (by omega); omega
   have e1 : (H k).get i = (H (j + 1)).get i := t.same hjk hk hi.2 fun q h1 h2 hl hw => by
    have hs := hc.1 q h2 hl hw
    rcases (hset q).1 hs with hs | rfl
    · exact hquiet q i hi.1 hi.2 hl hw (by omega) (by omega) hs
    · omega
   rw [e1] at g
   exact hh.obj i l x (t.new j i hi.1 hi.2) e g
  ·
   have e0 := hmold i l e hi
   by_cases hwj : L j ∧ W j i
   ·
    obtain ⟨hl, hw⟩ := hwj
    have hjk : j + 1 ≤ k := by
     rcases Nat.lt_or_ge j k with h | h
     · exact h
     · exact absurd ((hset j).2 (.inr rfl)) (hc.2 j h hlt hl hw)
    have hij : i < (H (j + 1)).n := Nat.lt_of_lt_of_le (t.wlt j i hw) hn1
    have e1 : (H k).get i = (H (j + 1)).get i := t.same hjk hk hij fun q h1 h2 hlq hwq => by
     have hs := hc.1 q h2 hlq hwq
     rcases (hset q).1 hs with hs | rfl
     · exact hnoW q i hlq hl hwq hw (by omega) (by omega) hs
     · omega
    rw [e1] at g
    exact hh.obj i l x (t.rw j i hl hw) e g
   ·
    have hc' : CurH ops W L listed k i := ⟨fun q h1 h2 h3 => by
      rcases (hset q).1 (hc.1 q h1 h2 h3) with h | rfl
      · exact h
      · exact absurd ⟨h2, h3⟩ hwj, fun q h1 h2 h3 h4 h5 => hc.2 q h1 h2 h3 h4 ((hset q).2 (.inl h5))⟩
    obtain ⟨x', a, b⟩ := I.obj k hk i l x hc' e0 g
    refine ⟨x', ?_, b.mono hle⟩
    rw [hf.keep l.b (I.lt i l e0) ?_]
    · exact a
    ·
     intro jj kk h1 h2 h3 h4 h5
     by_cases hl : L j
     ·
      -- both live at j
      have hne : jj ≠ i := fun e => hwj ⟨hl, e ▸ h2⟩
      have hikn : i < (H ops.size).n := Nat.lt_of_lt_of_le (AHeap.lt g) (t.n hk (Nat.le_refl _))
      rcases Nat.lt_or_ge i (H (j + 1)).n with hij1 | hij1
      case inr => exact I.inj2 j hlt hl hn jj kk i l h3 h4 e0 hij1 hikn h5
      have halive : (H j).get i ≠ none := by
       have hik := AHeap.lt g
       rcases Nat.lt_or_ge k j with hkj | hkj
       ·
        -- else something between has killed it, and has not come up
        intro hdead
        have : ∃ q, k ≤ q ∧ q < j ∧ L q ∧ W q i := by
         apply Classical.byContradiction
         intro hno
         have e9 := t.same (Nat.le_of_lt hkj) (by omega) hik fun q g1 g2 g3 g4 => hno ⟨q, g1, g2, g3, g4⟩
         rw [hdead, g] at e9; cases e9
        obtain ⟨q, q1, q2, q3, q4⟩ := this
        have hqs := hc'.2 q q1 (by omega) q3 q4
        have hqb : bef ops q j = false := by
         cases hb : bef ops q j with
         | false => rfl
         | true => exact absurd (hp q hb) hqs
        have hjq : bef ops j q = false := by
         cases hb : bef ops j q with
         | false => rfl
         | true => have := key j q hb (by omega); omega
        have hkill : ∃ q, k ≤ q ∧ q < j ∧ (H q).get i ≠ none ∧ (H (q + 1)).get i = none := by
         apply Classical.byContradiction
         intro hno
         have all : ∀ q, k ≤ q → q ≤ j → (H q).get i ≠ none := by
          intro q hq
          induction hq with
          | refl => intro _; rw [g]; simp
          | @step q hq ih =>
           intro hqj hz
           exact hno ⟨q, hq, by omega, ih (by omega), hz⟩
         exact all j (by omega) (Nat.le_refl _) hdead
        obtain ⟨q', r1, r2, r3, r4⟩ := hkill
        have hiq' : i < (H q').n := by
         cases hg : (H q').get i with
         | none => exact absurd hg r3
         | some x => exact AHeap.lt hg
        have hwq' : L q' ∧ W q' i := by
         apply Classical.byContradiction
         intro hno
         have := t.same (show q' ≤ q' + 1 by omega) (by omega) hiq' fun q g1 g2 g3 g4 => by
          obtain rfl : q = q' := by omega
          exact hno ⟨g3, g4⟩
         rw [r4] at this; exact r3 this.symm
        have hqs' := hc'.2 q' r1 (by omega) hwq'.1 hwq'.2
        have hqb' : bef ops q' j = false := by
         cases hb : bef ops q' j with
         | false => rfl
         | true => exact absurd (hp q' hb) hqs'
        have hjq' : bef ops j q' = false := by
         cases hb : bef ops j q' with
         | false => rfl
         | true => have := key j q' hb (by omega); omega
        rcases (t.loud j q' hl (by omega) hlt (by omega) hjq' hqb').1 with h9 | h9
        · exact h9 hwq'.1
        · rw [h9] at r4; exact r3 r4
       ·
        rcases Nat.lt_or_ge i (H j).n with hij | hij
        · exact t.alive hkj hk hij (by rw [g]; simp)
        · rw [I.m2 j hlt hn i hij hij1] at e0; cases e0
      exact hne (I.inj j (by omega) i jj l kk e0 h4 halive h3 h5.symm).symm
     · have := t.own j hl jj h2; omega
 ·
  -- new ones
  by_cases hi : (H j).n ≤ i ∧ i < (H (j + 1)).n
  ·
   rcases hf.new i l hi.1 hi.2 e with h | ⟨jj, kk, g1, g2, g3, g4, g5⟩
   · exact .inl (Nat.le_trans I.size h)
   ·
    by_cases hl : L j
    ·
     rcases Nat.lt_or_ge jj (H 0).n with h0 | h0
     · exact .inr ⟨jj, kk, h0, hWt j hlt hl jj g2 h0, t.liveT (Nat.zero_le j) (by omega) h0 g3, by rw [← I.m1 jj (.inl h0)]; exact g4, g5⟩
     ·
      rcases I.new jj kk h0 (by omega) g4 with h | ⟨a1, a2, a3, a4, a5, a6, a7⟩
      · exact .inl (by omega)
      · exact .inr ⟨a1, a2, a3, a4, a5, a6, a7.trans g5⟩
    · have := t.own j hl jj g2; omega
  · exact I.new i l h1 h2 (hmold i l e hi)
 ·
  -- what stays
  rw [hf.keep b (Nat.lt_of_lt_of_le hb I.size) ?_]
  · exact I.keep b hb hk
  ·
   intro jj kk g1 g2 g3 g4 g5
   by_cases hl : L j
   ·
    rcases Nat.lt_or_ge jj (H 0).n with h0 | h0
    · exact hk jj kk h0 (hWt j hlt hl jj g2 h0) (t.liveT (Nat.zero_le j) (by omega) h0 g3) (by rw [← I.m1 jj (.inl h0)]; exact g4) g5
    ·
     rcases I.new jj kk h0 (by omega) g4 with h | ⟨a1, a2, a3, a4, a5, a6, a7⟩
     · omega
     · exact hk a1 a2 a3 a4 a5 a6 (a7.trans g5)
   · have := t.own j hl jj g2; omega
end
end Go.Proofs.YtncbbeghkpjpbaaDoor