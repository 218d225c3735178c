/- The evaluator in the form that the kernel runs fast: trees, values that are forced, integers by their naturals. No conditions. -/
import Derived.Test.YtmelgnpogdilgaaAbsT
namespace Go.Proofs.Ytmelgnpogdilgaa
set_option linter.unusedVariables false
/-! ### Frames -/
noncomputable def sel2 {α : Type} (a b : α) (n : Nat) : α := Nat.rec a (fun _ _ => b) n
theorem sel2_eq {α : Type} (a b : α) (k : Nat) : sel2 a b (k % 2) = if k % 2 = 0 then a else b := by
  rcases Nat.mod_two_eq_zero_or_one k with h | h <;> rw [h] <;> rfl
inductive BT where
  | nil
  | node (v : Value) (l r : BT)
noncomputable def BT.get (t : BT) : Nat → Value := BT.rec (fun _ => undef) (fun v _ _ il ir i => Nat.rec v (fun k _ => sel2 (il (Nat.div k 2)) (ir (Nat.div k 2)) (Nat.mod k 2)) i) t
noncomputable def BT.setK {α : Type} (f : Nat) : BT → Nat → Value → (BT → α) → α := Nat.rec (fun t _ _ K => K t) (fun _ ih t i v K =>
  BT.rec (Nat.rec (K (.node v .nil .nil)) (fun k _ => sel2 (ih .nil (Nat.div k 2) v (fun l => K (.node undef l .nil))) (ih .nil (Nat.div k 2) v (fun r => K (.node undef .nil r))) (Nat.mod k 2)) i)
    (fun u l r _ _ => Nat.rec (K (.node v l r)) (fun k _ => sel2 (ih l (Nat.div k 2) v (fun l' => K (.node u l' r))) (ih r (Nat.div k 2) v (fun r' => K (.node u l r'))) (Nat.mod k 2)) i) t) f
theorem BT.get_nil (i : Nat) : BT.get .nil i = undef := rfl
theorem BT.get_zero (v : Value) (l r : BT) : BT.get (.node v l r) 0 = v := rfl
theorem BT.get_succ (v : Value) (l r : BT) (k : Nat) : BT.get (.node v l r) (k + 1) = if k % 2 = 0 then l.get (k / 2) else r.get (k / 2) := by
  exact sel2_eq (l.get (k / 2)) (r.get (k / 2)) k
def BT.lft : BT → BT
  | .nil => .nil
  | .node _ l _ => l
def BT.rgt : BT → BT
  | .nil => .nil
  | .node _ _ r => r
def BT.val : BT → Value
  | .nil => undef
  | .node v _ _ => v
theorem BT.get_split (t : BT) (k : Nat) : t.get (k + 1) = if k % 2 = 0 then t.lft.get (k / 2) else t.rgt.get (k / 2) := by
  cases t with
  | nil => simp [BT.get_nil, BT.lft, BT.rgt]
  | node v l r => exact BT.get_succ v l r k
theorem BT.get_head (t : BT) : t.get 0 = t.val := by cases t <;> rfl
theorem BT.setK_zero {α : Type} (f : Nat) (t : BT) (v : Value) (K : BT → α) : BT.setK (f + 1) t 0 v K = K (.node v t.lft t.rgt) := by cases t <;> rfl
theorem BT.setK_succ {α : Type} (f : Nat) (t : BT) (k : Nat) (v : Value) (K : BT → α) : BT.setK (f + 1) t (k + 1) v K = if k % 2 = 0 then BT.setK f t.lft (k / 2) v (fun l => K (.node t.val l t.rgt)) else BT.setK f t.rgt (k / 2) v (fun r => K (.node t.val t.lft r)) := by
  cases t with
  | nil =>
    exact sel2_eq (BT.setK f .nil (k / 2) v (fun l => K (.node undef l .nil))) (BT.setK f .nil (k / 2) v (fun r => K (.node undef .nil r))) k
  | node u l r =>
    exact sel2_eq (BT.setK f l (k / 2) v (fun l' => K (.node u l' r))) (BT.setK f r (k / 2) v (fun r' => K (.node u l r'))) k
theorem BT.setK_spec : ∀ (f : Nat) (t : BT) (i : Nat) (v : Value), i < f → ∃ t', (∀ j, t'.get j = if i = j then v else t.get j) ∧ ∀ {α : Type} (K : BT → α), BT.setK f t i v K = K t'
  | 0, _, _, _, h => by omega
  | f + 1, t, 0, v, _ => ⟨.node v t.lft t.rgt, fun j => by
      cases j with
      | zero => rfl
      | succ j => rw [if_neg (by omega), BT.get_succ, BT.get_split], fun K => BT.setK_zero f t v K⟩
  | f + 1, t, k + 1, v, h => by
    by_cases hk : k % 2 = 0
    · obtain ⟨t', h1, h2⟩ := BT.setK_spec f t.lft (k / 2) v (by omega)
      refine ⟨.node t.val t' t.rgt, fun j => ?_, fun K => by rw [BT.setK_succ, if_pos hk, h2]⟩
      cases j with
      | zero => rw [if_neg (by omega), BT.get_zero, BT.get_head]
      | succ j =>
        rw [BT.get_succ, BT.get_split t j, h1]
        by_cases hj : j % 2 = 0
        · rw [if_pos hj, if_pos hj]
          by_cases e : k = j
          · subst e; simp
          · rw [if_neg (by omega), if_neg (by omega)]
        · rw [if_neg hj, if_neg hj, if_neg (by omega)]
    · obtain ⟨t', h1, h2⟩ := BT.setK_spec f t.rgt (k / 2) v (by omega)
      refine ⟨.node t.val t.lft t', fun j => ?_, fun K => by rw [BT.setK_succ, if_neg hk, h2]⟩
      cases j with
      | zero => rw [if_neg (by omega), BT.get_zero, BT.get_head]
      | succ j =>
        rw [BT.get_succ, BT.get_split t j, h1]
        by_cases hj : j % 2 = 0
        · rw [if_pos hj, if_pos hj, if_neg (by omega)]
        · rw [if_neg hj, if_neg hj]
          by_cases e : k = j
          · subst e; simp
          · rw [if_neg (by omega), if_neg (by omega)]
/-- A frame like a list of values. -/
def Rep (ft : BT) (tm : List Value) : Prop := ∀ i, ft.get i = tm.getD i undef
/-! ### Values that are forced -/
noncomputable def forceNat {α : Type} (n : Nat) (K : Nat → α) : α := Nat.rec (K 0) (fun k _ => K (Nat.succ k)) n
theorem forceNat_eq {α : Type} (n : Nat) (K : Nat → α) : forceNat n K = K n := by cases n <;> rfl
noncomputable def forceInt {α : Type} (n : Int) (K : Int → α) : α := Int.rec (fun a => forceNat a fun a => K (.ofNat a)) (fun a => forceNat a fun a => K (.negSucc a)) n
theorem forceInt_eq {α : Type} (n : Int) (K : Int → α) : forceInt n K = K n := by
  cases n with
  | ofNat a => exact forceNat_eq a fun a => K (.ofNat a)
  | negSucc a => exact forceNat_eq a fun a => K (.negSucc a)
noncomputable def forceBool {α : Type} (b : Bool) (K : Bool → α) : α := Bool.rec (K false) (K true) b
theorem forceBool_eq {α : Type} (b : Bool) (K : Bool → α) : forceBool b K = K b := by cases b <;> rfl
noncomputable def forceO {α : Type} (o : Option Nat) (K : Option Nat → α) : α := Option.rec (K none) (fun n => forceNat n fun n => K (some n)) o
theorem forceO_eq {α : Type} (o : Option Nat) (K : Option Nat → α) : forceO o K = K o := by
  cases o with
  | none => rfl
  | some n => exact forceNat_eq n fun n => K (some n)
noncomputable def forceAddr {α : Type} (a : Option Addr) (K : Option Addr → α) : α := Option.rec (K none) (fun a => Addr.rec (fun b o s => forceNat b fun b => forceNat o fun o => forceO s fun s => K (some ⟨b, o, s⟩)) a) a
theorem forceAddr_eq {α : Type} (a : Option Addr) (K : Option Addr → α) : forceAddr a K = K a := by
  cases a with
  | none => rfl
  | some a =>
    cases a with
    | mk b o s =>
      show forceNat b (fun b => forceNat o fun o => forceO s fun s => K (some ⟨b, o, s⟩)) = _
      rw [forceNat_eq, forceNat_eq, forceO_eq]
/-- The head alone. -/
noncomputable def headV {α : Type} (v : Value) : (Value → α) → α := match v with
  | .bool b => fun K => K (.bool b)
  | .int k n => fun K => K (.int k n)
  | .float k n => fun K => K (.float k n)
  | .complex k a b => fun K => K (.complex k a b)
  | .string s => fun K => K (.string s)
  | .pointer a => fun K => K (.pointer a)
  | .slice a n c => fun K => K (.slice a n c)
  | .map r => fun K => K (.map r)
  | .chan r => fun K => K (.chan r)
  | .func fn a b => fun K => K (.func fn a b)
  | .nilFunc => fun K => K .nilFunc
  | .iface t v => fun K => K (.iface t v)
  | .nilIface => fun K => K .nilIface
  | .agg a => fun K => K (.agg a)
  | .tuple a => fun K => K (.tuple a)
theorem headV_eq {α : Type} (v : Value) (K : Value → α) : headV v K = K v := by cases v <;> rfl
/-- One cell. -/
noncomputable def forceC {α : Type} (v : Value) : (Value → α) → α := match v with
  | .bool b => fun K => forceBool b fun b => K (.bool b)
  | .int k n => fun K => forceInt n fun n => K (.int k n)
  | .float k n => fun K => K (.float k n)
  | .complex k a b => fun K => K (.complex k a b)
  | .string s => fun K => K (.string s)
  | .pointer a => fun K => forceAddr a fun a => K (.pointer a)
  | .slice a n c => fun K => forceAddr a fun a => forceNat n fun n => forceNat c fun c => K (.slice a n c)
  | .map r => fun K => forceO r fun r => K (.map r)
  | .chan r => fun K => K (.chan r)
  | .func fn a b => fun K => K (.func fn a b)
  | .nilFunc => fun K => K .nilFunc
  | .iface t v => fun K => K (.iface t v)
  | .nilIface => fun K => K .nilIface
  | .agg a => fun K => K (.agg a)
  | .tuple a => fun K => K (.tuple a)
theorem forceC_eq {α : Type} (v : Value) (K : Value → α) : forceC v K = K v := by
  cases v with
  | int k n => exact forceInt_eq n fun n => K (.int k n)
  | bool b => exact forceBool_eq b fun b => K (.bool b)
  | pointer a => exact forceAddr_eq a fun a => K (.pointer a)
  | slice a n c =>
    show forceAddr a (fun a => forceNat n fun n => forceNat c fun c => K (.slice a n c)) = _
    rw [forceAddr_eq, forceNat_eq, forceNat_eq]
  | map r => exact forceO_eq r fun r => K (.map r)
  | _ => rfl
noncomputable def forceL {α : Type} (l : List Value) : (List Value → α) → α := List.rec (fun K => K []) (fun a _ ih K => forceC a fun a => ih fun l => K (a :: l)) l
theorem forceL_eq {α : Type} (l : List Value) (K : List Value → α) : forceL l K = K l := by
  induction l generalizing K with
  | nil => rfl
  | cons a l ih =>
    show forceC a (fun a => forceL l fun l => K (a :: l)) = _
    rw [forceC_eq]
    exact ih _
noncomputable def forceA {α : Type} (a : Array Value) (K : Array Value → α) : α := Array.rec (fun l => forceL l fun l => K ⟨l⟩) a
theorem forceA_eq {α : Type} (a : Array Value) (K : Array Value → α) : forceA a K = K a := by
  cases a with
  | mk l => exact forceL_eq l fun l => K ⟨l⟩
noncomputable def forceV {α : Type} (v : Value) : (Value → α) → α := match v with
  | .func fn a b => fun K => forceA a fun a => forceA b fun b => K (.func fn a b)
  | .agg a => fun K => forceA a fun a => K (.agg a)
  | .tuple a => fun K => forceA a fun a => K (.tuple a)
  | v => forceC v
theorem forceV_eq {α : Type} (v : Value) (K : Value → α) : forceV v K = K v := by
  cases v with
  | func fn a b =>
    show forceA a (fun a => forceA b fun b => K (.func fn a b)) = _
    rw [forceA_eq, forceA_eq]
  | agg a => exact forceA_eq a fun a => K (.agg a)
  | tuple a => exact forceA_eq a fun a => K (.tuple a)
  | bool b => exact forceC_eq (.bool b) K
  | int k n => exact forceC_eq (.int k n) K
  | float k n => exact forceC_eq (.float k n) K
  | complex k x y => exact forceC_eq (.complex k x y) K
  | string x => exact forceC_eq (.string x) K
  | pointer x => exact forceC_eq (.pointer x) K
  | slice x n c => exact forceC_eq (.slice x n c) K
  | map r => exact forceC_eq (.map r) K
  | chan r => exact forceC_eq (.chan r) K
  | nilFunc => exact forceC_eq .nilFunc K
  | iface t x => exact forceC_eq (.iface t x) K
  | nilIface => exact forceC_eq .nilIface K
/-- An object. -/
noncomputable def forceB {α : Type} (o : AObj) (K : AObj → α) : α := match o with
  | .cells c t => forceL c fun c => K (.cells c t)
  | o => K o
theorem forceB_eq {α : Type} (o : AObj) (K : AObj → α) : forceB o K = K o := by
  unfold forceB
  split
  · rw [forceL_eq]
  · rfl
noncomputable def forceOB {α : Type} (o : Option AObj) (K : Option AObj → α) : α := Option.rec (K none) (fun o => forceB o fun o => K (some o)) o
theorem forceOB_eq {α : Type} (o : Option AObj) (K : Option AObj → α) : forceOB o K = K o := by
  cases o with
  | none => rfl
  | some o => exact forceB_eq o fun o => K (some o)
/-! ### The heap -/
noncomputable def trGet (t : Tr) : Nat → Option AObj := Tr.rec (fun _ => none) (fun v _ _ il ir i => Nat.rec v (fun k _ => sel2 (il (Nat.div k 2)) (ir (Nat.div k 2)) (Nat.mod k 2)) i) t
theorem trGet_eq (t : Tr) (i : Nat) : trGet t i = t.get i := by
  induction t generalizing i with
  | nil => rfl
  | node v l r hl hr =>
    cases i with
    | zero => rfl
    | succ k =>
      rw [Tr.get_succ]
      simp only [Tr.left, Tr.right]
      rw [← hl, ← hr]
      exact sel2_eq (trGet l (k / 2)) (trGet r (k / 2)) k
noncomputable def trSetK {α : Type} (f : Nat) : Tr → Nat → Option AObj → (Tr → α) → α := Nat.rec (fun t _ _ K => K t) (fun _ ih t i v K =>
  Tr.rec (Nat.rec (K (.node v .nil .nil)) (fun k _ => sel2 (ih .nil (Nat.div k 2) v (fun l => K (.node none l .nil))) (ih .nil (Nat.div k 2) v (fun r => K (.node none .nil r))) (Nat.mod k 2)) i)
    (fun u l r _ _ => Nat.rec (K (.node v l r)) (fun k _ => sel2 (ih l (Nat.div k 2) v (fun l' => K (.node u l' r))) (ih r (Nat.div k 2) v (fun r' => K (.node u l r'))) (Nat.mod k 2)) i) t) f
theorem trSetK_eq {α : Type} : ∀ (f : Nat) (t : Tr) (i : Nat) (o : Option AObj) (K : Tr → α), trSetK f t i o K = K (Tr.setF f t i o)
  | 0, _, _, _, _ => rfl
  | f + 1, t, 0, o, K => by cases t <;> rfl
  | f + 1, t, k + 1, o, K => by
    rw [Tr.setF_succ]
    cases t with
    | nil =>
      refine (sel2_eq (trSetK f .nil (k / 2) o (fun l => K (.node none l .nil))) (trSetK f .nil (k / 2) o (fun r => K (.node none .nil r))) k).trans ?_
      rw [trSetK_eq f, trSetK_eq f]
      split <;> rfl
    | node u l r =>
      refine (sel2_eq (trSetK f l (k / 2) o (fun l' => K (.node u l' r))) (trSetK f r (k / 2) o (fun r' => K (.node u l r'))) k).trans ?_
      rw [trSetK_eq f, trSetK_eq f]
      split <;> rfl
noncomputable def hget (h : AHeap) (i : Nat) : Option AObj := AHeap.rec (fun n t => Bool.rec none (trGet t i) (Nat.ble (Nat.succ i) n)) h
theorem hget_eq (h : AHeap) (i : Nat) : hget h i = h.get i := by
  cases h with
  | mk n t =>
    unfold AHeap.get
    show @Bool.rec (fun _ => Option AObj) none (trGet t i) (Nat.ble (i + 1) n) = _
    by_cases hi : i < n
    · rw [if_pos hi, Nat.ble_eq_true_of_le hi]; exact trGet_eq t i
    · have : Nat.ble (i + 1) n = false := by
        cases hb : Nat.ble (i + 1) n with
        | false => rfl
        | true => exact absurd (Nat.le_of_ble_eq_true hb) hi
      rw [if_neg hi, this]
noncomputable def hputK {α : Type} (h : AHeap) (i : Nat) (o : Option AObj) (K : AHeap → α) : α := AHeap.rec (fun n t => forceOB o fun o => trSetK (Nat.succ i) t i o fun t => K ⟨n, t⟩) h
theorem hputK_eq {α : Type} (h : AHeap) (i : Nat) (o : Option AObj) (K : AHeap → α) : hputK h i o K = K (h.put i o) := by
  cases h with
  | mk n t =>
    show forceOB o (fun o => trSetK (Nat.succ i) t i o fun t => K ⟨n, t⟩) = _
    rw [forceOB_eq, trSetK_eq]
    rfl
/-- What is put is forced already. -/
noncomputable def hputN {α : Type} (h : AHeap) (i : Nat) (o : Option AObj) (K : AHeap → α) : α := AHeap.rec (fun n t => trSetK (Nat.succ i) t i o fun t => K ⟨n, t⟩) h
theorem hputN_eq {α : Type} (h : AHeap) (i : Nat) (o : Option AObj) (K : AHeap → α) : hputN h i o K = K (h.put i o) := by
  cases h with
  | mk n t =>
    show trSetK (Nat.succ i) t i o (fun t => K ⟨n, t⟩) = _
    rw [trSetK_eq]
    rfl
noncomputable def hpushK {α : Type} (h : AHeap) (o : AObj) (K : AHeap → α) : α := AHeap.rec (fun n t => forceB o fun o => trSetK (Nat.succ n) t n (some o) fun t => forceNat (Nat.succ n) fun n => K ⟨n, t⟩) h
theorem hpushK_eq {α : Type} (h : AHeap) (o : AObj) (K : AHeap → α) : hpushK h o K = K (h.push o) := by
  cases h with
  | mk n t =>
    show forceB o (fun o => trSetK (Nat.succ n) t n (some o) fun t => forceNat (Nat.succ n) fun n => K ⟨n, t⟩) = _
    rw [forceB_eq, trSetK_eq, forceNat_eq]
    rfl
/-! ### Lists -/
noncomputable def nth (l : List Value) : Nat → Option Value := List.rec (fun _ => none) (fun a _ ih i => Nat.rec (some a) (fun k _ => ih k) i) l
theorem nth_eq (l : List Value) (i : Nat) : nth l i = l[i]? := by
  induction l generalizing i with
  | nil => simp; rfl
  | cons a l ih =>
    cases i with
    | zero => rfl
    | succ i => rw [List.getElem?_cons_succ]; exact ih i
noncomputable def dropR (l : List Value) : Nat → List Value := List.rec (fun _ => []) (fun a l ih i => Nat.rec (a :: l) (fun k _ => ih k) i) l
theorem dropR_eq (l : List Value) (i : Nat) : dropR l i = l.drop i := by
  induction l generalizing i with
  | nil => simp; rfl
  | cons a l ih =>
    cases i with
    | zero => rfl
    | succ i => rw [List.drop_succ_cons]; exact ih i
/-- The first 'n', if there are as many. -/
noncomputable def takeK {α : Type} (n : Nat) : List Value → (List Value → Option α) → Option α := Nat.rec (fun _ K => K []) (fun _ ih l K => List.rec none (fun a l _ => ih l fun r => K (a :: r)) l) n
theorem takeK_eq {α : Type} (n : Nat) (l : List Value) (K : List Value → Option α) : takeK n l K = if n ≤ l.length then K (l.take n) else none := by
  induction n generalizing l K with
  | zero => simp; rfl
  | succ n ih =>
    cases l with
    | nil => simp; rfl
    | cons a l =>
      show takeK n l (fun r => K (a :: r)) = _
      rw [ih]
      simp
/-- One cell put in the place of another. -/
noncomputable def set1K {α : Type} (l : List Value) (v : Value) : Nat → (List Value → Option α) → Option α := List.rec (fun _ _ => none) (fun a l ih i K => Nat.rec (K (v :: l)) (fun k _ => ih k fun l => K (a :: l)) i) l
theorem set1K_eq {α : Type} (l : List Value) (v : Value) (i : Nat) (K : List Value → Option α) : set1K l v i K = if i < l.length then K (l.set i v) else none := by
  induction l generalizing i K with
  | nil => simp; rfl
  | cons a l ih =>
    cases i with
    | zero => simp; rfl
    | succ i =>
      show set1K l v i (fun l => K (a :: l)) = _
      rw [ih]
      simp
end Go.Proofs.Ytmelgnpogdilgaa
