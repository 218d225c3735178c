/- The fast evaluator. No conditions. -/
import Derived.Test.YtmelgnpogdilgaaAbsX
namespace Go.Proofs.Ytmelgnpogdilgaa
set_option linter.unusedVariables false
noncomputable def evalF (ft : BT) (x : Operand) : Value := Operand.rec (fun t => ft.get t) (fun v => v) (fun g => .pointer (some ⟨g, 0, none⟩)) (fun f => .func (.func f) #[] #[]) x
theorem evalF_eq {ft : BT} {tm : List Value} (h : Rep ft tm) : evalF ft = evalT tm := funext fun x => by
  cases x with
  | tmp t => exact h t
  | _ => rfl
/-! ### Heaps by what is done to them -/
inductive HA where
  | same
  | push (a : AObj)
  | put (b : Nat) (o : AObj)
  | kill (b : Nat) (a : AObj)
def HA.on (h : AHeap) : HA → AHeap
  | .same => h
  | .push a => h.push a
  | .put b o => h.put b (some o)
  | .kill b a => (h.put b none).push a
noncomputable def HA.onK {α : Type} (h : AHeap) (a : HA) (K : AHeap → α) : α := match a with
  | .same => K h
  | .push a => hpushK h a K
  | .put b o => hputK h b (some o) K
  | .kill b a => hputK h b none fun h => hpushK h a K
theorem HA.onK_eq {α : Type} (h : AHeap) (a : HA) (K : AHeap → α) : a.onK h K = K (a.on h) := by
  cases a with
  | same => rfl
  | push a => exact hpushK_eq h a K
  | put b o => exact hputK_eq h b (some o) K
  | kill b a => show hputK h b none (fun h => hpushK h a K) = _; rw [hputK_eq, hpushK_eq]; rfl
def growA (P : Program) (h : AHeap) (e : TypeId) (inf : TypeInfo) (n : Nat) (new : List Value) (rd : List Nat) : Value → Option (Value × HA × List Nat × List Nat)
  | .slice none 0 0 => if n = 0 then some (.slice none 0 0, .same, rd, []) else if n ≤ 1099511627776 ∧ n * inf.bytes ≤ 140737488355328 then some (.slice (some ⟨h.n, 0, none⟩) n n, .push (.cells new e), rd, []) else none
  | .slice (some ⟨b, o, none⟩) len cap =>
    if len + n ≤ cap then
      if new.isEmpty then some (.slice (some ⟨b, o, none⟩) (len + n) cap, .same, rd, []) else
      match h.get b with
      | some (.cells c t) => if o + len * inf.size + new.length ≤ c.length ∧ new.all Value.oneCell' = true then some (.slice (some ⟨b, o, none⟩) (len + n) cap, .put b (.cells (setL c (o + len * inf.size) new) t), b :: rd, [b]) else none
      | _ => none
    else if len + n ≤ 1099511627776 ∧ (len + n) * inf.bytes ≤ 140737488355328 then
      match aSrc h inf.size len (.slice (some ⟨b, o, none⟩) len cap) with
      | some (old, rd₂) => if tight P h b o cap = false then some (.slice (some ⟨h.n, 0, none⟩) (len + n) (len + n), .push (.cells (old ++ new) e), rd ++ rd₂, []) else
        match h.get b with
        | some (.cells c t) => if t = e ∧ o + cap * inf.size = c.length ∧ new.all Value.oneCell' = true ∧ len ≤ cap then some (.slice (some ⟨h.n, 0, none⟩) (len + n) (len + n), .kill b (.cells (old ++ new) e), b :: (rd ++ rd₂), [b]) else none
        | _ => none
      | none => none
    else none
  | _ => none
theorem growA_eq {P : Program} {h : AHeap} {e : TypeId} {inf : TypeInfo} {n : Nat} {new : List Value} {rd : List Nat} {s v : Value} {a : HA} {r w : List Nat} (he : growA P h e inf n new rd s = some (v, a, r, w)) : aGrow P h e inf n new rd s = some (v, a.on h, r, w) := by
  unfold growA at he
  unfold aGrow
  split at he
  · split at he
    · cases he; rename_i h1; simp [h1, HA.on]
    · split at he
      · cases he; rename_i h1 h2; simp [h1, h2, HA.on]
      · cases he
  · split at he
    · rename_i h1
      split at he
      · rename_i h2; cases he; simp [h1, h2, HA.on]
      · rename_i h2
        split at he
        · rename_i c t hg
          split at he
          · rename_i h3; cases he; simp only [h1, if_true, h2, if_false, hg, Bool.false_eq_true]; rw [if_pos h3]; rfl
          · cases he
        · cases he
    · rename_i h1
      split at he
      · rename_i h2
        split at he
        · rename_i old rd₂ ho
          split at he
          · rename_i h3; cases he; simp only [h1, if_false, ho]; rw [if_pos h2, if_pos h3]; rfl
          · rename_i h3
            split at he
            · rename_i c t hg
              split at he
              · rename_i h4; cases he; simp only [h1, if_false, ho]; rw [if_pos h2, if_neg h3]; simp only [hg]; rw [if_pos h4]; rfl
              · cases he
            · cases he
        · cases he
      · cases he
  · cases he
def appendA (P : Program) (h : AHeap) (t₁ t₂ : TypeId) (s x : Value) : Option (Value × HA × List Nat × List Nat) :=
  match P.underlying t₁ with
  | some (.slice e) => match P.info? e with
    | some inf => match inf.zero with
      | some z => if 0 < inf.size ∧ flatB z = true ∧ z.cells.toList.length = inf.size then match aNew P h e inf t₂ x with
          | some (n, new, rd) => growA P h e inf n new rd s
          | none => none
        else none
      | none => none
    | none => none
  | _ => none
theorem appendA_eq {P : Program} {h : AHeap} {t₁ t₂ : TypeId} {s x v : Value} {a : HA} {r w : List Nat} (he : appendA P h t₁ t₂ s x = some (v, a, r, w)) : aAppend P h t₁ t₂ s x = some (v, a.on h, r, w) := by
  unfold appendA at he
  unfold aAppend
  split at he
  · rename_i e hu
    split at he
    · rename_i inf hi
      split at he
      · rename_i z hz
        split at he
        · rename_i hc
          split at he
          · rename_i n new rd hn
            simp only [hu, hi, hz]
            rw [if_pos hc]
            simp only [hn]
            exact growA_eq he
          · cases he
        · cases he
      · cases he
    · cases he
  · cases he
/-! ### Operations -/
section
variable {X : Type}
noncomputable def overK (l : List Value) : List Value → (List Value → Option X) → Option X := List.rec (fun c K => K c) (fun a _ ih c K => List.rec none (fun _ c _ => ih c fun r => K (a :: r)) c) l
noncomputable def spliceK (l : List Value) (c : List Value) : Nat → (List Value → Option X) → Option X := List.rec (fun o K => Nat.rec (overK l [] K) (fun _ _ => none) o) (fun a c ih o K => Nat.rec (overK l (a :: c) K) (fun k _ => ih k fun r => K (a :: r)) o) c
theorem overK_eq (l c : List Value) (K : List Value → Option X) : overK l c K = if l.length ≤ c.length then K (l ++ c.drop l.length) else none := by
  induction l generalizing c K with
  | nil => simp; rfl
  | cons a l ih =>
    cases c with
    | nil => simp; rfl
    | cons b c =>
      show overK l c (fun r => K (a :: r)) = _
      rw [ih]
      simp
theorem spliceK_eq (l c : List Value) (o : Nat) (K : List Value → Option X) : spliceK l c o K = if o + l.length ≤ c.length then K (setL c o l) else none := by
  induction c generalizing o K with
  | nil =>
    cases o with
    | zero =>
      show overK l [] K = _
      rw [overK_eq]
      simp [setL]
    | succ o =>
      show none = _
      rw [if_neg (by simp)]
  | cons a c ih =>
    cases o with
    | zero =>
      show overK l (a :: c) K = _
      rw [overK_eq]
      simp [setL]
    | succ o =>
      show spliceK l c o (fun r => K (a :: r)) = _
      rw [ih]
      by_cases h : o + l.length ≤ c.length
      · rw [if_pos h, if_pos (by simp; omega)]
        simp [setL, Nat.add_right_comm]
      · rw [if_neg h, if_neg (by simp; omega)]
def lenIs : List Value → Nat → Bool
  | [], n => Nat.beq n 0
  | _ :: l, n => match n with
    | 0 => false
    | n + 1 => lenIs l n
theorem lenIs_eq : ∀ {l : List Value} {n : Nat}, lenIs l n = true → l.length = n
  | [], n, h => (Nat.eq_of_beq_eq_true h).symm
  | _ :: l, 0, h => by cases h
  | _ :: l, n + 1, h => by simp [lenIs_eq (l := l) (n := n) h]
def fieldOff (P : Program) (s : TypeId) (f : Nat) : Option Nat := match P.underlying s with
  | some (.struct fs) => match fs[f]? with
    | some fd => match sizeT P fd.type with
      | some (_ + 1) => some fd.offset
      | _ => none
    | none => none
  | _ => none
/-- An element's size; the length, of an array. -/
def elemT (P : Program) (t : TypeId) : Option (Option Nat × Nat) := match P.underlying t with
  | some (.slice e) => (sizeT P e).map fun n => (none, n)
  | some (.array len e) => (sizeT P e).map fun n => (some len, n)
  | _ => none
def kIdx : IntKind → Nat
  | .i8 => 0 | .i16 => 1 | .i32 => 2 | .i64 => 3 | .u8 => 4 | .u16 => 5 | .u32 => 6 | .u64 => 7
theorem kIdx_inj {k k' : IntKind} (h : Nat.beq (kIdx k) (kIdx k') = true) : k' = k := by
  cases k <;> cases k' <;> first | rfl | cases h
def fBinV (op : BinOp) (x y : Value) : Option Value := match x, y with
  | .int k a, .int k' b => match op with
    | .shl => fShift .shl k a b
    | .shr => fShift .shr k a b
    | op => match Nat.beq (kIdx k) (kIdx k') with
      | true => fBin op k a b
      | false => none
  | _, _ => none
def dstInt (P : Program) (src dst : TypeId) : Option IntKind := match P.underlying src, P.underlying dst with
  | some _, some (.int k) => some k
  | _, _ => none
def isSliceT (P : Program) (t : TypeId) : Bool := match P.underlying t with
  | some (.slice _) => true
  | _ => false
end
section
variable {A : Type}
abbrev KO (A : Type) := Value → AHeap → List Nat → List Nat → Bool → Bool → Option A
abbrev KC (A : Type) := Exit → BT → List Nat → AHeap → List Nat → Option A
abbrev CallK (A : Type) := FuncId → List Value → AHeap → (Value → AHeap → List Nat → Option A) → Option A
abbrev CodeK (A : Type) := Bool → Nat → Code → BT → List Nat → AHeap → KC A → Option A
abbrev OpF (A : Type) := Program → CallK A → CodeK A → Oper → BT → AHeap → KO A → Option A
noncomputable def ptrK {B : Type} (v : Value) : (Nat → Nat → Option B) → Option B := match v with
  | .pointer (some ⟨b, o, none⟩) => fun K => K b o
  | _ => fun _ => none
noncomputable def cellsK {B : Type} (o : Option AObj) : (List Value → TypeId → Option B) → Option B := match o with
  | some (.cells c t) => fun K => K c t
  | _ => fun _ => none
noncomputable def optK {B C : Type} (o : Option C) : (C → Option B) → Option B := Option.rec (fun _ => none) (fun a K => K a) o
noncomputable def ifK {B : Type} (b : Bool) (x y : Option B) : Option B := Bool.rec y x b
noncomputable def oMove (x : Operand) : OpF A := fun P CF E o ft h K => headV (evalF ft x) fun v => K v h [] [] false true
noncomputable def load1 (h : AHeap) (b : Nat) (K : KO A) (c : List Value) (o : Nat) : Option A := optK (nth c o) fun v => K v h [b] [] false true
noncomputable def loadN (h : AHeap) (b n : Nat) (K : KO A) (c : List Value) (o : Nat) : Option A := takeK (Nat.succ n) (dropR c o) fun l => K (.agg ⟨l⟩) h [b] [] false true
noncomputable def loadC (r : Option (Option Nat)) : AHeap → Nat → KO A → List Value → Nat → Option A := match r with
  | some none => load1
  | some (some (n + 1)) => fun h b => loadN h b n
  | _ => fun _ _ _ _ _ => none
noncomputable def oLoad (t : TypeId) (x : Operand) : OpF A := fun P CF E o ft h K => ptrK (evalF ft x) fun b off => cellsK (hget h b) fun c _ => loadC (cellsT P t) h b K c off
noncomputable def storeV (v : Value) : Nat → List Value → Nat → (List Value → Option A) → Option A := match v with
  | .agg a => fun n c o K => ifK (lenIs a.toList n) (ifK (a.toList.all Value.oneCell') (spliceK a.toList c o K) none) none
  | v => fun n c o K => ifK (Nat.beq n 1) (ifK v.oneCell' (set1K c v o K) none) none
noncomputable def oStore (t : TypeId) (x y : Operand) : OpF A := fun P CF E o ft h K => ptrK (evalF ft x) fun b off => cellsK (hget h b) fun c ct => optK (sizeT P t) fun n =>
  headV (evalF ft y) fun v => storeV v n c off fun c => hputN h b (some (.cells c ct)) fun h' => K undef h' [b] [b] false false
noncomputable def oField (s : TypeId) (x : Operand) (f : Nat) : OpF A := fun P CF E o ft h K => ptrK (evalF ft x) fun b off => optK (fieldOff P s f) fun k => forceNat (Nat.add off k) fun off => K (.pointer (some ⟨b, off, none⟩)) h [] [] false true
noncomputable def idxK (i : Value) : (Nat → Option A) → Option A := match i with
  | .int _ (.ofNat i) => fun K => K i
  | _ => fun _ => none
noncomputable def idxAt (x : Value) : Option (Option Nat × Nat) → Nat → (Nat → Nat → Option A) → Option A := match x with
  | .slice (some ⟨b, o, none⟩) len _ => fun e i K => match e with
    | some (none, n) => ifK (Nat.ble (Nat.succ i) len) (K b (Nat.add o (Nat.mul i n))) none
    | _ => none
  | .pointer (some ⟨b, o, none⟩) => fun e i K => match e with
    | some (some len, n) => ifK (Nat.ble (Nat.succ i) len) (K b (Nat.add o (Nat.mul i n))) none
    | _ => none
  | _ => fun _ _ _ => none
noncomputable def oIndex (t : TypeId) (x i : Operand) : OpF A := fun P CF E o ft h K => idxK (evalF ft i) fun i => idxAt (evalF ft x) (elemT P t) i fun b off => forceNat off fun off => K (.pointer (some ⟨b, off, none⟩)) h [] [] false true
def noCF : CallF := fun _ _ _ => none
def noRF : CodeF := fun _ _ _ _ => none
noncomputable def slow : OpF A := fun P CF E o ft h K => optK (aOp P noCF noRF o (evalF ft) h) fun r => forceV r.v fun v => K v r.h r.rd r.wr r.all r.same
noncomputable def binK (r : Option Value) (h : AHeap) (K : KO A) (s : Option A) : Option A := Option.rec s (fun v => forceC v fun v => K v h [] [] false true) r
noncomputable def oBin (op : BinOp) (t : TypeId) (x y : Operand) (t₂ : TypeId) : OpF A := fun P CF E o ft h K => binK (fBinV op (evalF ft x) (evalF ft y)) h K (slow P CF E o ft h K)
noncomputable def notV (v : Value) : Option Value := match v with
  | .bool b => some (.bool (!b))
  | _ => none
noncomputable def oUn (op : UnOp) (t : TypeId) (x : Operand) : OpF A := match op with
  | .not => fun P CF E o ft h K => binK (notV (evalF ft x)) h K none
  | _ => slow
noncomputable def convV (v : Value) (k : Option IntKind) : Option Value := match v, k with
  | .int _ n, some k => some (.int k (wrapF k n))
  | _, _ => none
noncomputable def oConv (src dst : TypeId) (x : Operand) : OpF A := fun P CF E o ft h K => binK (convV (evalF ft x) (dstInt P src dst)) h K (slow P CF E o ft h K)
noncomputable def nilV (v : Value) : Option Value := match v with
  | .pointer (some ⟨b, c, none⟩) => some (.pointer (some ⟨b, c, none⟩))
  | .func (.func f) a b => some (.func (.func f) a b)
  | _ => none
noncomputable def oNil (x : Operand) : OpF A := fun P CF E o ft h K => binK (nilV (evalF ft x)) h K (slow P CF E o ft h K)
noncomputable def tupV (v : Value) (i : Nat) : Option Value := match v with
  | .tuple vs => nth vs.toList i
  | _ => none
noncomputable def oExtract (x : Operand) (i : Nat) : OpF A := fun P CF E o ft h K => binK (tupV (evalF ft x) i) h K none
noncomputable def boolK (v : Value) : (Bool → Option A) → Option A := match v with
  | .bool b => fun K => K b
  | _ => fun _ => none
noncomputable def oPick (c a b : Operand) : OpF A := fun P CF E o ft h K => boolK (evalF ft c) fun t => headV (evalF ft (Bool.rec b a t)) fun v => K v h [] [] false true
noncomputable def newK (h : AHeap) (K : KO A) (v : Value) (a : AObj) : Option A := forceC v fun v => hpushK h a fun h' => K v h' [] [] false false
noncomputable def oAlloc (t : TypeId) : OpF A := fun P CF E o ft h K => optK (aAlloc P t) fun a => newK h K (.pointer (some ⟨h.n, 0, none⟩)) a
noncomputable def oBox (t : TypeId) (x : Operand) : OpF A := fun P CF E o ft h K => optK (sizeT P t) fun _ => newK h K (.pointer (some ⟨h.n, 0, none⟩)) (.cells (evalF ft x).cells.toList t)
noncomputable def oBuildSlice (t : TypeId) (len : Nat) (ps : Array (Nat × Operand)) : OpF A := fun P CF E o ft h K => optK (aBuildSlice P t len (ps.toList.map fun p => (p.1, evalF ft p.2))) fun a => newK h K (.slice (some ⟨h.n, 0, none⟩) len len) a
noncomputable def oMakeSlice (t : TypeId) (x y : Operand) : OpF A := fun P CF E o ft h K => optK (aMake P t (evalF ft x) (evalF ft y)) fun r => newK h K (.slice (some ⟨h.n, 0, none⟩) r.1 r.2.1) r.2.2
noncomputable def lenF (v : Value) (s : Bool) : Option Value := match v, s with
  | .slice _ n _, true => some (.int .i64 (.ofNat n))
  | _, _ => none
noncomputable def oBuiltin (b : Builtin) (xs : Array Operand) (ts : Array TypeId) : OpF A := match b, xs.toList, ts.toList with
  | .len, [x], [t] => fun P CF E o ft h K => binK (lenF (evalF ft x) (isSliceT P t)) h K (slow P CF E o ft h K)
  | .append, [x, y], [t, u] => fun P CF E o ft h K => optK (appendA P h t u (evalF ft x) (evalF ft y)) fun r => HA.onK h r.2.1 fun h' => forceV r.1 fun v => K v h' r.2.2.1 r.2.2.2 false false
  | _, _, _ => slow
noncomputable def toL (ft : BT) (N : Nat) : Nat → List Value := Nat.rec (fun _ => []) (fun _ ih i => ft.get i :: ih (Nat.succ i)) N
noncomputable def ofLK {X : Type} (l : List Value) : Nat → BT → (BT → Option X) → Option X := List.rec (fun _ t K => K t) (fun a _ ih i t K => BT.setK (Nat.succ i) t i a fun t => ih (Nat.succ i) t K) l
noncomputable def codeL (E : CodeK A) (c : Code) (tm : List Value) (df : List Nat) (h : AHeap) (K : CR → Option A) : Option A := ofLK tm 0 .nil fun ft => E true tm.length c ft df h fun x ft df h wr => K ⟨x, toL ft tm.length 0, df, h, wr⟩
noncomputable def yieldK (E : CodeK A) (h : AHeap) (l : Nat) (args : List Value) (K : KO A) : Option A :=
  match hget h l with
  | some (.loop .ready _ tmL ps asg bo _) => ifK (Nat.beq args.length ps.size) (codeL E asg (setPs tmL ps.toList args) [] h fun r => match r with
      | ⟨.normal, tm₁, df₁, h₁, wr₁⟩ => match hget h₁ l with
        | some (.loop .ready pe' tmL' ps' as' bo' df') => hputK h₁ l (some (.loop .busy pe' tmL' ps' as' bo' df')) fun hb => codeL E bo tm₁ df₁ hb fun r₂ => match hget r₂.h l, jumpOf r₂.x with
          | some (.loop _ _ tm₂ ps₂ as₂ bo₂ df₂), some jump => hputK r₂.h l (some (.loop (if jump.isNone then .ready else .done) jump tm₂ ps₂ as₂ bo₂ df₂)) fun h' => forceC (.bool jump.isNone) fun v => K v h' [] (l :: (wr₁ ++ r₂.wr)) true false
          | _, _ => none
        | _ => none
      | _ => none) none
  | _ => none
noncomputable def callV (f : Value) : Program → CallK A → CodeK A → AHeap → List Value → KO A → Option A := match f with
  | .func (.func g) first cap => fun P CF E h args K => ifK (calls P g) (forceL (first.toList ++ args ++ cap.toList) fun l => CF g l h fun v h' wr => K v h' [] wr true false) none
  | .func (.yield l) first cap => fun P CF E h args K => ifK (Nat.beq first.size 0) (ifK (Nat.beq cap.size 0) (forceL args fun args => yieldK E h l args K) none) none
  | _ => fun _ _ _ _ _ _ => none
noncomputable def oCall (f : Operand) (xs : Array Operand) : OpF A := fun P CF E o ft h K => callV (evalF ft f) P CF E h (xs.toList.map (evalF ft)) K
noncomputable def oCallC (c : Call) : OpF A := Call.rec (fun callee xs ts => Callee.rec (fun f => oCall f xs) (fun _ _ => slow) (fun b => oBuiltin b xs ts) callee) c
noncomputable def fOpF (op : Op) : OpF A := @Op.rec (fun _ => OpF A) oMove oMove oPick oAlloc oBox (fun _ _ => slow) oBuildSlice (fun _ _ _ _ => slow) oLoad oStore (fun _ => slow) (fun _ => slow) oNil oBin oUn oConv (fun _ _ => slow) (fun _ _ => slow) (fun _ _ _ => slow) (fun _ _ => slow) (fun _ _ => slow) oMakeSlice (fun _ _ _ _ _ => slow) oField (fun _ _ _ => slow) oIndex (fun _ _ _ => slow) (fun _ _ _ _ => slow) (fun _ _ _ _ => slow) (fun _ _ _ => slow) (fun _ _ _ _ => slow) (fun _ _ => slow) (fun _ _ => slow) (fun _ => slow) (fun _ _ _ _ => slow) oExtract oCallC (fun _ => slow) (fun _ => slow) (fun _ => slow) (fun _ _ => slow) (fun _ _ _ => slow) (fun _ _ => slow) op
/-! ### Regions -/
noncomputable def putK (N : Nat) (ft : BT) (v : Value) (K : BT → Option A) (d : Option Tmp) : Option A := Option.rec (K ft) (fun t => ifK (Nat.ble (Nat.succ t) N) (BT.setK (Nat.succ t) ft t v K) none) d
noncomputable def yieldedV (v : Value) (w : Bool) : Bool := match v with
  | .bool b => Bool.rec (Bool.rec true false w) (Bool.rec false true w) b
  | _ => false
noncomputable def wantedD (N : Nat) (ft : BT) (w : Bool) (d : Option Tmp) : Bool := Option.rec false (fun d => Bool.rec false (yieldedV (ft.get d) w) (Nat.ble (Nat.succ d) N)) d
noncomputable def wantedG (ops : Array Oper) (N : Nat) (ft : BT) (g : Nat × Bool) : Bool := Option.rec false (fun o => wantedD N ft g.2 (Oper.dst o)) (ops[g.1]?)
noncomputable def wantedK (ops : Array Oper) (N : Nat) (ft : BT) (x y : Option A) (g : Option (Nat × Bool)) : Option A := Option.rec x (fun g => ifK (wantedG ops N ft g) x y) g
noncomputable def stepK (P : Program) (CF : CallK A) (E : CodeK A) (ops : Array Oper) (N : Nat) (o : Oper) (ft : BT) (h : AHeap) (K : BT → AHeap → Nat → OR → Option A) : Option A :=
  wantedK ops N ft (fOpF o.op P CF E o ft h fun v h' rd wr all same => putK N ft v (fun ft => K ft h' h.n ⟨v, h', rd, wr, all, same⟩) o.dst)
    (putK N ft undef (fun ft => K ft h h.n ⟨undef, h, [], [], false, true⟩) o.dst) o.guard
noncomputable def traceK (P : Program) (CF : CallK A) (E : CodeK A) (ops : Array Oper) (N : Nat) (os : List Oper) : BT → AHeap → (BT → AHeap → List (Nat × OR) → Option A) → Option A :=
  List.rec (fun ft h K => K ft h []) (fun o _ ih ft h K => stepK P CF E ops N o ft h fun ft h n r => ih ft h fun ft' h' rs => K ft' h' ((n, r) :: rs)) os
noncomputable def opsK (P : Program) (CF : CallK A) (E : CodeK A) (ops : Array Oper) (N : Nat) (os : List Oper) : BT → AHeap → List Nat → (BT → AHeap → List Nat → Option A) → Option A :=
  List.rec (fun ft h wr K => K ft h wr) (fun o _ ih ft h wr K => stepK P CF E ops N o ft h fun ft h _ r => ih ft h (r.wr ++ wr) K) os
def loudRowF (ops : Array Oper) (w : List Nat) (i : Nat) : List (Nat × OR) → Nat → Bool
  | [], _ => true
  | (n, r) :: rs, j => loudPair ops w i j n r && loudRowF ops w i rs (j + 1)
def loudOkF (ops : Array Oper) (all : List (Nat × OR)) : List (Nat × OR) → Nat → Bool
  | [], _ => true
  | (n, r) :: rs, i => ((oldOf n r.wr).isEmpty || loudRowF ops (oldOf n r.wr) i all 0) && loudOkF ops all rs (i + 1)
def wrOfF (n : Nat) : List (Nat × OR) → List Nat
  | [] => []
  | (_, r) :: rs => oldOf n r.wr ++ wrOfF n rs
noncomputable def regionK (P : Program) (CF : CallK A) (E : CodeK A) (ops : Array Oper) (draw : Bool) (N : Nat) (ft : BT) (df : List Nat) (h : AHeap) (K : KC A) : Option A :=
  ifK draw (ifK (drawOk P ops) (traceK P CF E ops N ops.toList ft h fun ft' h' rs => ifK (loudOkF ops rs rs 0) (K .normal ft' df h' (wrOfF h.n rs)) none) none)
    (ifK (opsOk P ops) (opsK P CF E ops N ops.toList ft h [] fun ft' h' wr => K .normal ft' df h' wr) none)
/-! ### Code -/
noncomputable def fResults (P : Program) (h : AHeap) (ft : BT) : List ResultVar → Option (List Value)
  | [] => some []
  | .tmp t :: rs => (fResults P h ft rs).map (ft.get t :: ·)
  | .cell a t :: rs => match aLoad P h t (ft.get a), fResults P h ft rs with
    | some (v, _), some vs => some (v :: vs)
    | _, _ => none
noncomputable def fResult (P : Program) (h : AHeap) (ft : BT) (rs : List ResultVar) : Option Value := match fResults P h ft rs with
  | some [v] => some v
  | some vs => some (.tuple vs.toArray)
  | none => none
def leftB : Exit → Bool
  | .normal | .ret => true
  | _ => false
noncomputable def callBody (P : Program) (E : CodeK A) (fn : Func) (c : Code) (args : List Value) (h : AHeap) (K : Value → AHeap → List Nat → Option A) : Option A :=
  ofLK args 0 .nil fun ft => forceNat (args.length + (fn.ntmps - args.length)) fun N => E false N c ft [] h fun x ft df h₁ wr => ifK (leftB x && df.all fun d => Nat.ble h.n d) (optK (takeAll h₁ df) fun h₂ => optK (fResult P h₂ ft fn.results.toList) fun v => forceV v fun v => K v h₂ (oldOf h.n wr)) none
noncomputable def callK (P : Program) (S : Summ) (E : CodeK A) : CallK A := fun f args h K =>
  Option.rec (optK (P.funcs[f]?) fun fn => optK fn.body fun c => callBody P E fn c args h K) (fun r => forceV r.1 fun v => K v r.2.1 r.2.2) (S f args h)
abbrev CoF (A : Type) := Program → Summ → CodeK A → Bool → Nat → BT → List Nat → AHeap → KC A → Option A
def isNormal : Exit → Bool
  | .normal => true
  | _ => false
noncomputable def cSeq (a b : Code) : CoF A := fun P S E q N ft df h K => E q N a ft df h fun x ft df h wr => ifK (isNormal x) (E q N b ft df h fun x ft df h wr₂ => K x ft df h (wr ++ wr₂)) (K x ft df h wr)
noncomputable def cCond (o : Operand) (a b : Code) : CoF A := fun P S E q N ft df h K => boolK (evalF ft o) fun t => ifK t (E q N a ft df h K) (E q N b ft df h K)
noncomputable def cBlock (id : Nat) (c : Code) : CoF A := fun P S E q N ft df h K => E q N c ft df h fun x ft df h wr => K (Exit.leave id x) ft df h wr
noncomputable def cLoop (c : Code) : CoF A := fun P S E q N ft df h K => E q N c ft df h fun x ft df h wr => ifK (isNormal x) (E q N (.loop c) ft df h fun x ft df h wr₂ => K x ft df h (wr ++ wr₂)) (K x ft df h wr)
def isGoto : Exit → Bool
  | .goto _ => true
  | _ => false
noncomputable def cScope (c : Code) : CoF A := fun P S E q N ft df h K => E q N c ft df h fun x ft df h wr => ifK (isGoto x) none (K x ft df h wr)
noncomputable def rangeV (f : Value) : Code → Operand → Array Tmp → Code → CoF A := match f with
  | .func (.func f) first cap => fun bo g ps asg P S E q N ft df h K => ifK q none (ifK (calls P f) (ifK (okOpd P g) (forceL (toL ft N 0) fun tm => hpushK h (.deferred true) fun h₁ => hpushK h₁ (.loop .ready none tm ps asg bo h.n) fun h₂ => callK P S E f (first.toList ++ [.func (.yield (h.n + 1)) #[] #[]] ++ cap.toList) h₂ fun _ h₃ wr =>
      match hget h₃ (h.n + 1) with
      | some (.loop st pe tm' ps' as' bo' df') => match st == .busy, exitOf pe with
        | false, some x => hputK h₃ (h.n + 1) (some (.loop .exhausted pe tm' ps' as' bo' df')) fun h₄ => K x ft (h.n :: df) h₄ ((h.n + 1) :: wr)
        | _, _ => none
      | _ => none) none) none)
  | _ => fun _ _ _ _ _ _ _ _ _ _ _ _ _ => none
noncomputable def cRange (g : Operand) (ps : Array Tmp) (asg bo : Code) : CoF A := fun P S E q N ft df h K => rangeV (evalF ft g) bo g ps asg P S E q N ft df h K
noncomputable def cRegion (ops : Array Oper) (draw : Bool) : CoF A := fun P S E q N ft df h K => regionK P (callK P S E) E ops draw N ft df h K
noncomputable def cAt (x : Exit) : CoF A := fun P S E q N ft df h K => K x ft df h []
noncomputable def cNo : CoF A := fun _ _ _ _ _ _ _ _ _ => none
noncomputable def codeF (c : Code) : CoF A := @Code.rec (fun _ => CoF A) (cAt .normal) (fun _ ops d => cRegion ops d) (fun a b _ _ => cSeq a b) (fun o a b _ _ => cCond o a b) (fun id c _ => cBlock id c) (fun c _ => cLoop c) (fun g ps a b _ _ => cRange g ps a b) (fun id => cAt (.exit id)) (fun c _ => cScope c) (fun _ => cAt .normal) (fun _ => cNo) (cAt .ret) (fun _ => cNo) c
noncomputable def fev (P : Program) (S : Summ) (n : Nat) : CodeK A := Nat.rec (fun _ _ _ _ _ _ _ => none) (fun _ E q N c ft df h K => codeF c P S E q N ft df h K) n
end
end Go.Proofs.Ytmelgnpogdilgaa
