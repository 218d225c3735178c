/- What the law leans on, part 3. No conditions. -/
import Derived.Below
import Derived.Test.YtncbbeghkpjpbaaDoorScriptParsesPart2
set_option linter.unusedVariables false
set_option linter.unusedSimpArgs false
namespace Go.Proofs.YtncbbeghkpjpbaaDoor
noncomputable def evalF (ft : BT) (x : Operand) : Value := Operand.rec (fun t => ft.get t) (fun v => v) (fun g => .pointer (some ⟨g, 0, none⟩)) (fun f => .func (.func f) #[] #[]) x
theorem evalF_eq {ft : BT} {tm : List Value} (h : Rep ft tm) : evalF ft = evalT tm := funext fun x => by
 cases x with
 | tmp t => exact h t
 | _ => rfl
inductive HA where
 | same
 | push (a : AObj)
 | put (b : Nat) (o : AObj)
 | kill (b : Nat) (a : AObj)
def HA.on (h : AHeap) : HA → AHeap
 | .same => h
 | .push a => h.push a
 | .put b o => h.put b (some o)
 | .kill b a => (h.put b none).push a
noncomputable def HA.onK {α : Type} (h : AHeap) (a : HA) (K : AHeap → α) : α := match a with
 | .same => K h
 | .push a => hpushK h a K
 | .put b o => hputK h b (some o) K
 | .kill b a => hputK h b none fun h => hpushK h a K
theorem HA.onK_eq {α : Type} (h : AHeap) (a : HA) (K : AHeap → α) : a.onK h K = K (a.on h) := by
 cases a with
 | same => rfl
 | push a => exact hpushK_eq h a K
 | put b o => exact hputK_eq h b (some o) K
 | kill b a => show hputK h b none (fun h => hpushK h a K) = _; rw [hputK_eq, hpushK_eq]; rfl
def growA (P : Program) (h : AHeap) (e : TypeId) (inf : TypeInfo) (n : Nat) (new : List Value) (rd : List Nat) : Value → Option (Value × HA × List Nat × List Nat)
 | .slice none 0 0 => if n = 0 then some (.slice none 0 0, .same, rd, []) else if n ≤ 1099511627776 ∧ n * inf.bytes ≤ 140737488355328 then some (.slice (some ⟨h.n, 0, none⟩) n n, .push (.cells new e), rd, []) else none
 | .slice (some ⟨b, o, none⟩) len cap =>
  if len + n ≤ cap then
   if new.isEmpty then some (.slice (some ⟨b, o, none⟩) (len + n) cap, .same, rd, []) else
   match h.get b with
   | some (.cells c t) => if o + len * inf.size + new.length ≤ c.length ∧ new.all Value.oneCell' = true then some (.slice (some ⟨b, o, none⟩) (len + n) cap, .put b (.cells (setL c (o + len * inf.size) new) t), b :: rd, [b]) else none
   | _ => none
  else if len + n ≤ 1099511627776 ∧ (len + n) * inf.bytes ≤ 140737488355328 then
   match aSrc h inf.size len (.slice (some ⟨b, o, none⟩) len cap) with
   | some (old, rd₂) => if tight P h b o cap = false then some (.slice (some ⟨h.n, 0, none⟩) (len + n) (len + n), .push (.cells (old ++ new) e), rd ++ rd₂, []) else
    match h.get b with
    | some (.cells c t) => if t = e ∧ o + cap * inf.size = c.length ∧ new.all Value.oneCell' = true ∧ len ≤ cap then some (.slice (some ⟨h.n, 0, none⟩) (len + n) (len + n), .kill b (.cells (old ++ new) e), b :: (rd ++ rd₂), [b]) else none
    | _ => none
   | none => none
  else none
 | _ => none
theorem growA_eq {P : Program} {h : AHeap} {e : TypeId} {inf : TypeInfo} {n : Nat} {new : List Value} {rd : List Nat} {s v : Value} {a : HA} {r w : List Nat} (he : growA P h e inf n new rd s = some (v, a, r, w)) : aGrow P h e inf n new rd s = some (v, a.on h, r, w) := by
 unfold growA at he
 unfold aGrow
 split at he
 ·
  split at he
  · cases he; rename_i h1; simp [h1, HA.on]
  ·
   split at he
   · cases he; rename_i h1 h2; simp [h1, h2, HA.on]
   · cases he
 ·
  split at he
  ·
   rename_i h1
   split at he
   · rename_i h2; cases he; simp [h1, h2, HA.on]
   ·
    rename_i h2
    split at he
    ·
     rename_i c t hg
     split at he
     · rename_i h3; cases he; simp only [h1, if_true, h2, if_false, hg, Bool.false_eq_true]; rw [if_pos h3]; rfl
     · cases he
    · cases he
  ·
   rename_i h1
   split at he
   ·
    rename_i h2
    split at he
    ·
     rename_i old rd₂ ho
     split at he
     · rename_i h3; cases he; simp only [h1, if_false, ho]; rw [if_pos h2, if_pos h3]; rfl
     ·
      rename_i h3
      split at he
      ·
       rename_i c t hg
       split at he
       · rename_i h4; cases he; simp only [h1, if_false, ho]; rw [if_pos h2, if_neg h3]; simp only [hg]; rw [if_pos h4]; rfl
       · cases he
      · cases he
    · cases he
   · cases he
 · cases he
def appendA (P : Program) (h : AHeap) (t₁ t₂ : TypeId) (s x : Value) : Option (Value × HA × List Nat × List Nat) :=
 match P.underlying t₁ with
 | some (.slice e) => match P.info? e with
  | some inf => match inf.zero with
   | some z => if 0 < inf.size ∧ zOk z = true ∧ z.cells.toList.length = inf.size then match aNew P h e inf t₂ x with
     | some (n, new, rd) => growA P h e inf n new rd s
     | none => none
    else none
   | none => none
  | none => none
 | _ => none
theorem appendA_eq {P : Program} {h : AHeap} {t₁ t₂ : TypeId} {s x v : Value} {a : HA} {r w : List Nat} (he : appendA P h t₁ t₂ s x = some (v, a, r, w)) : aAppend P h t₁ t₂ s x = some (v, a.on h, r, w) := by
 unfold appendA at he
 unfold aAppend
 split at he
 ·
  rename_i e hu
  split at he
  ·
   rename_i inf hi
   split at he
   ·
    rename_i z hz
    split at he
    ·
     rename_i hc
     split at he
     ·
      rename_i n new rd hn
      simp only [hu, hi, hz]
      rw [if_pos hc]
      simp only [hn]
      exact growA_eq he
     · cases he
    · cases he
   · cases he
  · cases he
 · cases he
section
variable {X : Type}
noncomputable def overK (l : List Value) : List Value → (List Value → Option X) → Option X := List.rec (fun c K => K c) (fun a _ ih c K => List.rec none (fun _ c _ => ih c fun r => K (a :: r)) c) l
noncomputable def spliceK (l : List Value) (c : List Value) : Nat → (List Value → Option X) → Option X := List.rec (fun o K => Nat.rec (overK l [] K) (fun _ _ => none) o) (fun a c ih o K => Nat.rec (overK l (a :: c) K) (fun k _ => ih k fun r => K (a :: r)) o) c
theorem overK_eq (l c : List Value) (K : List Value → Option X) : overK l c K = if l.length ≤ c.length then K (l ++ c.drop l.length) else none := by
 induction l generalizing c K with
 | nil => simp; rfl
 | cons a l ih =>
  cases c with
  | nil => simp; rfl
  | cons b c =>
   show overK l c (fun r => K (a :: r)) = _
   rw [ih]
   simp
theorem spliceK_eq (l c : List Value) (o : Nat) (K : List Value → Option X) : spliceK l c o K = if o + l.length ≤ c.length then K (setL c o l) else none := by
 induction c generalizing o K with
 | nil =>
  cases o with
  | zero =>
   show overK l [] K = _
   rw [overK_eq]
   simp [setL]
  | succ o =>
   show none = _
   rw [if_neg (by simp)]
 | cons a c ih =>
  cases o with
  | zero =>
   show overK l (a :: c) K = _
   rw [overK_eq]
   simp [setL]
  | succ o =>
   show spliceK l c o (fun r => K (a :: r)) = _
   rw [ih]
   by_cases h : o + l.length ≤ c.length
   ·
    rw [if_pos h, if_pos (by simp; omega)]
    simp [setL, Nat.add_right_comm]
   · rw [if_neg h, if_neg (by simp; omega)]
def lenIs : List Value → Nat → Bool
 | [], n => Nat.beq n 0
 | _ :: l, n => match n with
  | 0 => false
  | n + 1 => lenIs l n
theorem lenIs_eq : ∀ {l : List Value} {n : Nat}, lenIs l n = true → l.length = n
 | [], n, h => (Nat.eq_of_beq_eq_true h).symm
 | _ :: l, 0, h => by cases h
 | _ :: l, n + 1, h => by simp [lenIs_eq (l := l) (n := n) h]
def fieldOff (P : Program) (s : TypeId) (f : Nat) : Option Nat := match P.underlying s with
 | some (.struct fs) => match fs[f]? with
  | some fd => match sizeT P fd.type with
   | some (_ + 1) => some fd.offset
   | _ => none
  | none => none
 | _ => none
def elemT (P : Program) (t : TypeId) : Option (Option Nat × Nat) := match P.underlying t with
 | some (.slice e) => (sizeT P e).map fun n => (none, n)
 | some (.array len e) => (sizeT P e).map fun n => (some len, n)
 | _ => none
def kIdx : IntKind → Nat
 | .i8 => 0 | .i16 => 1 | .i32 => 2 | .i64 => 3 | .u8 => 4 | .u16 => 5 | .u32 => 6 | .u64 => 7
theorem kIdx_inj {k k' : IntKind} (h : Nat.beq (kIdx k) (kIdx k') = true) : k' = k := by
 cases k <;> cases k' <;> first | rfl | cases h
def fBinV (op : BinOp) (x y : Value) : Option Value := match x, y with
 | .int k a, .int k' b => match op with
  | .shl => fShift .shl k a b
  | .shr => fShift .shr k a b
  | op => match Nat.beq (kIdx k) (kIdx k') with
   | true => fBin op k a b
   | false => none
 | _, _ => none
def dstInt (P : Program) (src dst : TypeId) : Option IntKind := match P.underlying src, P.underlying dst with
 | some _, some (.int k) => some k
 | _, _ => none
def isSliceT (P : Program) (t : TypeId) : Bool := match P.underlying t with
 | some (.slice _) => true
 | _ => false
end
section
variable {A : Type}
abbrev KO (A : Type) := Value → AHeap → List Nat → List Nat → Bool → Bool → Option A
abbrev KC (A : Type) := Exit → BT → List Nat → AHeap → List Nat → Option A
abbrev CallK (A : Type) := FuncId → List Value → AHeap → (Value → AHeap → List Nat → Option A) → Option A
abbrev CodeK (A : Type) := Bool → Nat → Code → BT → List Nat → AHeap → KC A → Option A
abbrev OpF (A : Type) := Program → CallK A → CodeK A → Oper → BT → AHeap → KO A → Option A
noncomputable def ptrK {B : Type} (v : Value) : (Nat → Nat → Option B) → Option B := match v with
 | .pointer (some ⟨b, o, none⟩) => fun K => K b o
 | _ => fun _ => none
noncomputable def cellsK {B : Type} (o : Option AObj) : (List Value → TypeId → Option B) → Option B := match o with
 | some (.cells c t) => fun K => K c t
 | _ => fun _ => none
noncomputable def rowK {B : Type} (o : Option AObj) : (List Value → Option B) → Option B := match o with
 | some (.cells c _) => fun K => K c
 | some (.ro c) => fun K => K c
 | _ => fun _ => none
noncomputable def optK {B C : Type} (o : Option C) : (C → Option B) → Option B := Option.rec (fun _ => none) (fun a K => K a) o
noncomputable def ifK {B : Type} (b : Bool) (x y : Option B) : Option B := Bool.rec y x b
noncomputable def oMove (x : Operand) : OpF A := fun P CF E o ft h K => headV (evalF ft x) fun v => K v h [] [] false true
noncomputable def load1 (h : AHeap) (b : Nat) (K : KO A) (c : List Value) (o : Nat) : Option A := optK (nth c o) fun v => K v h [b] [] false true
noncomputable def loadN (h : AHeap) (b n : Nat) (K : KO A) (c : List Value) (o : Nat) : Option A := takeK (Nat.succ n) (dropR c o) fun l => K (.agg ⟨l⟩) h [b] [] false true
noncomputable def loadC (r : Option (Option Nat)) : AHeap → Nat → KO A → List Value → Nat → Option A := match r with
 | some none => load1
 | some (some (n + 1)) => fun h b => loadN h b n
 | _ => fun _ _ _ _ _ => none
noncomputable def oLoad (t : TypeId) (x : Operand) : OpF A := fun P CF E o ft h K => ptrK (evalF ft x) fun b off => rowK (hget h b) fun c => loadC (cellsT P t) h b K c off
noncomputable def storeV (v : Value) : Nat → List Value → Nat → (List Value → Option A) → Option A := match v with
 | .agg a => fun n c o K => ifK (lenIs a.toList n) (ifK (a.toList.all Value.oneCell') (spliceK a.toList c o K) none) none
 | v => fun n c o K => ifK (Nat.beq n 1) (ifK v.oneCell' (set1K c v o K) none) none
noncomputable def oStore (t : TypeId) (x y : Operand) : OpF A := fun P CF E o ft h K => ptrK (evalF ft x) fun b off => cellsK (hget h b) fun c ct => optK (sizeT P t) fun n =>
 headV (evalF ft y) fun v => storeV v n c off fun c => hputN h b (some (.cells c ct)) fun h' => K undef h' [b] [b] false false
noncomputable def oField (s : TypeId) (x : Operand) (f : Nat) : OpF A := fun P CF E o ft h K => ptrK (evalF ft x) fun b off => optK (fieldOff P s f) fun k => forceNat (Nat.add off k) fun off => K (.pointer (some ⟨b, off, none⟩)) h [] [] false true
noncomputable def idxK (i : Value) : (Nat → Option A) → Option A := match i with
 | .int _ (.ofNat i) => fun K => K i
 | _ => fun _ => none
noncomputable def idxAt (x : Value) : Option (Option Nat × Nat) → Nat → (Nat → Nat → Option A) → Option A := match x with
 | .slice (some ⟨b, o, none⟩) len _ => fun e i K => match e with
  | some (none, n) => ifK (Nat.ble (Nat.succ i) len) (K b (Nat.add o (Nat.mul i n))) none
  | _ => none
 | .pointer (some ⟨b, o, none⟩) => fun e i K => match e with
  | some (some len, n) => ifK (Nat.ble (Nat.succ i) len) (K b (Nat.add o (Nat.mul i n))) none
  | _ => none
 | _ => fun _ _ _ => none
noncomputable def oIndex (t : TypeId) (x i : Operand) : OpF A := fun P CF E o ft h K => idxK (evalF ft i) fun i => idxAt (evalF ft x) (elemT P t) i fun b off => forceNat off fun off => K (.pointer (some ⟨b, off, none⟩)) h [] [] false true
def noCF : CallF := fun _ _ _ => none
def noRF : CodeF := fun _ _ _ _ => none
noncomputable def slow : OpF A := fun P CF E o ft h K => optK (aOp P noCF noRF o (evalF ft) h) fun r => forceV r.v fun v => K v r.h r.rd r.wr r.all r.same
noncomputable def binK (r : Option Value) (h : AHeap) (K : KO A) (s : Option A) : Option A := Option.rec s (fun v => forceC v fun v => K v h [] [] false true) r
noncomputable def oBin (op : BinOp) (t : TypeId) (x y : Operand) (t₂ : TypeId) : OpF A := fun P CF E o ft h K => binK (fBinV op (evalF ft x) (evalF ft y)) h K (slow P CF E o ft h K)
noncomputable def notV (v : Value) : Option Value := match v with
 | .bool b => some (.bool (!b))
 | _ => none
noncomputable def oUn (op : UnOp) (t : TypeId) (x : Operand) : OpF A := match op with
 | .not => fun P CF E o ft h K => binK (notV (evalF ft x)) h K none
 | _ => slow
noncomputable def convV (v : Value) (k : Option IntKind) : Option Value := match v, k with
 | .int _ n, some k => some (.int k (wrapF k n))
 | _, _ => none
noncomputable def oConv (src dst : TypeId) (x : Operand) : OpF A := fun P CF E o ft h K => binK (convV (evalF ft x) (dstInt P src dst)) h K (slow P CF E o ft h K)
noncomputable def nilV (v : Value) : Option Value := match v with
 | .pointer (some ⟨b, c, none⟩) => some (.pointer (some ⟨b, c, none⟩))
 | .func (.func f) a b => some (.func (.func f) a b)
 | _ => none
noncomputable def oNil (x : Operand) : OpF A := fun P CF E o ft h K => binK (nilV (evalF ft x)) h K (slow P CF E o ft h K)
noncomputable def tupV (v : Value) (i : Nat) : Option Value := match v with
 | .tuple vs => nth vs.toList i
 | _ => none
noncomputable def oExtract (x : Operand) (i : Nat) : OpF A := fun P CF E o ft h K => binK (tupV (evalF ft x) i) h K none
noncomputable def boolK (v : Value) : (Bool → Option A) → Option A := match v with
 | .bool b => fun K => K b
 | _ => fun _ => none
noncomputable def oPick (c a b : Operand) : OpF A := fun P CF E o ft h K => boolK (evalF ft c) fun t => headV (evalF ft (Bool.rec b a t)) fun v => K v h [] [] false true
noncomputable def newK (h : AHeap) (K : KO A) (v : Value) (a : AObj) : Option A := forceC v fun v => hpushK h a fun h' => K v h' [] [] false false
noncomputable def oAlloc (t : TypeId) : OpF A := fun P CF E o ft h K => optK (aAlloc P t) fun a => newK h K (.pointer (some ⟨h.n, 0, none⟩)) a
noncomputable def oBox (t : TypeId) (x : Operand) : OpF A := fun P CF E o ft h K => optK (sizeT P t) fun _ => newK h K (.pointer (some ⟨h.n, 0, none⟩)) (.cells (evalF ft x).cells.toList t)
noncomputable def oBuildSlice (t : TypeId) (len : Nat) (ps : Array (Nat × Operand)) : OpF A := fun P CF E o ft h K => optK (aBuildSlice P t len (ps.toList.map fun p => (p.1, evalF ft p.2))) fun a => newK h K (.slice (some ⟨h.n, 0, none⟩) len len) a
noncomputable def oMakeSlice (t : TypeId) (x y : Operand) : OpF A := fun P CF E o ft h K => optK (aMake P t (evalF ft x) (evalF ft y)) fun r => newK h K (.slice (some ⟨h.n, 0, none⟩) r.1 r.2.1) r.2.2
noncomputable def lenF (v : Value) (s : Bool) : Option Value := match v, s with
 | .slice _ n _, true => some (.int .i64 (.ofNat n))
 | _, _ => none
noncomputable def oBuiltin (b : Builtin) (xs : Array Operand) (ts : Array TypeId) : OpF A := match b, xs.toList, ts.toList with
 | .len, [x], [t] => fun P CF E o ft h K => binK (lenF (evalF ft x) (isSliceT P t)) h K (slow P CF E o ft h K)
 | .append, [x, y], [t, u] => fun P CF E o ft h K => optK (appendA P h t u (evalF ft x) (evalF ft y)) fun r => HA.onK h r.2.1 fun h' => forceV r.1 fun v => K v h' r.2.2.1 r.2.2.2 false false
 | _, _, _ => slow
noncomputable def toL (ft : BT) (N : Nat) : Nat → List Value := Nat.rec (fun _ => []) (fun _ ih i => ft.get i :: ih (Nat.succ i)) N
noncomputable def ofLK {X : Type} (l : List Value) : Nat → BT → (BT → Option X) → Option X := List.rec (fun _ t K => K t) (fun a _ ih i t K => BT.setK (Nat.succ i) t i a fun t => ih (Nat.succ i) t K) l
noncomputable def codeL (E : CodeK A) (c : Code) (tm : List Value) (df : List Nat) (h : AHeap) (K : CR → Option A) : Option A := ofLK tm 0 .nil fun ft => E true tm.length c ft df h fun x ft df h wr => K ⟨x, toL ft tm.length 0, df, h, wr⟩
noncomputable def yieldK (E : CodeK A) (h : AHeap) (l : Nat) (args : List Value) (K : KO A) : Option A :=
 match hget h l with
 | some (.loop .ready _ tmL ps asg bo _) => ifK (Nat.beq args.length ps.size) (codeL E asg (setPs tmL ps.toList args) [] h fun r => match r with
   | ⟨.normal, tm₁, df₁, h₁, wr₁⟩ => match hget h₁ l with
    | some (.loop .ready pe' tmL' ps' as' bo' df') => hputK h₁ l (some (.loop .busy pe' tmL' ps' as' bo' df')) fun hb => codeL E bo tm₁ df₁ hb fun r₂ => match hget r₂.h l, jumpOf r₂.x with
     | some (.loop _ _ tm₂ ps₂ as₂ bo₂ df₂), some jump => hputK r₂.h l (some (.loop (if jump.isNone then .ready else .done) jump tm₂ ps₂ as₂ bo₂ df₂)) fun h' => forceC (.bool jump.isNone) fun v => K v h' [] (l :: (wr₁ ++ r₂.wr)) true false
     | _, _ => none
    | _ => none
   | _ => none) none
 | _ => none
noncomputable def callV (f : Value) : Program → CallK A → CodeK A → AHeap → List Value → KO A → Option A := match f with
 | .func (.func g) first cap => fun P CF E h args K => ifK (calls P g) (forceL (first.toList ++ args ++ cap.toList) fun l => CF g l h fun v h' wr => K v h' [] wr true false) none
 | .func (.yield l) first cap => fun P CF E h args K => ifK (Nat.beq first.size 0) (ifK (Nat.beq cap.size 0) (forceL args fun args => yieldK E h l args K) none) none
 | _ => fun _ _ _ _ _ _ => none
noncomputable def oCall (f : Operand) (xs : Array Operand) : OpF A := fun P CF E o ft h K => callV (evalF ft f) P CF E h (xs.toList.map (evalF ft)) K
noncomputable def oCallC (c : Call) : OpF A := Call.rec (fun callee xs ts => Callee.rec (fun f => oCall f xs) (fun _ _ => slow) (fun b => oBuiltin b xs ts) callee) c
noncomputable def fOpF (op : Op) : OpF A := @Op.rec (fun _ => OpF A) oMove oMove oPick oAlloc oBox (fun _ _ => slow) oBuildSlice (fun _ _ _ _ => slow) oLoad oStore (fun _ => slow) (fun _ => slow) oNil oBin oUn oConv (fun _ _ => slow) (fun _ _ => slow) (fun _ _ _ => slow) (fun _ _ => slow) (fun _ _ => slow) oMakeSlice (fun _ _ _ _ _ => slow) oField (fun _ _ _ => slow) oIndex (fun _ _ _ => slow) (fun _ _ _ _ => slow) (fun _ _ _ _ => slow) (fun _ _ _ => slow) (fun _ _ _ _ => slow) (fun _ _ => slow) (fun _ _ => slow) (fun _ => slow) (fun _ _ _ _ => slow) oExtract oCallC (fun _ => slow) (fun _ => slow) (fun _ => slow) (fun _ _ => slow) (fun _ _ _ => slow) (fun _ _ => slow) op
noncomputable def putK (N : Nat) (ft : BT) (v : Value) (K : BT → Option A) (d : Option Tmp) : Option A := Option.rec (K ft) (fun t => ifK (Nat.ble (Nat.succ t) N) (BT.setK (Nat.succ t) ft t v K) none) d
noncomputable def yieldedV (v : Value) (w : Bool) : Bool := match v with
 | .bool b => Bool.rec (Bool.rec true false w) (Bool.rec false true w) b
 | _ => false
noncomputable def wantedD (N : Nat) (ft : BT) (w : Bool) (d : Option Tmp) : Bool := Option.rec false (fun d => Bool.rec false (yieldedV (ft.get d) w) (Nat.ble (Nat.succ d) N)) d
noncomputable def wantedG (ops : Array Oper) (N : Nat) (ft : BT) (g : Nat × Bool) : Bool := Option.rec false (fun o => wantedD N ft g.2 (Oper.dst o)) (ops[g.1]?)
noncomputable def wantedK (ops : Array Oper) (N : Nat) (ft : BT) (x y : Option A) (g : Option (Nat × Bool)) : Option A := Option.rec x (fun g => ifK (wantedG ops N ft g) x y) g
noncomputable def stepK (P : Program) (CF : CallK A) (E : CodeK A) (ops : Array Oper) (N : Nat) (o : Oper) (ft : BT) (h : AHeap) (K : BT → AHeap → Nat → OR → Option A) : Option A :=
 wantedK ops N ft (fOpF o.op P CF E o ft h fun v h' rd wr all same => putK N ft v (fun ft => K ft h' h.n ⟨v, h', rd, wr, all, same⟩) o.dst)
  (putK N ft undef (fun ft => K ft h h.n ⟨undef, h, [], [], false, true⟩) o.dst) o.guard
noncomputable def traceK (P : Program) (CF : CallK A) (E : CodeK A) (ops : Array Oper) (N : Nat) (os : List Oper) : BT → AHeap → (BT → AHeap → List (Nat × OR) → Option A) → Option A :=
 List.rec (fun ft h K => K ft h []) (fun o _ ih ft h K => stepK P CF E ops N o ft h fun ft h n r => ih ft h fun ft' h' rs => K ft' h' ((n, r) :: rs)) os
noncomputable def opsK (P : Program) (CF : CallK A) (E : CodeK A) (ops : Array Oper) (N : Nat) (os : List Oper) : BT → AHeap → List Nat → (BT → AHeap → List Nat → Option A) → Option A :=
 List.rec (fun ft h wr K => K ft h wr) (fun o _ ih ft h wr K => stepK P CF E ops N o ft h fun ft h _ r => ih ft h (r.wr ++ wr) K) os
def loudRowF (ops : Array Oper) (w : List Nat) (i : Nat) : List (Nat × OR) → Nat → Bool
 | [], _ => true
 | (n, r) :: rs, j => loudPair ops w i j n r && loudRowF ops w i rs (j + 1)
def loudOkF (ops : Array Oper) (all : List (Nat × OR)) : List (Nat × OR) → Nat → Bool
 | [], _ => true
 | (n, r) :: rs, i => ((oldOf n r.wr).isEmpty || loudRowF ops (oldOf n r.wr) i all 0) && loudOkF ops all rs (i + 1)
def eqV : Value → Value → Bool
 | .bool a, .bool b => a == b
 | .int k n, .int k' n' => decide (k = k') && decide (n = n')
 | .slice none l c, .slice none l' c' => Nat.beq l l' && Nat.beq c c'
 | .slice (some ⟨b, o, none⟩) l c, .slice (some ⟨b', o', none⟩) l' c' => Nat.beq b b' && Nat.beq o o' && Nat.beq l l' && Nat.beq c c'
 | .pointer none, .pointer none => true
 | .pointer (some ⟨b, o, none⟩), .pointer (some ⟨b', o', none⟩) => Nat.beq b b' && Nat.beq o o'
 | .map none, .map none => true
 | .map (some b), .map (some b') => Nat.beq b b'
 | _, _ => false
theorem eqV_eq {a b : Value} (h : eqV a b = true) : a = b := by
 unfold eqV at h
 have nb : ∀ {x y : Nat}, Nat.beq x y = true → x = y := fun e => Nat.eq_of_beq_eq_true e
 split at h
 · rw [eq_of_beq h]
 · rw [Bool.and_eq_true] at h; rw [of_decide_eq_true h.1, of_decide_eq_true h.2]
 · rw [Bool.and_eq_true] at h; rw [nb h.1, nb h.2]
 · rw [Bool.and_eq_true, Bool.and_eq_true, Bool.and_eq_true] at h; rw [nb h.1.1.1, nb h.1.1.2, nb h.1.2, nb h.2]
 · rfl
 · rw [Bool.and_eq_true] at h; rw [nb h.1, nb h.2]
 · rfl
 · rw [nb h]
 · cases h
def softAll (chk : AHeap → Bool) (ops : Array Oper) (j b : Nat) : AHeap → List (Nat × OR) → Nat → Bool
 | H, [], _ => chk H
 | H, (n, r) :: rs, i => chk H && ((bef ops j i && (oldOf n r.wr).contains b) || softAll chk ops j b r.h rs (i + 1))
noncomputable def softB (P : Program) (ops : Array Oper) (ft : BT) (h₀ : AHeap) (rs : List (Nat × OR)) (j : Nat) (r : OR) : Bool := match ops[j]? with
 | some o => match o.op with
  | .load t (.tmp q) => r.same && r.wr.isEmpty && match r.rd with
   | [b] => (ops.toList.drop j).all (fun o => match o.dst with | some d => !(Nat.beq d q) | none => true) && softAll (fun H => match aLoad P H t (ft.get q) with
    | some (v, b') => eqV v r.v && Nat.beq b' b
    | none => false) ops j b h₀ rs 0
   | _ => false
  | _ => false
 | none => false
noncomputable def loudRowS (S : Nat → OR → Bool) (ops : Array Oper) (w : List Nat) (i : Nat) : List (Nat × OR) → Nat → Bool
 | [], _ => true
 | (n, r) :: rs, j => (loudPair ops w i j n r || S j r) && loudRowS S ops w i rs (j + 1)
noncomputable def loudOkS (S : Nat → OR → Bool) (ops : Array Oper) (all : List (Nat × OR)) : List (Nat × OR) → Nat → Bool
 | [], _ => true
 | (n, r) :: rs, i => ((oldOf n r.wr).isEmpty || loudRowS S ops (oldOf n r.wr) i all 0) && loudOkS S ops all rs (i + 1)
def wrOfF (n : Nat) : List (Nat × OR) → List Nat
 | [] => []
 | (_, r) :: rs => oldOf n r.wr ++ wrOfF n rs
noncomputable def regionK (P : Program) (CF : CallK A) (E : CodeK A) (ops : Array Oper) (draw : Bool) (N : Nat) (ft : BT) (df : List Nat) (h : AHeap) (K : KC A) : Option A :=
 ifK draw (ifK (drawOk P ops) (traceK P CF E ops N ops.toList ft h fun ft' h' rs => ifK (loudOkS (softB P ops ft' h rs) ops rs rs 0) (K .normal ft' df h' (wrOfF h.n rs)) none) none)
  (ifK (opsOk P ops) (opsK P CF E ops N ops.toList ft h [] fun ft' h' wr => K .normal ft' df h' wr) none)
noncomputable def fResults (P : Program) (h : AHeap) (ft : BT) : List ResultVar → Option (List Value)
 | [] => some []
 | .tmp t :: rs => (fResults P h ft rs).map (ft.get t :: ·)
 | .cell a t :: rs => match aLoad P h t (ft.get a), fResults P h ft rs with
  | some (v, _), some vs => some (v :: vs)
  | _, _ => none
noncomputable def fResult (P : Program) (h : AHeap) (ft : BT) (rs : List ResultVar) : Option Value := match fResults P h ft rs with
 | some [v] => some v
 | some vs => some (.tuple vs.toArray)
 | none => none
def leftB : Exit → Bool
 | .normal | .ret => true
 | _ => false
noncomputable def callBody (P : Program) (E : CodeK A) (fn : Func) (c : Code) (args : List Value) (h : AHeap) (K : Value → AHeap → List Nat → Option A) : Option A :=
 ofLK args 0 .nil fun ft => forceNat (args.length + (fn.ntmps - args.length)) fun N => E false N c ft [] h fun x ft df h₁ wr => ifK (leftB x && df.all fun d => Nat.ble h.n d) (optK (takeAll h₁ df) fun h₂ => optK (fResult P h₂ ft fn.results.toList) fun v => forceV v fun v => K v h₂ (oldOf h.n wr)) none
noncomputable def callK (P : Program) (S : Summ) (E : CodeK A) : CallK A := fun f args h K =>
 Option.rec (optK (P.funcs[f]?) fun fn => optK fn.body fun c => callBody P E fn c args h K) (fun r => forceV r.1 fun v => K v r.2.1 r.2.2) (S f args h)
abbrev CoF (A : Type) := Program → Summ → CodeK A → Bool → Nat → BT → List Nat → AHeap → KC A → Option A
def isNormal : Exit → Bool
 | .normal => true
 | _ => false
noncomputable def cSeq (a b : Code) : CoF A := fun P S E q N ft df h K => E q N a ft df h fun x ft df h wr => ifK (isNormal x) (E q N b ft df h fun x ft df h wr₂ => K x ft df h (wr ++ wr₂)) (K x ft df h wr)
noncomputable def cCond (o : Operand) (a b : Code) : CoF A := fun P S E q N ft df h K => boolK (evalF ft o) fun t => ifK t (E q N a ft df h K) (E q N b ft df h K)
noncomputable def cBlock (id : Nat) (c : Code) : CoF A := fun P S E q N ft df h K => E q N c ft df h fun x ft df h wr => K (Exit.leave id x) ft df h wr
noncomputable def cLoop (c : Code) : CoF A := fun P S E q N ft df h K => E q N c ft df h fun x ft df h wr => ifK (isNormal x) (E q N (.loop c) ft df h fun x ft df h wr₂ => K x ft df h (wr ++ wr₂)) (K x ft df h wr)
def isGoto : Exit → Bool
 | .goto _ => true
 | _ => false
noncomputable def cScope (c : Code) : CoF A := fun P S E q N ft df h K => E q N c ft df h fun x ft df h wr => ifK (isGoto x) none (K x ft df h wr)
noncomputable def rangeV (f : Value) : Code → Operand → Array Tmp → Code → CoF A := match f with
 | .func (.func f) first cap => fun bo g ps asg P S E q N ft df h K => ifK q none (ifK (calls P f) (ifK (okOpd P g) (forceL (toL ft N 0) fun tm => hpushK h (.deferred true) fun h₁ => hpushK h₁ (.loop .ready none tm ps asg bo h.n) fun h₂ => callK P S E f (first.toList ++ [.func (.yield (h.n + 1)) #[] #[]] ++ cap.toList) h₂ fun _ h₃ wr =>
   match hget h₃ (h.n + 1) with
   | some (.loop st pe tm' ps' as' bo' df') => match st == .busy, exitOf pe with
    | false, some x => hputK h₃ (h.n + 1) (some (.loop .exhausted pe tm' ps' as' bo' df')) fun h₄ => K x ft (h.n :: df) h₄ ((h.n + 1) :: wr)
    | _, _ => none
   | _ => none) none) none)
 | _ => fun _ _ _ _ _ _ _ _ _ _ _ _ _ => none
noncomputable def cRange (g : Operand) (ps : Array Tmp) (asg bo : Code) : CoF A := fun P S E q N ft df h K => rangeV (evalF ft g) bo g ps asg P S E q N ft df h K
noncomputable def cRegion (ops : Array Oper) (draw : Bool) : CoF A := fun P S E q N ft df h K => regionK P (callK P S E) E ops draw N ft df h K
noncomputable def cAt (x : Exit) : CoF A := fun P S E q N ft df h K => K x ft df h []
noncomputable def cNo : CoF A := fun _ _ _ _ _ _ _ _ _ => none
noncomputable def codeF (c : Code) : CoF A := @Code.rec (fun _ => CoF A) (cAt .normal) (fun _ ops d => cRegion ops d) (fun a b _ _ => cSeq a b) (fun o a b _ _ => cCond o a b) (fun id c _ => cBlock id c) (fun c _ => cLoop c) (fun g ps a b _ _ => cRange g ps a b) (fun id => cAt (.exit id)) (fun c _ => cScope c) (fun _ => cAt .normal) (fun _ => cNo) (cAt .ret) (fun _ => cNo) c
noncomputable def fev (P : Program) (S : Summ) (n : Nat) : CodeK A := Nat.rec (fun _ _ _ _ _ _ _ => none) (fun _ E q N c ft df h K => codeF c P S E q N ft df h K) n
end
end Go.Proofs.YtncbbeghkpjpbaaDoor
namespace Go.Proofs.YtncbbeghkpjpbaaDoor
section
variable {A B C : Type} {a : A}
theorem optK_inv {o : Option C} {K : C → Option B} {b : B} (h : optK o K = some b) : ∃ c, o = some c ∧ K c = some b := by
 cases o with
 | none => cases h
 | some c => exact ⟨c, rfl, h⟩
theorem ifK_inv {t : Bool} {x y : Option B} {b : B} (h : ifK t x y = some b) : (t = true ∧ x = some b) ∨ (t = false ∧ y = some b) := by
 cases t with
 | true => exact .inl ⟨rfl, h⟩
 | false => exact .inr ⟨rfl, h⟩
theorem ifK_yes {t : Bool} {x : Option B} {b : B} (h : ifK t x none = some b) : t = true ∧ x = some b := by
 rcases ifK_inv h with h | ⟨_, h⟩
 · exact h
 · cases h
theorem ptrK_inv {v : Value} {K : Nat → Nat → Option B} {b : B} (h : ptrK v K = some b) : ∃ i o, v = .pointer (some ⟨i, o, none⟩) ∧ K i o = some b := by
 unfold ptrK at h
 split at h
 · exact ⟨_, _, rfl, h⟩
 · cases h
theorem rowK_inv {x : Option AObj} {K : List Value → Option B} {b : B} (h : rowK x K = some b) : ∃ c, rowOf x = some c ∧ K c = some b := by
 unfold rowK at h
 split at h
 · exact ⟨_, rfl, h⟩
 · exact ⟨_, rfl, h⟩
 · cases h
theorem cellsK_inv {x : Option AObj} {K : List Value → TypeId → Option B} {b : B} (h : cellsK x K = some b) : ∃ c t, x = some (.cells c t) ∧ K c t = some b := by
 unfold cellsK at h
 split at h
 · exact ⟨_, _, rfl, h⟩
 · cases h
theorem boolK_inv {v : Value} {K : Bool → Option A} {b : A} (h : boolK v K = some b) : ∃ t, v = .bool t ∧ K t = some b := by
 unfold boolK at h
 split at h
 · exact ⟨_, rfl, h⟩
 · cases h
theorem binK_inv {r : Option Value} {h : AHeap} {K : KO A} {s : Option A} (he : binK r h K s = some a) : (∃ v, r = some v ∧ K v h [] [] false true = some a) ∨ (r = none ∧ s = some a) := by
 cases r with
 | none => exact .inr ⟨rfl, he⟩
 | some v =>
  have he : forceC v (fun v => K v h [] [] false true) = some a := he
  rw [forceC_eq] at he
  exact .inl ⟨v, rfl, he⟩
theorem idxK_inv {v : Value} {K : Nat → Option A} (h : idxK v K = some a) : ∃ k i, v = .int k (.ofNat i) ∧ K i = some a := by
 unfold idxK at h
 split at h
 · exact ⟨_, _, rfl, h⟩
 · cases h
variable {P : Program} {CF : CallK A} {E : CodeK A} {o : Oper} {ft : BT} {tm : List Value} {h : AHeap} {K : KO A}
def CKOk (P : Program) (CF : CallK A) : Prop := ∀ f args h K a, CF f args h K = some a → ∃ v h' wr, CallRun P (· ∈ wr) f args.toArray h v h' ∧ K v h' wr = some a
def EKOk (P : Program) (E : CodeK A) : Prop := ∀ q N c ft df h K a, E q N c ft df h K = some a → ∀ tm : List Value, tm.length = N → Rep ft tm → ∃ x tm' ft' df' h' wr, tm'.length = N ∧ Rep ft' tm' ∧ Run P (· ∈ wr) q c ⟨tm, df, h⟩ x ⟨tm', df', h'⟩ ∧ K x ft' df' h' wr = some a
def Goes (P : Program) (o : Oper) (tm : List Value) (h : AHeap) (K : KO A) (a : A) : Prop := ∃ r : OR, OpOk P o tm h r ∧ K r.v r.h r.rd r.wr r.all r.same = some a
theorem Goes.of {v : Value} (k : ∀ D W, OpRun P D W o tm h v h) (hk : K v h [] [] false true = some a) : Goes P o tm h K a := ⟨pureO h v, .pure k, hk⟩
theorem slow_sound (hr : Rep ft tm) (he : slow P CF E o ft h K = some a) : Goes P o tm h K a := by
 unfold slow at he
 rw [evalF_eq hr] at he
 obtain ⟨r, h1, h2⟩ := optK_inv he
 rw [forceV_eq] at h2
 exact ⟨r, aOp_sound (fun _ _ _ _ _ _ e => by cases e) (fun _ _ _ _ _ e => by cases e) h1, h2⟩
theorem loadC_inv {r : Option (Option Nat)} {b : Nat} {c : List Value} {off : Nat} (he : loadC r h b K c off = some a) : (r = some none ∧ load1 h b K c off = some a) ∨ ∃ n, r = some (some (n + 1)) ∧ loadN h b n K c off = some a := by
 cases r with
 | none => cases he
 | some r => cases r with
  | none => exact .inl ⟨rfl, he⟩
  | some n => cases n with
   | zero => cases he
   | succ n => exact .inr ⟨n, rfl, he⟩
theorem storeV_inv {v : Value} {n off : Nat} {c : List Value} {K' : List Value → Option A} (he : storeV v n c off K' = some a) : (∃ ar, v = .agg ar ∧ ifK (lenIs ar.toList n) (ifK (ar.toList.all Value.oneCell') (spliceK ar.toList c off K') none) none = some a) ∨ ((∀ ar, v ≠ .agg ar) ∧ ifK (Nat.beq n 1) (ifK v.oneCell' (set1K c v off K') none) none = some a) := by
 cases v with
 | agg ar => exact .inl ⟨ar, rfl, he⟩
 | _ => exact .inr ⟨by simp, he⟩
theorem idxAt_inv {x : Value} {e : Option (Option Nat × Nat)} {i : Nat} {K' : Nat → Nat → Option A} (he : idxAt x e i K' = some a) : (∃ b o len cap n, x = .slice (some ⟨b, o, none⟩) len cap ∧ e = some (none, n) ∧ ifK (Nat.ble (Nat.succ i) len) (K' b (Nat.add o (Nat.mul i n))) none = some a) ∨ (∃ b o len n, x = .pointer (some ⟨b, o, none⟩) ∧ e = some (some len, n) ∧ ifK (Nat.ble (Nat.succ i) len) (K' b (Nat.add o (Nat.mul i n))) none = some a) := by
 cases x with
 | slice ad len cap =>
  cases ad with
  | none => cases he
  | some ad => cases ad with
   | mk b o sp => cases sp with
    | some sp => cases he
    | none => cases e with
     | none => cases he
     | some e => obtain ⟨l, n⟩ := e; cases l with
      | none => exact .inl ⟨b, o, len, cap, n, rfl, rfl, he⟩
      | some l => cases he
 | pointer ad =>
  cases ad with
  | none => cases he
  | some ad => cases ad with
   | mk b o sp => cases sp with
    | some sp => cases he
    | none => cases e with
     | none => cases he
     | some e => obtain ⟨l, n⟩ := e; cases l with
      | none => cases he
      | some l => exact .inr ⟨b, o, l, n, rfl, rfl, he⟩
 | _ => cases he
theorem oLoad_sound {t : TypeId} {x : Operand} (ho : o.op = .load t x) (hr : Rep ft tm) (he : oLoad t x P CF E o ft h K = some a) : Goes P o tm h K a := by
 unfold oLoad at he
 rw [evalF_eq hr] at he
 obtain ⟨b, off, h1, he⟩ := ptrK_inv he
 obtain ⟨c, h2, he⟩ := rowK_inv he
 rw [hget_eq] at h2
 rcases loadC_inv he with ⟨hc, he⟩ | ⟨n, hc, he⟩
 ·
  obtain ⟨v, h3, he⟩ := optK_inv he
  rw [nth_eq] at h3
  have hl : aLoad P h t (evalT tm x) = some (v, b) := by rw [h1]; simp [aLoad, h2, hc, h3]
  exact ⟨readO h v [b], .read fun D W hr => .load ho hl (hr b (by simp)), he⟩
 ·
  unfold loadN at he
  rw [takeK_eq, dropR_eq] at he
  split at he
  ·
   rename_i hle
   have hle' : off + (n + 1) ≤ c.length := by simp at hle; omega
   have hl : aLoad P h t (evalT tm x) = some (.agg ⟨(c.drop off).take (n + 1)⟩, b) := by rw [h1]; simp [aLoad, h2, hc, hle']
   exact ⟨readO h _ [b], .read fun D W hr => .load ho hl (hr b (by simp)), he⟩
  · cases he
theorem oStore_sound {t : TypeId} {x y : Operand} (ho : o.op = .store t x y) (hr : Rep ft tm) (he : oStore t x y P CF E o ft h K = some a) : Goes P o tm h K a := by
 unfold oStore at he
 rw [evalF_eq hr] at he
 obtain ⟨b, off, h1, he⟩ := ptrK_inv he
 obtain ⟨c, ct, h2, he⟩ := cellsK_inv he
 rw [hget_eq] at h2
 obtain ⟨n, h3, he⟩ := optK_inv he
 rw [headV_eq] at he
 have fin : ∀ l : List Value, (evalT tm y).cells.toList = l → l.length = n → off + l.length ≤ c.length → l.all Value.oneCell' = true → K undef (h.put b (some (.cells (setL c off l) ct))) [b] [b] false false = some a → Goes P o tm h K a := fun l e1 e2 e3 e4 e5 => by
  have hl : aStore P h t (evalT tm y) (evalT tm x) = some (h.put b (some (.cells (setL c off l) ct)), b) := by
   rw [h1]
   simp only [aStore, h2, h3, e1]
   rw [if_pos ⟨e2, by omega, e4⟩]
  exact ⟨⟨undef, _, [b], [b], false, false⟩, .write fun D W hr hw => .store ho hl (hr b (by simp)) (hw b (by simp)).2, e5⟩
 rcases storeV_inv he with ⟨ar, hy, he⟩ | ⟨hna, he⟩
 ·
  obtain ⟨g1, he⟩ := ifK_yes he
  obtain ⟨g2, he⟩ := ifK_yes he
  rw [spliceK_eq] at he
  split at he
  ·
   rename_i hle
   rw [hputN_eq] at he
   exact fin ar.toList (by rw [hy]; rfl) (lenIs_eq g1) hle g2 he
  · cases he
 ·
  obtain ⟨g1, he⟩ := ifK_yes he
  obtain ⟨g2, he⟩ := ifK_yes he
  rw [set1K_eq] at he
  split at he
  ·
   rename_i hlt
   rw [hputN_eq] at he
   have e1 : (evalT tm y).cells.toList = [evalT tm y] := by
    generalize evalT tm y = z at *
    cases z with
    | agg ar => exact absurd rfl (hna ar)
    | _ => rfl
   have e6 : c.set off (evalT tm y) = setL c off [evalT tm y] := by
    simp only [setL, List.length_singleton]
    rw [List.set_eq_take_append_cons_drop, if_pos hlt]
    simp
   rw [e6] at he
   exact fin [evalT tm y] e1 (by simpa using (Nat.eq_of_beq_eq_true g1).symm) (by simp; omega) (by simpa using g2) he
  · cases he
theorem oField_sound {s : TypeId} {x : Operand} {f : Nat} (ho : o.op = .fieldAddr s x f) (hr : Rep ft tm) (he : oField s x f P CF E o ft h K = some a) : Goes P o tm h K a := by
 unfold oField at he
 rw [evalF_eq hr] at he
 obtain ⟨b, off, h1, he⟩ := ptrK_inv he
 obtain ⟨k, h2, he⟩ := optK_inv he
 rw [forceNat_eq] at he
 have hl : aField P s f (evalT tm x) = some (.pointer (some ⟨b, off + k, none⟩)) := by
  rw [h1]
  unfold fieldOff at h2
  split at h2
  ·
   rename_i fs hu
   split at h2
   ·
    rename_i fd hfd
    split at h2
    · rename_i n hn; cases h2; simp [aField, hu, hfd, hn]
    · cases h2
   · cases h2
  · cases h2
 exact .of (fun D W => .fieldAddr ho hl) he
theorem oIndex_sound {t : TypeId} {x i : Operand} (ho : o.op = .indexAddr t x i) (hr : Rep ft tm) (he : oIndex t x i P CF E o ft h K = some a) : Goes P o tm h K a := by
 unfold oIndex at he
 rw [evalF_eq hr] at he
 obtain ⟨k, j, h1, he⟩ := idxK_inv he
 rcases idxAt_inv he with ⟨b, off, len, cap, n, hx, hn, he⟩ | ⟨b, off, len, n, hx, hn, he⟩
 ·
  obtain ⟨g1, he⟩ := ifK_yes he
  rw [forceNat_eq] at he
  have hlt : j < len := Nat.le_of_ble_eq_true g1
  have hl : aIndexAddr P t (evalT tm x) (evalT tm i) = some (.pointer (some ⟨b, off + j * n, none⟩)) := by
   rw [h1, hx]
   unfold elemT at hn
   split at hn
   ·
    rename_i e hu
    simp only [Option.map_eq_some_iff, Prod.mk.injEq] at hn
    obtain ⟨m, hm, _, rfl⟩ := hn
    have : (0 : Int) ≤ Int.ofNat j ∧ Int.ofNat j < (len : Int) := ⟨by simp, by simpa using hlt⟩
    simp only [aIndexAddr, hu, hm, if_pos this]
    rfl
   · simp at hn
   · cases hn
  exact .of (fun D W => .indexAddr ho hl) he
 ·
  obtain ⟨g1, he⟩ := ifK_yes he
  rw [forceNat_eq] at he
  have hlt : j < len := Nat.le_of_ble_eq_true g1
  have hl : aIndexAddr P t (evalT tm x) (evalT tm i) = some (.pointer (some ⟨b, off + j * n, none⟩)) := by
   rw [h1, hx]
   unfold elemT at hn
   split at hn
   · simp at hn
   ·
    rename_i len' e hu
    simp only [Option.map_eq_some_iff, Prod.mk.injEq, Option.some.injEq] at hn
    obtain ⟨m, hm, rfl, rfl⟩ := hn
    have : (0 : Int) ≤ Int.ofNat j ∧ Int.ofNat j < (len' : Int) := ⟨by simp, by simpa using hlt⟩
    simp only [aIndexAddr, hu, hm, if_pos this]
    rfl
   · cases hn
  exact .of (fun D W => .indexAddr ho hl) he
theorem eqGuard_int {op : BinOp} {t : TypeId} {x y : Operand} {k k' : IntKind} {a b : Int} : eqGuard op t x y (.int k a) (.int k' b) = pure () := by
 unfold eqGuard
 split <;> rfl
theorem oBin_sound {op : BinOp} {t t₂ : TypeId} {x y : Operand} (ho : o.op = .binOp op t x y t₂) (hr : Rep ft tm) (he : oBin op t x y t₂ P CF E o ft h K = some a) : Goes P o tm h K a := by
 unfold oBin at he
 rw [evalF_eq hr] at he
 rcases binK_inv he with ⟨v, h1, he⟩ | ⟨_, he⟩
 ·
  have main : ∀ k k' i j, evalT tm x = .int k i → evalT tm y = .int k' j → binOp op t (.int k i) (.int k' j) = pure v → flatB v = true → Goes P o tm h K a := fun k k' i j e1 e2 e3 e4 =>
   .of (fun D W => .ofPure (by simp [ho]) fun m w A hm hx H => by
    have a1 := hx x (by simp [ho, Op.operands])
    have a2 := hx y (by simp [ho, Op.operands])
    rw [e1] at a1
    rw [e2] at a2
    have a1 := VRel.eq_of_flat a1 rfl
    have a2 := VRel.eq_of_flat a2 rfl
    refine ⟨v, VRel.flat m e4, ?_⟩
    simp only [execOp, ho, a1, a2, eqGuard_int]
    have e5 : binOp op t (.int k i) (.int k' j) = Sem.pure v := e3
    simp only [e5]
    rfl) he
  unfold fBinV at h1
  split at h1
  ·
   rename_i k i k' j e1 e2
   split at h1
   ·
    refine main k k' i j e1 e2 (fShift_run h1 t) ?_
    unfold fShift at h1
    split at h1
    ·
     split at h1
     · cases h1; rfl
     · cases h1
    · cases h1
   ·
    refine main k k' i j e1 e2 (fShift_run h1 t) ?_
    unfold fShift at h1
    split at h1
    ·
     split at h1
     · cases h1; rfl
     · cases h1
    · cases h1
   ·
    rename_i h9 h10
    split at h1
    ·
     rename_i hk
     have := kIdx_inj hk
     subst this
     refine main _ _ i j e1 e2 (fBin_run h1 t ⟨fun e => h9 e, fun e => h10 e⟩) ?_
     unfold fBin at h1
     split at h1 <;> first | (cases h1; rfl) | (cases h1; done) | (split at h1 <;> first | (cases h1; rfl) | cases h1 | (split at h1 <;> first | (cases h1; rfl) | cases h1))
    · cases h1
  · cases h1
 · exact slow_sound hr he
end
end Go.Proofs.YtncbbeghkpjpbaaDoor
namespace Go.Proofs.YtncbbeghkpjpbaaDoor
section
variable {A B C : Type} {a : A} {P : Program} {CF : CallK A} {E : CodeK A} {o : Oper} {ft : BT} {tm : List Value} {h : AHeap} {K : KO A}
theorem oUn_sound {op : UnOp} {t : TypeId} {x : Operand} (ho : o.op = .unOp op t x) (hr : Rep ft tm) (he : oUn op t x P CF E o ft h K = some a) : Goes P o tm h K a := by
 cases op with
 | not =>
  have he : binK (notV (evalF ft x)) h K none = some a := he
  rw [evalF_eq hr] at he
  rcases binK_inv he with ⟨v, h1, he⟩ | ⟨_, he⟩
  ·
   unfold notV at h1
   split at h1
   ·
    rename_i b hb
    cases h1
    refine .of (fun D W => .ofPure (by simp [ho]) fun m w A hm hx H => ?_) he
    have a1 := hx x (by simp [ho, Op.operands])
    rw [hb] at a1
    have a1 := VRel.eq_of_flat a1 rfl
    exact ⟨_, .bool _, by simp [execOp, ho, a1, Op.unary]⟩
   · cases h1
  · cases he
 | _ => exact slow_sound (CF := CF) (E := E) hr he
theorem oConv_sound {src dst : TypeId} {x : Operand} (ho : o.op = .convert src dst x) (hr : Rep ft tm) (he : oConv src dst x P CF E o ft h K = some a) : Goes P o tm h K a := by
 unfold oConv at he
 rw [evalF_eq hr] at he
 rcases binK_inv he with ⟨v, h1, he⟩ | ⟨_, he⟩
 ·
  unfold convV at h1
  split at h1
  ·
   rename_i k0 n k hx hk
   cases h1
   unfold dstInt at hk
   split at hk
   ·
    rename_i d k' hs hd
    cases hk
    refine .of (fun D W => .ofPure (by simp [ho]) fun m w A hm hxs H => ?_) he
    have a1 := hxs x (by simp [ho, Op.operands])
    rw [hx] at a1
    have a1 := VRel.eq_of_flat a1 rfl
    exact ⟨_, .int _ _, by simp [execOp, ho, a1, convert, run_under hs, run_under hd, Conv.intToInt, wrapF_eq]⟩
   · cases hk
  · cases h1
 · exact slow_sound (CF := CF) (E := E) hr he
theorem oNil_sound {x : Operand} (ho : o.op = .nilCheck x) (hr : Rep ft tm) (he : oNil x P CF E o ft h K = some a) : Goes P o tm h K a := by
 unfold oNil at he
 rw [evalF_eq hr] at he
 rcases binK_inv he with ⟨v, h1, he⟩ | ⟨_, he⟩
 ·
  unfold nilV at h1
  split at h1
  · rename_i b c hx; cases h1; exact .of (fun D W => .nilCheck ho hx) he
  · rename_i f x y hx; cases h1; exact .of (fun D W => .nilCheckF ho hx (by simp)) he
  · cases h1
 · exact slow_sound (CF := CF) (E := E) hr he
theorem oExtract_sound {x : Operand} {i : Nat} (ho : o.op = .extract x i) (hr : Rep ft tm) (he : oExtract x i P CF E o ft h K = some a) : Goes P o tm h K a := by
 unfold oExtract at he
 rw [evalF_eq hr] at he
 rcases binK_inv he with ⟨v, h1, he⟩ | ⟨_, he⟩
 ·
  unfold tupV at h1
  split at h1
  ·
   rename_i vs hx
   rw [nth_eq] at h1
   exact .of (fun D W => .extract ho (by rw [hx]; simpa [aExtract] using h1)) he
  · cases h1
 · cases he
theorem oPick_sound {c x y : Operand} (ho : o.op = .pick c x y) (hr : Rep ft tm) (he : oPick c x y P CF E o ft h K = some a) : Goes P o tm h K a := by
 unfold oPick at he
 rw [evalF_eq hr] at he
 obtain ⟨t, h1, he⟩ := boolK_inv he
 rw [headV_eq] at he
 cases t with
 | false => exact .of (fun D W => by simpa using OpRun.pick (P := P) (D := D) (W := W) (h := h) ho h1) he
 | true => exact .of (fun D W => by simpa using OpRun.pick (P := P) (D := D) (W := W) (h := h) ho h1) he
theorem Goes.new {v : Value} {b : AObj} (k : ∀ D W, OpRun P D W o tm h v (h.push b)) (hk : newK h K v b = some a) : Goes P o tm h K a := by
 unfold newK at hk
 rw [forceC_eq, hpushK_eq] at hk
 exact ⟨⟨v, h.push b, [], [], false, false⟩, .new k, hk⟩
theorem oAlloc_sound {t : TypeId} (ho : o.op = .alloc t) (he : oAlloc t P CF E o ft h K = some a) : Goes P o tm h K a := by
 obtain ⟨b, h1, he⟩ := optK_inv he
 exact .new (fun D W => .alloc ho h1) he
theorem oBox_sound {t : TypeId} {x : Operand} (ho : o.op = .box t x) (hr : Rep ft tm) (he : oBox t x P CF E o ft h K = some a) : Goes P o tm h K a := by
 unfold oBox at he
 rw [evalF_eq hr] at he
 obtain ⟨b, h1, he⟩ := optK_inv he
 exact .new (fun D W => .box ho h1) he
theorem oBuildSlice_sound {t : TypeId} {len : Nat} {ps : Array (Nat × Operand)} (ho : o.op = .buildSlice t len ps) (hr : Rep ft tm) (he : oBuildSlice t len ps P CF E o ft h K = some a) : Goes P o tm h K a := by
 unfold oBuildSlice at he
 rw [evalF_eq hr] at he
 obtain ⟨b, h1, he⟩ := optK_inv he
 exact .new (fun D W => .buildSlice ho h1) he
theorem oMakeSlice_sound {t : TypeId} {x y : Operand} (ho : o.op = .makeSlice t x y) (hr : Rep ft tm) (he : oMakeSlice t x y P CF E o ft h K = some a) : Goes P o tm h K a := by
 unfold oMakeSlice at he
 rw [evalF_eq hr] at he
 obtain ⟨⟨l, c, b⟩, h1, he⟩ := optK_inv he
 exact .new (fun D W => .makeSlice ho h1) he
theorem oBuiltin_sound {b : Builtin} {xs : Array Operand} {ts : Array TypeId} (ho : o.op = .call ⟨.builtin b, xs, ts⟩) (hr : Rep ft tm) (he : oBuiltin b xs ts P CF E o ft h K = some a) : Goes P o tm h K a := by
 have fin : ∀ (x y : Operand) (t u : TypeId), b = .append → xs.toList = [x, y] → ts.toList = [t, u] → (optK (appendA P h t u (evalF ft x) (evalF ft y)) fun r => HA.onK h r.2.1 fun h' => forceV r.1 fun v => K v h' r.2.2.1 r.2.2.2 false false) = some a → Goes P o tm h K a := fun x y t u hb hx ht he2 => by
  clear he
  subst hb
  rw [arr2 hx, arr2 ht] at ho
  rw [evalF_eq hr] at he2
  obtain ⟨⟨v, act, rd, wr⟩, h1, he⟩ := optK_inv he2
  rw [HA.onK_eq, forceV_eq] at he
  exact ⟨⟨v, act.on h, rd, wr, false, false⟩, .write fun D W hr hw => .append ho (appendA_eq h1) hr fun i hi => (hw i hi).2, he⟩
 have fin2 : ∀ (x : Operand) (t : TypeId), b = .len → xs.toList = [x] → ts.toList = [t] → binK (lenF (evalF ft x) (isSliceT P t)) h K (slow P CF E o ft h K) = some a → Goes P o tm h K a := fun x t hb hx ht he2 => by
  clear he fin
  subst hb
  rcases binK_inv he2 with ⟨v, h1, he⟩ | ⟨_, he⟩
  ·
   rw [arr1 hx, arr1 ht] at ho
   rw [evalF_eq hr] at h1
   unfold lenF at h1
   split at h1
   ·
    rename_i ad n c e1 e2
    cases h1
    unfold isSliceT at e2
    split at e2
    ·
     rename_i el hu
     exact .of (fun D W => .len (rd := []) ho (by rw [e1]; simp [aLen, hu]) (by simp)) he
    · cases e2
   · cases h1
  · exact slow_sound (CF := CF) (E := E) hr he
 generalize hxs : xs.toList = lx at fin fin2
 generalize hts : ts.toList = lt at fin fin2
 unfold oBuiltin at he
 rw [hxs, hts] at he
 cases b with
 | len =>
  cases lx with
  | nil => exact slow_sound (CF := CF) (E := E) hr he
  | cons x lx => cases lx with
   | cons y lx => exact slow_sound (CF := CF) (E := E) hr he
   | nil => cases lt with
    | nil => exact slow_sound (CF := CF) (E := E) hr he
    | cons t lt => cases lt with
     | cons u lt => exact slow_sound (CF := CF) (E := E) hr he
     | nil => exact fin2 x t rfl rfl rfl he
 | append =>
  cases lx with
  | nil => exact slow_sound (CF := CF) (E := E) hr he
  | cons x lx => cases lx with
   | nil => exact slow_sound (CF := CF) (E := E) hr he
   | cons y lx => cases lx with
    | cons z lx => exact slow_sound (CF := CF) (E := E) hr he
    | nil => cases lt with
     | nil => exact slow_sound (CF := CF) (E := E) hr he
     | cons t lt => cases lt with
      | nil => exact slow_sound (CF := CF) (E := E) hr he
      | cons u lt => cases lt with
       | cons z lt => exact slow_sound (CF := CF) (E := E) hr he
       | nil => exact fin x y t u rfl rfl rfl he
 | _ => exact slow_sound (CF := CF) (E := E) hr he
theorem ofLK_spec : ∀ (l : List Value) (i : Nat) (t : BT), ∃ t', (∀ j, t'.get j = if i ≤ j ∧ j < i + l.length then l.getD (j - i) undef else t.get j) ∧ ∀ {X : Type} (K : BT → Option X), ofLK l i t K = K t'
 | [], i, t => ⟨t, fun j => by rw [if_neg (by simp)], fun K => rfl⟩
 | v :: l, i, t => by
  obtain ⟨t₁, h1, h2⟩ := BT.setK_spec (i + 1) t i v (by omega)
  obtain ⟨t₂, h3, h4⟩ := ofLK_spec l (i + 1) t₁
  refine ⟨t₂, fun j => ?_, fun K => ?_⟩
  ·
   rw [h3]
   by_cases hj : i + 1 ≤ j ∧ j < i + 1 + l.length
   ·
    rw [if_pos hj, if_pos (by simp; omega)]
    have e : j - i = (j - (i + 1)) + 1 := by omega
    rw [e, List.getD_cons_succ]
   ·
    rw [if_neg hj, h1]
    by_cases e : i = j
    · subst e; simp
    · rw [if_neg e, if_neg (by simp; omega)]
  ·
   show BT.setK (i + 1) t i v (fun t => ofLK l (i + 1) t K) = _
   rw [h2, h4]
theorem ofLK_rep {X : Type} {l : List Value} {K : BT → Option X} {x : X} (he : ofLK l 0 .nil K = some x) (k : Nat) : ∃ ft, Rep ft (l ++ List.replicate k undef) ∧ K ft = some x := by
 obtain ⟨t, h1, h2⟩ := ofLK_spec l 0 .nil
 rw [h2] at he
 refine ⟨t, fun i => ?_, he⟩
 rw [h1]
 by_cases hi : i < l.length
 ·
  rw [if_pos (by omega)]
  simp [List.getElem?_append_left hi]
 ·
  rw [if_neg (by omega), BT.get_nil]
  simp only [List.getD_eq_getElem?_getD]
  rw [List.getElem?_append_right (by omega)]
  by_cases hk : i - l.length < k
  · simp [hk]
  · rw [List.getElem?_eq_none (by simp; omega)]; rfl
theorem toL_eq {ft : BT} {tm : List Value} (hr : Rep ft tm) : ∀ (N i : Nat), i + N = tm.length → toL ft N i = tm.drop i
 | 0, i, h => by rw [List.drop_eq_nil_of_le (by omega)]; rfl
 | N + 1, i, h => by
  have hlt : i < tm.length := by omega
  show ft.get i :: toL ft N (i + 1) = _
  rw [toL_eq hr N (i + 1) (by omega), hr i, List.drop_eq_getElem_cons hlt]
  congr 1
  simp [List.getElem?_eq_getElem hlt]
theorem codeL_inv {c : Code} {l : List Value} {df : List Nat} {K' : CR → Option A} (hE : EKOk P E) (he : codeL E c l df h K' = some a) : ∃ r : CR, Run P (· ∈ r.wr) true c ⟨l, df, h⟩ r.x ⟨r.tm, r.df, r.h⟩ ∧ K' r = some a := by
 obtain ⟨ft, h1, he⟩ := ofLK_rep he 0
 simp only [List.replicate_zero, List.append_nil] at h1
 obtain ⟨x, tm', ft', df', h', wr, h2, h3, h4, h5⟩ := hE _ _ _ _ _ _ _ _ he l rfl h1
 have e : toL ft' l.length 0 = tm' := by rw [toL_eq h3 l.length 0 (by rw [h2]; omega)]; rfl
 rw [e] at h5
 exact ⟨⟨x, tm', df', h', wr⟩, h4, h5⟩
theorem yieldK_sound {f : Operand} {xs : Array Operand} {ts : Array TypeId} {l : Nat} (hE : EKOk P E) (ho : o.op = .call ⟨.value f, xs, ts⟩) (hf : evalT tm f = .func (.yield l) #[] #[]) (he : yieldK E h l (xs.toList.map (evalT tm)) K = some a) : Goes P o tm h K a := by
 unfold yieldK at he
 split at he
 case h_2 => cases he
 rename_i pe tmL ps asg bo df hl
 rw [hget_eq] at hl
 obtain ⟨hsz, he⟩ := ifK_yes he
 have hsz : xs.size = ps.size := by have := Nat.eq_of_beq_eq_true hsz; simpa using this
 obtain ⟨r₁, r1, he⟩ := codeL_inv hE he
 split at he
 case h_2 => cases he
 rename_i tm₁ df₁ h₁ wr₁
 split at he
 case h_2 => cases he
 rename_i pe' tmL' ps' as' bo' df' hl₁
 rw [hget_eq] at hl₁
 rw [hputK_eq] at he
 obtain ⟨r₂, r2, he⟩ := codeL_inv hE he
 split at he
 case h_2 => cases he
 rename_i st₂ pe₂ tm₂ ps₂ as₂ bo₂ df₂ jump hl₂ hj
 rw [hget_eq] at hl₂
 rw [hputK_eq, forceC_eq] at he
 refine ⟨⟨.bool jump.isNone, _, [], l :: (wr₁ ++ r₂.wr), true, false⟩, ⟨(fun e => by cases e), fun D W hall _ hw => ?_⟩, he⟩
 rw [hall rfl]
 exact OpRun.yield (s₁ := ⟨tm₁, df₁, h₁⟩) (s₂ := ⟨r₂.tm, r₂.df, r₂.h⟩) ho hf hl hsz (r1.weak fun i hi => (hw i (by simp at hi ⊢; exact .inr (.inl hi))).2) hl₁ (r2.weak fun i hi => (hw i (by simp at hi ⊢; exact .inr (.inr hi))).2) hl₂ hj (hw l (by simp)).2
theorem oCall_sound {f : Operand} {xs : Array Operand} {ts : Array TypeId} (hCF : CKOk P CF) (hE : EKOk P E) (ho : o.op = .call ⟨.value f, xs, ts⟩) (hr : Rep ft tm) (he : oCall f xs P CF E o ft h K = some a) : Goes P o tm h K a := by
 unfold oCall at he
 rw [evalF_eq hr] at he
 generalize hf : evalT tm f = v at he
 cases v with
 | func fn first cap =>
  cases fn with
  | func g =>
   obtain ⟨hc, he⟩ := ifK_yes he
   rw [forceL_eq] at he
   obtain ⟨fn, h1, h2, h3⟩ := calls_spec hc
   obtain ⟨v, h', wr, hcr, he⟩ := hCF _ _ _ _ _ he
   refine ⟨⟨v, h', [], wr, true, false⟩, ⟨(fun e => by cases e), fun D W hall _ hw => ?_⟩, he⟩
   rw [hall rfl]
   have hcr := hcr.weak (W' := W) fun i hi => (hw i hi).2
   have e : (first.toList ++ xs.toList.map (evalT tm) ++ cap.toList).toArray = first ++ xs.map (evalT tm) ++ cap := by
    apply Array.toList_inj.1
    simp
   rw [e] at hcr
   exact OpRun.call ho hf h1 h2 h3 hcr
  | yield l =>
   obtain ⟨g1, he⟩ := ifK_yes he
   obtain ⟨g2, he3⟩ := ifK_yes he
   have e1 : first = #[] := Array.eq_empty_of_size_eq_zero (Nat.eq_of_beq_eq_true g1)
   have e2 : cap = #[] := Array.eq_empty_of_size_eq_zero (Nat.eq_of_beq_eq_true g2)
   subst e1 e2
   rw [forceL_eq] at he3
   exact yieldK_sound hE ho hf he3
  | _ => cases he
 | _ => cases he
theorem fOpF_sound (hCF : CKOk P CF) (hE : EKOk P E) (hr : Rep ft tm) (he : fOpF o.op P CF E o ft h K = some a) : Goes P o tm h K a := by
 generalize hop : o.op = op at he
 cases op with
 | move x => have he : oMove x P CF E o ft h K = some a := he; unfold oMove at he; rw [evalF_eq hr, headV_eq] at he; exact .of (fun D W => .move hop) he
 | assign x => have he : oMove x P CF E o ft h K = some a := he; unfold oMove at he; rw [evalF_eq hr, headV_eq] at he; exact .of (fun D W => .assign hop) he
 | pick c x y => exact oPick_sound (CF := CF) (E := E) hop hr he
 | alloc t => exact oAlloc_sound (CF := CF) (E := E) (ft := ft) hop he
 | box t x => exact oBox_sound (CF := CF) (E := E) hop hr he
 | buildSlice t len ps => exact oBuildSlice_sound (CF := CF) (E := E) hop hr he
 | load t x => exact oLoad_sound (CF := CF) (E := E) hop hr he
 | store t x y => exact oStore_sound (CF := CF) (E := E) hop hr he
 | nilCheck x => exact oNil_sound (CF := CF) (E := E) hop hr he
 | binOp op t x y t₂ => exact oBin_sound (CF := CF) (E := E) hop hr he
 | unOp op t x => exact oUn_sound (CF := CF) (E := E) hop hr he
 | convert src dst x => exact oConv_sound (CF := CF) (E := E) hop hr he
 | makeSlice t x y => exact oMakeSlice_sound (CF := CF) (E := E) hop hr he
 | fieldAddr s x f => exact oField_sound (CF := CF) (E := E) hop hr he
 | indexAddr t x i => exact oIndex_sound (CF := CF) (E := E) hop hr he
 | extract x i => exact oExtract_sound (CF := CF) (E := E) hop hr he
 | call c =>
  obtain ⟨callee, xs, ts⟩ := c
  cases callee with
  | value f => exact oCall_sound hCF hE hop hr he
  | builtin b => exact oBuiltin_sound (CF := CF) (E := E) hop hr he
  | invoke r m => exact slow_sound (CF := CF) (E := E) hr he
 | _ => exact slow_sound (CF := CF) (E := E) hr he
end
end Go.Proofs.YtncbbeghkpjpbaaDoor
namespace Go.Proofs.YtncbbeghkpjpbaaDoor
section
variable {A B C : Type} {a : A} {P : Program} {CF : CallK A} {E : CodeK A} {ops : Array Oper} {N : Nat}
theorem putK_inv {ft : BT} {tm : List Value} {v : Value} {d : Option Tmp} {K : BT → Option A} (hr : Rep ft tm) (hN : tm.length = N) (he : putK N ft v K d = some a) : ∃ ft', Rep ft' (putT tm d v) ∧ K ft' = some a := by
 cases d with
 | none => exact ⟨ft, hr, he⟩
 | some t =>
  have he : ifK (Nat.ble (Nat.succ t) N) (BT.setK (Nat.succ t) ft t v K) none = some a := he
  obtain ⟨h1, he⟩ := ifK_yes he
  have hlt : t < N := Nat.le_of_ble_eq_true h1
  obtain ⟨t', h2, h3⟩ := BT.setK_spec (t + 1) ft t v (by omega)
  have he : BT.setK (t + 1) ft t v K = some a := he
  rw [h3] at he
  refine ⟨t', fun i => ?_, he⟩
  rw [h2]
  simp only [putT, List.getD_eq_getElem?_getD, List.getElem?_set]
  by_cases e : t = i
  · subst e; simp [hN, hlt]
  · rw [if_neg e, if_neg e, hr i]; simp
theorem putT_len {tm : List Value} {d : Option Tmp} {v : Value} : (putT tm d v).length = tm.length := by
 unfold putT
 split <;> simp
theorem yieldedV_eq {v : Value} {w : Bool} : yieldedV v w = ((match some v with | some (.bool b) => some b | _ => none) == some w) := by
 cases v with
 | bool b => cases b <;> cases w <;> rfl
 | _ => rfl
theorem wantedG_eq {ft : BT} {tm : List Value} (hr : Rep ft tm) (hN : tm.length = N) (g : Nat × Bool) : wantedG ops N ft g = (yielded ops tm.toArray g.1 == some g.2) := by
 unfold wantedG yielded
 cases ho : ops[g.1]? with
 | none => rfl
 | some o =>
  show wantedD N ft g.2 o.dst = _
  unfold wantedD
  cases hd : o.dst with
  | none => simp [hd]
  | some d =>
   show @Bool.rec (fun _ => Bool) false (yieldedV (ft.get d) g.2) (Nat.ble (d + 1) N) = _
   by_cases hlt : d < N
   ·
    have e : tm.toArray[d]? = some (ft.get d) := by
     rw [hr d]
     have : d < tm.length := by rw [hN]; exact hlt
     simp [this]
    rw [Nat.ble_eq_true_of_le hlt]
    simp only [hd, Option.bind_some, e]
    exact yieldedV_eq
   ·
    have e : tm.toArray[d]? = none := by simp; rw [hN]; exact Nat.le_of_not_lt hlt
    have : Nat.ble (d + 1) N = false := by
     cases hb : Nat.ble (d + 1) N with
     | false => rfl
     | true => exact absurd (Nat.le_of_ble_eq_true hb) hlt
    rw [this]
    simp only [hd, Option.bind_some, e]
    rfl
theorem wantedK_inv {ft : BT} {tm : List Value} {o : Oper} {x y : Option A} (hr : Rep ft tm) (hN : tm.length = N) (he : wantedK ops N ft x y o.guard = some a) : (Region.wanted o (yielded ops tm.toArray) = true ∧ x = some a) ∨ (Region.wanted o (yielded ops tm.toArray) = false ∧ y = some a) := by
 unfold Region.wanted
 cases hg : o.guard with
 | none => rw [hg] at he; exact .inl ⟨rfl, he⟩
 | some g =>
  rw [hg] at he
  have he : ifK (wantedG ops N ft g) x y = some a := he
  rw [wantedG_eq hr hN g] at he
  rcases ifK_inv he with ⟨h1, h2⟩ | ⟨h1, h2⟩
  · exact .inl ⟨h1, h2⟩
  · exact .inr ⟨h1, h2⟩
theorem stepK_inv {ft : BT} {tm : List Value} {o : Oper} {h : AHeap} {K : BT → AHeap → Nat → OR → Option A} (hCF : CKOk P CF) (hE : EKOk P E) (hr : Rep ft tm) (hN : tm.length = N) (he : stepK P CF E ops N o ft h K = some a) :
  ∃ ft' r, Rep ft' (putT tm o.dst r.v) ∧ K ft' r.h h.n r = some a ∧ ((Region.wanted o (yielded ops tm.toArray) = true ∧ OpOk P o tm h r) ∨ (Region.wanted o (yielded ops tm.toArray) = false ∧ r = ⟨undef, h, [], [], false, true⟩)) := by
 unfold stepK at he
 rcases wantedK_inv hr hN he with ⟨hw, he⟩ | ⟨hw, he⟩
 ·
  obtain ⟨r, h1, h2⟩ := fOpF_sound hCF hE hr he
  obtain ⟨ft', h3, h4⟩ := putK_inv hr hN h2
  exact ⟨ft', r, h3, h4, .inl ⟨hw, h1⟩⟩
 ·
  obtain ⟨ft', h3, h4⟩ := putK_inv hr hN he
  exact ⟨ft', ⟨undef, h, [], [], false, true⟩, h3, h4, .inr ⟨hw, rfl⟩⟩
theorem OpOk.ev {o : Oper} {tm : List Value} {h : AHeap} {r : OR} (k : OpOk P o tm h r) {W : Nat → Prop} (hW : ∀ i ∈ r.wr, W i) : OpRun P Ev W o tm h r.v r.h := k.2 Ev W (fun _ => rfl) (fun _ _ => trivial) fun i hi => ⟨trivial, hW i hi⟩
theorem opsK_inv (hCF : CKOk P CF) (hE : EKOk P E) : ∀ (os : List Oper) (k : Nat) (ft : BT) (tm : List Value) (h : AHeap) (wr : List Nat) (K : BT → AHeap → List Nat → Option A), ops.toList.drop k = os → Rep ft tm → tm.length = N → opsK P CF E ops N os ft h wr K = some a →
  ∃ ft' tm' h' wr', Rep ft' tm' ∧ tm'.length = N ∧ K ft' h' wr' = some a ∧ (∀ i ∈ wr, i ∈ wr') ∧ ∀ W : Nat → Prop, (∀ i ∈ wr', W i) → OpsRun P W ops (List.range' k os.length) tm h tm' h'
 | [], k, ft, tm, h, wr, K, hd, hr, hN, he => ⟨ft, tm, h, wr, hr, hN, he, fun _ hi => hi, fun W _ => .nil⟩
 | o :: os, k, ft, tm, h, wr, K, hd, hr, hN, he => by
  have he : stepK P CF E ops N o ft h (fun ft h _ r => opsK P CF E ops N os ft h (r.wr ++ wr) K) = some a := he
  obtain ⟨ft₁, r, h1, h2, h3⟩ := stepK_inv hCF hE hr hN he
  have hd' : ops.toList.drop (k + 1) = os := by rw [← List.drop_drop, hd]; rfl
  have ho : ops[k]? = some o := by
   have : (ops.toList.drop k)[0]? = some o := by rw [hd]; rfl
   simpa using this
  obtain ⟨ft', tm', h', wr', g1, g2, g3, g4, g5⟩ := opsK_inv hCF hE os (k + 1) ft₁ _ r.h (r.wr ++ wr) K hd' h1 (by rw [putT_len]; exact hN) h2
  refine ⟨ft', tm', h', wr', g1, g2, g3, fun i hi => g4 i (by simp [hi]), fun W hW => ?_⟩
  simp only [List.length_cons, List.range'_succ]
  rcases h3 with ⟨hw, hk⟩ | ⟨hw, rfl⟩
  · exact .op ho hw (hk.ev fun i hi => hW i (g4 i (by simp [hi]))) (g5 W hW)
  · exact .skip ho hw (g5 W hW)
structure Tr1 where
 tm : List Value
 h : AHeap
 r : OR
theorem traceK_inv (hCF : CKOk P CF) (hE : EKOk P E) : ∀ (os : List Oper) (k : Nat) (ft : BT) (tm : List Value) (h : AHeap) (K : BT → AHeap → List (Nat × OR) → Option A), ops.toList.drop k = os → Rep ft tm → tm.length = N → traceK P CF E ops N os ft h K = some a →
  ∃ (ft' : BT) (tm' : List Value) (h' : AHeap) (ts : List Tr1), Rep ft' tm' ∧ tm'.length = N ∧ K ft' h' (ts.map fun t => (t.h.n, t.r)) = some a ∧ ts.length = os.length ∧
   (∀ j t, ts[j]? = some t → ∃ o, ops[k + j]? = some o ∧ ((Region.wanted o (yielded ops t.tm.toArray) = true ∧ OpOk P o t.tm t.h t.r) ∨ (Region.wanted o (yielded ops t.tm.toArray) = false ∧ t.r = ⟨undef, t.h, [], [], false, true⟩)) ∧
    (match ts[j + 1]? with | some u => u.tm = putT t.tm o.dst t.r.v ∧ u.h = t.r.h | none => tm' = putT t.tm o.dst t.r.v ∧ h' = t.r.h)) ∧
   (match ts[0]? with | some t => t.tm = tm ∧ t.h = h | none => tm' = tm ∧ h' = h)
 | [], k, ft, tm, h, K, hd, hr, hN, he => ⟨ft, tm, h, [], hr, hN, he, rfl, fun j t e => by simp at e, by simp⟩
 | o :: os, k, ft, tm, h, K, hd, hr, hN, he => by
  have he : stepK P CF E ops N o ft h (fun ft h n r => traceK P CF E ops N os ft h fun ft' h' rs => K ft' h' ((n, r) :: rs)) = some a := he
  obtain ⟨ft₁, r, h1, h2, h3⟩ := stepK_inv hCF hE hr hN he
  have hd' : ops.toList.drop (k + 1) = os := by rw [← List.drop_drop, hd]; rfl
  have ho : ops[k]? = some o := by
   have : (ops.toList.drop k)[0]? = some o := by rw [hd]; rfl
   simpa using this
  obtain ⟨ft', tm', h', ts, g1, g2, g3, g4, g5, g6⟩ := traceK_inv hCF hE os (k + 1) ft₁ _ r.h _ hd' h1 (by rw [putT_len]; exact hN) h2
  refine ⟨ft', tm', h', ⟨tm, h, r⟩ :: ts, g1, g2, g3, by simp [g4], fun j t e => ?_, by simp⟩
  cases j with
  | zero =>
   simp at e
   subst e
   refine ⟨o, ho, h3, ?_⟩
   simp only [Nat.zero_add, List.getElem?_cons_succ]
   cases hts : ts[0]? with
   | none => rw [hts] at g6; exact g6
   | some u => rw [hts] at g6; exact g6
  | succ j =>
   simp only [List.getElem?_cons_succ] at e
   obtain ⟨o', a1, a2, a3⟩ := g5 j t e
   refine ⟨o', by rw [← a1]; congr 1; omega, a2, ?_⟩
   simpa using a3
theorem apartRow_spec {oj : Oper} {j : Nat} : ∀ (os : List Oper) (i : Nat), apartRow ops oj j os i = true → ∀ k o, os[k]? = some o → i + k < j → bef ops (i + k) j = true ∨ o.apart ops oj = true
 | [], i, h, k, o, e, _ => by simp at e
 | x :: os, i, h, k, o, e, hlt => by
  unfold apartRow at h
  rw [Bool.and_eq_true] at h
  cases k with
  | zero =>
   simp at e; subst e
   have h1 := h.1
   simp only [Bool.or_eq_true, decide_eq_true_eq] at h1
   rcases h1 with (h1 | h1) | h1
   · omega
   · exact .inl h1
   · exact .inr h1
  | succ k =>
   have := apartRow_spec os (i + 1) h.2 k o (by simpa using e) (by omega)
   rw [show i + 1 + k = i + (k + 1) by omega] at this
   exact this
theorem apartAll_spec : ∀ (os : List Oper) (j : Nat), apartAll ops os j = true → ∀ k oj, os[k]? = some oj → apartRow ops oj (j + k) ops.toList 0 = true
 | [], j, h, k, o, e => by simp at e
 | x :: os, j, h, k, o, e => by
  unfold apartAll at h
  rw [Bool.and_eq_true] at h
  cases k with
  | zero => simp at e; subst e; exact h.1
  | succ k =>
   have := apartAll_spec os (j + 1) h.2 k o (by simpa using e)
   rw [show j + 1 + k = j + (k + 1) by omega] at this
   exact this
theorem edgeAll_spec : ∀ (os : List Oper) (j : Nat), edgeAll os j = true → ∀ k o, os[k]? = some o → ∀ e ∈ o.after, Region.binds .any e = true → e.on < j + k
 | [], j, h, k, o, e => by simp at e
 | x :: os, j, h, k, o, e => by
  unfold edgeAll at h
  rw [Bool.and_eq_true] at h
  cases k with
  | zero =>
   simp at e; subst e
   intro ed hed hb
   have := List.all_eq_true.1 h.1 ed (by simpa using hed)
   simp [hb] at this
   omega
  | succ k =>
   intro ed hed hb
   have := edgeAll_spec os (j + 1) h.2 k o (by simpa using e) ed hed hb
   omega
theorem loudRowF_spec {w : List Nat} {i : Nat} : ∀ (rs : List (Nat × OR)) (j : Nat), loudRowF ops w i rs j = true → ∀ k n r, rs[k]? = some (n, r) → loudPair ops w i (j + k) n r = true
 | [], j, h, k, n, r, e => by simp at e
 | (m, x) :: rs, j, h, k, n, r, e => by
  unfold loudRowF at h
  rw [Bool.and_eq_true] at h
  cases k with
  | zero => simp at e; obtain ⟨rfl, rfl⟩ := e; exact h.1
  | succ k =>
   have := loudRowF_spec rs (j + 1) h.2 k n r (by simpa using e)
   rw [show j + 1 + k = j + (k + 1) by omega] at this
   exact this
theorem loudOkF_spec {all : List (Nat × OR)} : ∀ (rs : List (Nat × OR)) (j : Nat), loudOkF ops all rs j = true → ∀ k n r, rs[k]? = some (n, r) → oldOf n r.wr ≠ [] → loudRowF ops (oldOf n r.wr) (j + k) all 0 = true
 | [], j, h, k, n, r, e, _ => by simp at e
 | (m, x) :: rs, j, h, k, n, r, e, hne => by
  unfold loudOkF at h
  rw [Bool.and_eq_true] at h
  cases k with
  | zero =>
   simp at e; obtain ⟨rfl, rfl⟩ := e
   have h1 := h.1
   rw [Bool.or_eq_true] at h1
   rcases h1 with h1 | h1
   · exact absurd (List.isEmpty_iff.1 h1) hne
   · exact h1
  | succ k =>
   have := loudOkF_spec rs (j + 1) h.2 k n r (by simpa using e) hne
   rw [show j + 1 + k = j + (k + 1) by omega] at this
   exact this
theorem loudRowS_spec {S : Nat → OR → Bool} {w : List Nat} {i : Nat} : ∀ (rs : List (Nat × OR)) (j : Nat), loudRowS S ops w i rs j = true → ∀ k n r, rs[k]? = some (n, r) → loudPair ops w i (j + k) n r = true ∨ S (j + k) r = true
 | [], j, h, k, n, r, e => by simp at e
 | (m, x) :: rs, j, h, k, n, r, e => by
  unfold loudRowS at h
  rw [Bool.and_eq_true, Bool.or_eq_true] at h
  cases k with
  | zero => simp at e; obtain ⟨rfl, rfl⟩ := e; exact h.1
  | succ k =>
   have := loudRowS_spec rs (j + 1) h.2 k n r (by simpa using e)
   rw [show j + 1 + k = j + (k + 1) by omega] at this
   exact this
theorem loudOkS_spec {S : Nat → OR → Bool} {all : List (Nat × OR)} : ∀ (rs : List (Nat × OR)) (j : Nat), loudOkS S ops all rs j = true → ∀ k n r, rs[k]? = some (n, r) → oldOf n r.wr ≠ [] → loudRowS S ops (oldOf n r.wr) (j + k) all 0 = true
 | [], j, h, k, n, r, e, _ => by simp at e
 | (m, x) :: rs, j, h, k, n, r, e, hne => by
  unfold loudOkS at h
  rw [Bool.and_eq_true] at h
  cases k with
  | zero =>
   simp at e; obtain ⟨rfl, rfl⟩ := e
   have h1 := h.1
   rw [Bool.or_eq_true] at h1
   rcases h1 with h1 | h1
   · exact absurd (List.isEmpty_iff.1 h1) hne
   · exact h1
  | succ k =>
   have := loudOkS_spec rs (j + 1) h.2 k n r (by simpa using e) hne
   rw [show j + 1 + k = j + (k + 1) by omega] at this
   exact this
def heapAt (h₀ : AHeap) (rs : List (Nat × OR)) : Nat → AHeap
 | 0 => h₀
 | q + 1 => match rs[q]? with
  | some x => x.2.h
  | none => h₀
theorem softAll_spec {chk : AHeap → Bool} {ops : Array Oper} {j b : Nat} : ∀ {rs : List (Nat × OR)} {H : AHeap} {i₀ : Nat}, softAll chk ops j b H rs i₀ = true → ∀ q, q ≤ rs.length → (∀ i n r', i < q → rs[i]? = some (n, r') → b ∈ oldOf n r'.wr → bef ops j (i₀ + i) = false) → chk (heapAt H rs q) = true
 | [], H, i₀, h, q, hq, _ => by
  obtain rfl : q = 0 := by simpa using hq
  exact h
 | (n, r) :: rs, H, i₀, h, q, hq, hno => by
  unfold softAll at h
  rw [Bool.and_eq_true, Bool.or_eq_true, Bool.and_eq_true] at h
  cases q with
  | zero => exact h.1
  | succ q =>
   rcases h.2 with ⟨h1, h2⟩ | h2
   ·
    have := hno 0 n r (by omega) rfl (List.contains_iff_mem.1 h2)
    rw [Nat.add_zero, h1] at this
    cases this
   ·
    have := softAll_spec h2 q (by simpa using hq) fun i n' r' hi e hb => by
     have := hno (i + 1) n' r' (by omega) (by simpa using e) hb
     rwa [show i₀ + 1 + i = i₀ + (i + 1) by omega]
    cases q with
    | zero => exact this
    | succ q =>
     have hl : q < rs.length := by simp at hq; omega
     simp only [heapAt, List.getElem?_cons_succ, List.getElem?_eq_getElem hl] at this ⊢
     exact this
theorem softB_spec {P : Program} {ft : BT} {h₀ : AHeap} {rs : List (Nat × OR)} {j : Nat} {r : OR} (h : softB P ops ft h₀ rs j r = true) : ∃ o t q b, ops[j]? = some o ∧ o.op = .load t (.tmp q) ∧ r.same = true ∧ r.wr = [] ∧ r.rd = [b] ∧ (∀ i oi, j ≤ i → ops[i]? = some oi → oi.dst ≠ some q) ∧ ∀ p, p ≤ rs.length → (∀ i n r', i < p → rs[i]? = some (n, r') → b ∈ oldOf n r'.wr → bef ops j i = false) → aLoad P (heapAt h₀ rs p) t (ft.get q) = some (r.v, b) := by
 unfold softB at h
 split at h
 case h_2 => cases h
 rename_i o ho
 split at h
 case h_2 => cases h
 rename_i t q hop
 rw [Bool.and_eq_true, Bool.and_eq_true] at h
 obtain ⟨⟨h1, h2⟩, h3⟩ := h
 split at h3
 case h_2 => cases h3
 rename_i b hrd
 rw [Bool.and_eq_true] at h3
 obtain ⟨h3, h4⟩ := h3
 refine ⟨o, t, q, b, ho, hop, h1, List.isEmpty_iff.1 h2, hrd, fun i oi hij hi hd => ?_, fun p hp hno => ?_⟩
 ·
  have hm : oi ∈ ops.toList.drop j := by
   apply List.mem_of_getElem? (i := i - j)
   rw [List.getElem?_drop, show j + (i - j) = i by omega]
   simpa using hi
  have := List.all_eq_true.1 h3 oi hm
  rw [hd] at this
  simp at this
 ·
  have := softAll_spec h4 p hp fun i n r' hi e hb => by rw [Nat.zero_add]; exact hno i n r' hi e hb
  split at this
  case h_2 => cases this
  rename_i v b' hl
  rw [Bool.and_eq_true] at this
  rw [hl, eqV_eq this.1, Nat.eq_of_beq_eq_true this.2]
theorem wrOfF_mem {n : Nat} : ∀ {rs : List (Nat × OR)} {k m : Nat} {r : OR} {i : Nat}, rs[k]? = some (m, r) → i ∈ r.wr → i < n → i ∈ wrOfF n rs
 | [], k, m, r, i, e, _, _ => by simp at e
 | (m', x) :: rs, k, m, r, i, e, hi, hn => by
  unfold wrOfF
  rw [List.mem_append]
  cases k with
  | zero => simp at e; obtain ⟨rfl, rfl⟩ := e; exact .inl (by simp [oldOf, hi, hn])
  | succ k => exact .inr (wrOfF_mem (by simpa using e) hi hn)
theorem OpRun.old {D W : Nat → Prop} {o : Oper} {tm : List Value} {h h' : AHeap} {v : Value} (k : OpRun P D W o tm h v h') : OpRun P D (fun i => W i ∧ i < h.n) o tm h v h' :=
 ⟨⟨k.fr.n, fun i hi hn => k.fr.get i hi fun hw => hn ⟨hw, hi⟩, k.fr.typ, k.fr.alive, k.fr.live, k.fr.roT⟩,
  fun m w A r a b c d K Q hK => k.run m w A r a b c d K Q fun v' w' m' f x y => hK v' w' m' ⟨f.old, fun i l h1 h2 h3 => (f.new i l h1 h2 h3).imp id fun ⟨j, k, a1, a2, a3⟩ => ⟨j, k, a1, ⟨a2, a1⟩, a3⟩, fun b hb hk => f.keep b hb fun j k a1 a2 => hk j k a1 ⟨a2, a1⟩, f.size, f.os, f.tape, f.output⟩ x y⟩
theorem regionK_sound {draw : Bool} {id : Nat} {ft : BT} {df : List Nat} {h : AHeap} {K : KC A} {q : Bool} (hCF : CKOk P CF) (hE : EKOk P E) (he : regionK P CF E ops draw N ft df h K = some a) (tm : List Value) (hN : tm.length = N) (hr : Rep ft tm) :
  ∃ x tm' ft' df' h' wr, tm'.length = N ∧ Rep ft' tm' ∧ Run P (· ∈ wr) q (.region id ops draw) ⟨tm, df, h⟩ x ⟨tm', df', h'⟩ ∧ K x ft' df' h' wr = some a := by
 unfold regionK at he
 rcases ifK_inv he with ⟨rfl, he⟩ | ⟨rfl, he⟩
 ·
  obtain ⟨hd, he⟩ := ifK_yes he
  unfold drawOk at hd
  simp only [Bool.and_eq_true] at hd
  obtain ⟨⟨⟨hmix, hops⟩, hap⟩, hed⟩ := hd
  obtain ⟨ft', tm', h', ts, g1, g2, g3, g4, g5, g6⟩ := traceK_inv hCF hE ops.toList 0 ft tm h _ (by simp) hr hN he
  obtain ⟨hl, g3⟩ := ifK_yes g3
  have hlen : ts.length = ops.size := by simpa using g4
  let T : Nat → List Value := fun k => match ts[k]? with | some t => t.tm | none => tm'
  let H : Nat → AHeap := fun k => match ts[k]? with | some t => t.h | none => h'
  let V : Nat → Value := fun k => match ts[k]? with | some t => t.r.v | none => undef
  let R : Nat → OR := fun k => match ts[k]? with | some t => t.r | none => ⟨undef, h', [], [], false, true⟩
  let Sf : Nat → Prop := fun k => softB P ops ft' h (ts.map fun t => (t.h.n, t.r)) k (R k) = true
  let D : Nat → Nat → Prop := fun k i => ¬ Sf k ∧ ((R k).all = true ∨ i ∈ (R k).rd ∨ i ∈ (R k).wr ∨ ((H k).n ≤ i ∧ i < (H (k + 1)).n))
  let W : Nat → Nat → Prop := fun k i => i ∈ (R k).wr ∧ i < (H k).n
  let L : Nat → Prop := fun k => oldOf (H k).n (R k).wr ≠ []
  have at_ : ∀ k o, ops[k]? = some o → ∃ t, ts[k]? = some t ∧ T k = t.tm ∧ H k = t.h ∧ V k = t.r.v ∧ R k = t.r := fun k o ho => by
   have hlt : k < ts.length := by rw [hlen]; exact (Array.getElem?_eq_some_iff.1 ho).1
   have e : ts[k]? = some ts[k] := List.getElem?_eq_getElem hlt
   exact ⟨ts[k], e, by simp only [T, e], by simp only [H, e], by simp only [V, e], by simp only [R, e]⟩
  have nextT : ∀ k t o, ts[k]? = some t → ops[k]? = some o → T (k + 1) = putT t.tm o.dst t.r.v ∧ H (k + 1) = t.r.h := fun k t o e ho => by
   obtain ⟨o', a1, _, a3⟩ := g5 k t e
   rw [Nat.zero_add, ho] at a1
   cases a1
   cases hn : ts[k + 1]? with
   | none => rw [hn] at a3; simp only [T, H, hn]; exact a3
   | some u => rw [hn] at a3; simp only [T, H, hn]; exact a3
  have old_mem : ∀ k i, i ∈ (R k).wr → i < (H k).n → i ∈ oldOf (H k).n (R k).wr := fun k i h1 h2 => by simp [oldOf, h1, h2]
  have T0 : T 0 = tm ∧ H 0 = h := by
   cases h0 : ts[0]? with
   | none => rw [h0] at g6; simp only [T, H, h0]; exact g6
   | some t => rw [h0] at g6; simp only [T, H, h0]; exact g6
  have heaps : ∀ q, q ≤ ops.size → H q = heapAt h (ts.map fun t => (t.h.n, t.r)) q := fun q hq => by
   cases q with
   | zero => exact T0.2
   | succ q =>
    obtain ⟨t, e, _, _, _, _⟩ := at_ q ops[q] (by simp)
    rw [(nextT q t ops[q] e (by simp)).2]
    simp only [heapAt, List.getElem?_map, e, Option.map_some]
  have hz0 : ts[ops.size]? = none := List.getElem?_eq_none (by omega)
  have last : T ops.size = tm' := by simp only [T, hz0]
  have stay : ∀ (j q : Nat), (∀ i oi, j ≤ i → ops[i]? = some oi → oi.dst ≠ some q) → ∀ i, j ≤ i → i ≤ ops.size → (T i).getD q undef = (T j).getD q undef := fun j q hno i => by
   intro hji
   induction hji with
   | refl => exact fun _ => rfl
   | @step i hji ih =>
    intro hi
    obtain ⟨t, e, e1, _, _, _⟩ := at_ i ops[i] (by simp)
    rw [(nextT i t ops[i] e (by simp)).1, ← ih (by omega), e1]
    have hd := hno i ops[i] hji (by simp)
    cases hdd : ops[i].dst with
    | none => rfl
    | some d =>
     have hne : d ≠ q := fun x => hd (by rw [hdd, x])
     simp only [putT, List.getD_eq_getElem?_getD]
     rw [List.getElem?_set_ne hne]
  have tr : Trace P ops T H V D W L := {
   step := fun k o ho => by
    obtain ⟨t, e, e1, e2, e3, e4⟩ := at_ k o ho
    obtain ⟨o', a1, a2, _⟩ := g5 k t e
    rw [Nat.zero_add, ho] at a1
    cases a1
    have nx := nextT k t o e ho
    have hks : k < ops.size := (Array.getElem?_eq_some_iff.1 ho).1
    by_cases hsf : Sf k
    ·
     obtain ⟨o', ty, q, b, b1, b2, b3, b4, b5, b6, b7⟩ := softB_spec hsf
     rw [ho] at b1
     cases b1
     rw [e4] at b3 b5
     rcases a2 with ⟨hw, hk⟩ | ⟨hw, hk⟩
     ·
      refine .inr (.inr ⟨by rw [e1]; exact hw, by rw [nx.2, hk.1 b3, e2], fun i hi => hi.1 hsf, b, fun p hp hno => ?_⟩)
      refine OpRun.load b2 ?_ rfl
      have hq : evalT (T k) (.tmp q) = ft'.get q := by
       rw [g1 q, ← last, stay k q b6 ops.size (by omega) (Nat.le_refl _)]
       rfl
      have := b7 p (by rw [List.length_map, hlen]; exact hp) fun i n r' hi e' hb => by
       rw [List.getElem?_map] at e'
       obtain ⟨ti, ei, _, ei2, _, ei4⟩ := at_ i ops[i] (by simp)
       rw [ei] at e'
       simp only [Option.map_some, Option.some.injEq, Prod.mk.injEq] at e'
       obtain ⟨rfl, rfl⟩ := e'
       rw [← ei2, ← ei4] at hb
       have hb' := hb
       unfold oldOf at hb'
       rw [List.mem_filter] at hb'
       exact hno i hi (fun e => by rw [e] at hb; cases hb) ⟨hb'.1, of_decide_eq_true hb'.2⟩
      rw [← heaps p hp] at this
      rw [hq, this, e3, e4]
     · rw [hk] at b5; cases b5
    rcases a2 with ⟨hw, hk⟩ | ⟨hw, hk⟩
    ·
     refine .inl ⟨by rw [e1]; exact hw, ?_⟩
     rw [e1, e2, e3, nx.2]
     have hk2 : OpRun P (D k) (fun i => i ∈ (R k).wr) o t.tm t.h t.r.v t.r.h := ?_
     ·
      have := hk2.old
      rw [← e2] at this
      rw [← e2]
      exact this
     refine hk.2 (D k) (fun i => i ∈ (R k).wr) (fun hall => ?_) (fun i hi => ?_) fun i hi => ⟨?_, ?_⟩
     ·
      funext i
      apply propext
      exact ⟨fun _ => trivial, fun _ => ⟨hsf, .inl (by rw [e4]; exact hall)⟩⟩
     · exact ⟨hsf, .inr (.inl (by rw [e4]; exact hi))⟩
     · exact ⟨hsf, .inr (.inr (.inl (by rw [e4]; exact hi)))⟩
     ·
      show i ∈ (R k).wr
      rw [e4]; exact hi
    · refine .inr (.inl ⟨by rw [e1]; exact hw, by rw [e3, hk], by rw [nx.2, hk, e2]⟩)
   tm := fun k o ho => by
    obtain ⟨t, e, e1, e2, e3, e4⟩ := at_ k o ho
    rw [(nextT k t o e ho).1, e1, e3]
   own := fun k hl i hi => by
    apply Classical.byContradiction
    intro hlt
    have := old_mem k i hi.1 hi.2
    exact hl fun e => by rw [e] at this; cases this
   new := fun k i h1 h2 => by
    refine ⟨fun hsf => ?_, .inr (.inr (.inr ⟨h1, h2⟩))⟩
    by_cases hks : k < ops.size
    ·
     obtain ⟨o', ty, q, b, b1, b2, b3, b4, b5, b6, b7⟩ := softB_spec hsf
     obtain ⟨t, e, _, e2, _, e4⟩ := at_ k o' b1
     obtain ⟨o'', a1, a2, _⟩ := g5 k t e
     have nx := nextT k t o' e b1
     rw [e4] at b3
     have hh : t.r.h = t.h := by
      rcases a2 with ⟨_, hk⟩ | ⟨_, hk⟩
      · exact hk.1 b3
      · rw [hk]
     rw [nx.2, hh, ← e2] at h2
     omega
    ·
     have n1 : ts[k]? = none := List.getElem?_eq_none (by omega)
     have n2 : ts[k + 1]? = none := List.getElem?_eq_none (by omega)
     simp only [H, n1, n2] at h1 h2
     omega
   rw := fun k i _ hi => by
    refine ⟨fun hsf => ?_, .inr (.inr (.inl hi.1))⟩
    obtain ⟨o', ty, q, b, b1, b2, b3, b4, b5, b6, b7⟩ := softB_spec hsf
    have h1 := hi.1
    rw [b4] at h1
    cases h1
   apart := fun i j oi oj hij hi hj => by
    have h1 := apartAll_spec ops.toList 0 hap j oj (by simpa using hj)
    rw [Nat.zero_add] at h1
    have := apartRow_spec ops.toList 0 h1 i oi (by simpa using hi) (by omega)
    rwa [Nat.zero_add] at this
   loud := fun i j hL hij his hjs h1 h2 => by
    obtain ⟨ti, ei, _, ei2, _, ei4⟩ := at_ i ops[i] (by simp [his])
    obtain ⟨tj, ej, ej1, ej2, _, ej4⟩ := at_ j ops[j] (by simp [hjs])
    have hne : oldOf ti.h.n ti.r.wr ≠ [] := by rw [← ei2, ← ei4]; exact hL
    have row := loudOkS_spec (ts.map fun t => (t.h.n, t.r)) 0 hl i ti.h.n ti.r (by simp [ei]) hne
    rw [Nat.zero_add] at row
    have pr := loudRowS_spec (ts.map fun t => (t.h.n, t.r)) 0 row j tj.h.n tj.r (by simp [ej])
    rw [Nat.zero_add] at pr
    by_cases hsf : Sf j
    ·
     obtain ⟨o', ty, q, b, b1, b2, b3, b4, b5, b6, b7⟩ := softB_spec hsf
     obtain ⟨o'', a1, a2, _⟩ := g5 j tj ej
     rw [Nat.zero_add] at a1
     have nx := nextT j tj o'' ej a1
     rw [ej4] at b3
     refine ⟨.inr ?_, fun id _ hD => hD.1 hsf⟩
     rw [nx.2, ej2]
     rcases a2 with ⟨_, hk⟩ | ⟨_, hk⟩
     · exact hk.1 b3
     · rw [hk]
    have pr := pr.resolve_right fun x => hsf (by show softB _ _ _ _ _ _ (R j) = true; rw [ej4]; exact x)
    unfold loudPair at pr
    have hij' : (i == j) = false := by simpa using hij
    rw [hij', h1, h2] at pr
    simp only [Bool.false_or, Bool.and_eq_true, Bool.not_eq_true'] at pr
    obtain ⟨⟨hsame, hall⟩, hdis⟩ := pr
    obtain ⟨o', a1, a2, _⟩ := g5 j tj ej
    rw [Nat.zero_add] at a1
    have nx := nextT j tj o' ej a1
    have hh : tj.r.same = true → tj.r.h = tj.h := fun hsm => by
     rcases a2 with ⟨_, hk⟩ | ⟨_, hk⟩
     · exact hk.1 hsm
     · rw [hk]
    refine ⟨?_, fun id hid hD => ?_⟩
    ·
     rw [Bool.or_eq_true] at hsame
     rcases hsame with h3 | h3
     · exact .inr (by rw [nx.2, hh h3, ej2])
     ·
      refine .inl fun hLj => hLj ?_
      rw [ej4, ej2]; exact List.isEmpty_iff.1 h3
    ·
     have hid' : id ∈ oldOf ti.h.n ti.r.wr := by rw [← ei4, ← ei2]; exact old_mem i id hid.1 hid.2
     have hno := List.all_eq_true.1 hdis id hid'
     simp only [Bool.and_eq_true, Bool.not_eq_true', Bool.or_eq_true, decide_eq_true_eq] at hno
     obtain ⟨⟨n1, n2⟩, n3⟩ := hno
     rcases hD.2 with h3 | h3 | h3 | h3
     · rw [ej4, hall] at h3; cases h3
     ·
      rw [ej4] at h3
      rw [List.contains_iff_mem.2 h3] at n1; cases n1
     ·
      rw [ej4] at h3
      rw [List.contains_iff_mem.2 h3] at n2; cases n2
     · rw [nx.2, ej2] at h3; omega
   wlt := fun k i hi => hi.2
   edge := fun k o e ho hee hb => by
    have := edgeAll_spec ops.toList 0 hed k o (by simpa using ho) e hee hb
    omega
   opds := hops }
  have hz : ts[ops.size]? = none := List.getElem?_eq_none (by omega)
  have Tn : T ops.size = tm' ∧ H ops.size = h' := by simp only [T, H, hz]; exact ⟨trivial, trivial⟩
  have run := Run.draws (q := q) (Wt := (· ∈ wrOfF h.n (ts.map fun t => (t.h.n, t.r)))) hmix tr (fun k hk hL i hi hi0 => by
   obtain ⟨t, e, _, _, _, e4⟩ := at_ k ops[k] (by simp [hk])
   rw [T0.2] at hi0
   exact wrOfF_mem (k := k) (m := t.h.n) (r := t.r) (by simp [e]) (by rw [← e4]; exact hi.1) hi0) id df
  rw [T0.1, T0.2, Tn.1, Tn.2] at run
  exact ⟨.normal, tm', ft', df, h', _, g2, g1, run, g3⟩
 ·
  obtain ⟨hops, he⟩ := ifK_yes he
  obtain ⟨ft', tm', h', wr', g1, g2, g3, g4, g5⟩ := opsK_inv hCF hE ops.toList 0 ft tm h [] _ (by simp) hr hN he
  have run := g5 (· ∈ wr') fun _ hi => hi
  rw [← List.range_eq_range', Array.length_toList] at run
  exact ⟨.normal, tm', ft', df, h', wr', g2, g1, Run.region (s := ⟨tm, df, h⟩) hops run, g3⟩
end
end Go.Proofs.YtncbbeghkpjpbaaDoor
namespace Go.Proofs.YtncbbeghkpjpbaaDoor
open Go.RowKit
section
variable {A : Type} {a : A} {P : Program} {S : Summ} {E : CodeK A}
def SOk (P : Program) (S : Summ) : Prop := ∀ f args h v h' wr, S f args h = some (v, h', wr) → CallRun P (· ∈ wr) f args.toArray h v h'
theorem fResults_eq {h : AHeap} {ft : BT} {tm : List Value} (hr : Rep ft tm) : ∀ rs, fResults P h ft rs = aResults P h tm rs
 | [] => rfl
 | .tmp t :: rs => by simp only [fResults, aResults]; rw [fResults_eq hr rs, hr t]
 | .cell b t :: rs => by simp only [fResults, aResults]; rw [fResults_eq hr rs, hr b] <;> rfl
theorem fResult_eq {h : AHeap} {ft : BT} {tm : List Value} (hr : Rep ft tm) (rs : List ResultVar) : fResult P h ft rs = aResult P h tm rs := by
 unfold fResult aResult
 rw [fResults_eq hr rs] <;>
 rfl
theorem callK_sound (hS : SOk P S) (hE : EKOk P E) : CKOk P (callK P S E) := fun f args h K a he => by
 have he : Option.rec (optK (P.funcs[f]?) fun fn => optK fn.body fun c => callBody P E fn c args h K) (fun r => forceV r.1 fun v => K v r.2.1 r.2.2) (S f args h) = some a := he
 cases hs : S f args h with
 | some r =>
  rw [hs] at he
  obtain ⟨v, h', wr⟩ := r
  have he : forceV v (fun v => K v h' wr) = some a := he
  rw [forceV_eq] at he
  exact ⟨v, h', wr, hS _ _ _ _ _ _ hs, he⟩
 | none =>
  rw [hs] at he
  obtain ⟨fn, hf, he⟩ := optK_inv he
  obtain ⟨c, hb, he⟩ := optK_inv he
  obtain ⟨ft, h1, he⟩ := ofLK_rep he (fn.ntmps - args.length)
  rw [forceNat_eq] at he
  obtain ⟨x, tm', ft', df', h₁, wr, g1, g2, g3, he⟩ := hE _ _ _ _ _ _ _ _ he (args ++ List.replicate (fn.ntmps - args.length) undef) (by simp) h1
  obtain ⟨hx, he⟩ := ifK_yes he
  rw [Bool.and_eq_true] at hx
  obtain ⟨h₂, ht, he⟩ := optK_inv he
  obtain ⟨v, hv, he⟩ := optK_inv he
  rw [forceV_eq] at he
  rw [fResult_eq g2] at hv
  have hx1 : x = .normal ∨ x = .ret := by
   have := hx.1
   cases x <;> simp [leftB] at this <;> simp
  have hdf : ∀ d ∈ df', h.n ≤ d := fun d hd => Nat.le_of_ble_eq_true (List.all_eq_true.1 hx.2 d hd)
  have run : Run P (fun i => i ∈ wr ∨ i ∈ df') false c ⟨args.toArray.toList ++ List.replicate (fn.ntmps - args.toArray.size) undef, [], h⟩ x ⟨tm', df', h₁⟩ := by
   have := g3.weak (W' := fun i => i ∈ wr ∨ i ∈ df') fun i hi => .inl hi
   simpa using this
  have cr := (CallRun.of_marks hf hb run hx1 ht (fun d hd => .inr hd) hv).old
  refine ⟨v, h₂, oldOf h.n wr, cr.weak fun i hi => ?_, he⟩
  rcases hi with ⟨hi | hi, hlt⟩
  · simp [oldOf, hi, hlt]
  · have := hdf i hi; omega
theorem LoopRun.weak {W W' : Nat → Prop} {q : Bool} {c : Code} {s s' : ASt} {x : Exit} (k : LoopRun P W q c s x s') (hw : ∀ i, W i → W' i) : LoopRun P W' q c s x s' := by
 induction k with
 | out h hx => exact .out (h.weak hw) hx
 | more h _ ih => exact .more (h.weak hw) ih
def ELOk (P : Program) (E : CodeK A) : Prop := ∀ q N c ft df h K a, E q N (.loop c) ft df h K = some a → ∀ tm : List Value, tm.length = N → Rep ft tm → ∃ x tm' ft' df' h' wr, tm'.length = N ∧ Rep ft' tm' ∧ LoopRun P (· ∈ wr) q c ⟨tm, df, h⟩ x ⟨tm', df', h'⟩ ∧ K x ft' df' h' wr = some a
theorem isNormal_no {x : Exit} (h : isNormal x = false) : x ≠ .normal := fun e => by subst e; cases h
theorem isNormal_yes {x : Exit} (h : isNormal x = true) : x = .normal := by cases x <;> first | rfl | cases h
theorem loop_sound (hE : EKOk P E) (hL : ELOk P E) (q : Bool) (N : Nat) (c : Code) (ft : BT) (df : List Nat) (h : AHeap) (K : KC A) (a : A) (he : cLoop c P S E q N ft df h K = some a) (tm : List Value) (hN : tm.length = N) (hr : Rep ft tm) :
  ∃ x tm' ft' df' h' wr, tm'.length = N ∧ Rep ft' tm' ∧ LoopRun P (· ∈ wr) q c ⟨tm, df, h⟩ x ⟨tm', df', h'⟩ ∧ K x ft' df' h' wr = some a := by
 obtain ⟨x, tm₁, ft₁, df₁, h₁, wr, g1, g2, g3, he⟩ := hE _ _ _ _ _ _ _ _ he tm hN hr
 rcases ifK_inv he with ⟨hx, he⟩ | ⟨hx, he⟩
 ·
  obtain rfl := isNormal_yes hx
  obtain ⟨x₂, tm₂, ft₂, df₂, h₂, wr₂, k1, k2, k3, he⟩ := hL _ _ _ _ _ _ _ _ he tm₁ g1 g2
  exact ⟨x₂, tm₂, ft₂, df₂, h₂, _, k1, k2, .more (g3.weak fun i hi => by simp [show i ∈ wr from hi]) (k3.weak fun i hi => by simp [show i ∈ wr₂ from hi]), he⟩
 · exact ⟨x, tm₁, ft₁, df₁, h₁, wr, g1, g2, .out g3 (isNormal_no hx), he⟩
theorem range_sound (hS : SOk P S) (hE : EKOk P E) (q : Bool) (N : Nat) (g : Operand) (ps : Array Tmp) (asg bo : Code) (ft : BT) (df : List Nat) (h : AHeap) (K : KC A) (a : A) (he : cRange g ps asg bo P S E q N ft df h K = some a) (tm : List Value) (hN : tm.length = N) (hr : Rep ft tm) :
  ∃ x tm' ft' df' h' wr, tm'.length = N ∧ Rep ft' tm' ∧ Run P (· ∈ wr) q (.rangeFunc g ps asg bo) ⟨tm, df, h⟩ x ⟨tm', df', h'⟩ ∧ K x ft' df' h' wr = some a := by
 unfold cRange at he
 rw [evalF_eq hr] at he
 generalize hf : evalT tm g = v at he
 cases v with
 | func fn first cap =>
  cases fn with
  | func f =>
   rcases ifK_inv he with ⟨_, he⟩ | ⟨hq, he⟩
   · cases he
   ·
    subst hq
    obtain ⟨hc, he⟩ := ifK_yes he
    obtain ⟨ho, he⟩ := ifK_yes he
    obtain ⟨fn, h1, h2, h3⟩ := calls_spec hc
    have etm : toL ft N 0 = tm := by rw [toL_eq hr N 0 (by rw [hN]; omega)]; rfl
    rw [forceL_eq, etm, hpushK_eq, hpushK_eq] at he
    obtain ⟨v, h₃, wr, cr, he⟩ := callK_sound hS hE _ _ _ _ _ he
    split at he
    ·
     rename_i st pe tm' ps' as' bo' df' hl
     rw [hget_eq] at hl
     split at he
     ·
      rename_i x hst hx
      rw [hputK_eq] at he
      have cr' := cr.weak (W' := fun i => i ∈ (h.n + 1) :: wr) fun i hi => by simp [show i ∈ wr from hi]
      have e : (first.toList ++ [Value.func (.yield (h.n + 1)) #[] #[]] ++ cap.toList).toArray = first ++ #[.func (.yield (h.n + 1)) #[] #[]] ++ cap := by
       apply Array.toList_inj.1
       simp
      rw [e] at cr'
      exact ⟨x, tm, ft, _, _, _, hN, hr, Run.rangeFunc (s := ⟨tm, df, h⟩) ho hf h1 h2 h3 cr' hl hst hx (by simp), he⟩
     · cases he
    · cases he
  | _ => cases he
 | _ => cases he
theorem fev_sound (hS : SOk P S) : ∀ n, EKOk P (fev (A := A) P S n) ∧ ELOk P (fev (A := A) P S n)
 | 0 => ⟨(fun q N c ft df h K a he => by cases he), (fun q N c ft df h K a he => by cases he)⟩
 | n + 1 => by
  obtain ⟨hE, hL⟩ := fev_sound hS n
  have loop := loop_sound (S := S) hE hL
  refine ⟨fun q N c ft df h K a he tm hN hr => ?_, fun q N c ft df h K a he tm hN hr => loop q N c ft df h K a he tm hN hr⟩
  cases c with
  | skip => exact ⟨.normal, tm, ft, df, h, [], hN, hr, .skip, he⟩
  | label l => exact ⟨.normal, tm, ft, df, h, [], hN, hr, .label l, he⟩
  | ret => exact ⟨.ret, tm, ft, df, h, [], hN, hr, .ret, he⟩
  | exit id => exact ⟨.exit id, tm, ft, df, h, [], hN, hr, .exit id, he⟩
  | region id ops draw => exact regionK_sound (callK_sound hS hE) hE he tm hN hr
  | seq c₁ c₂ =>
   have he : cSeq c₁ c₂ P S (fev P S n) q N ft df h K = some a := he
   obtain ⟨x, tm₁, ft₁, df₁, h₁, wr, g1, g2, g3, he⟩ := hE _ _ _ _ _ _ _ _ he tm hN hr
   rcases ifK_inv he with ⟨hx, he⟩ | ⟨hx, he⟩
   ·
    obtain rfl := isNormal_yes hx
    obtain ⟨x₂, tm₂, ft₂, df₂, h₂, wr₂, k1, k2, k3, he⟩ := hE _ _ _ _ _ _ _ _ he tm₁ g1 g2
    exact ⟨x₂, tm₂, ft₂, df₂, h₂, _, k1, k2, .seq (g3.weak fun i hi => by simp [show i ∈ wr from hi]) (k3.weak fun i hi => by simp [show i ∈ wr₂ from hi]), he⟩
   · exact ⟨x, tm₁, ft₁, df₁, h₁, wr, g1, g2, .seq_out g3 (isNormal_no hx), he⟩
  | cond o c₁ c₂ =>
   have he : cCond o c₁ c₂ P S (fev P S n) q N ft df h K = some a := he
   unfold cCond at he
   rw [evalF_eq hr] at he
   obtain ⟨t, h1, he⟩ := boolK_inv he
   rcases ifK_inv he with ⟨rfl, he⟩ | ⟨rfl, he⟩
   ·
    obtain ⟨x, tm₁, ft₁, df₁, h₁, wr, g1, g2, g3, he⟩ := hE _ _ _ _ _ _ _ _ he tm hN hr
    exact ⟨x, tm₁, ft₁, df₁, h₁, wr, g1, g2, .cond_true h1 g3, he⟩
   ·
    obtain ⟨x, tm₁, ft₁, df₁, h₁, wr, g1, g2, g3, he⟩ := hE _ _ _ _ _ _ _ _ he tm hN hr
    exact ⟨x, tm₁, ft₁, df₁, h₁, wr, g1, g2, .cond_false h1 g3, he⟩
  | block id c =>
   have he : cBlock id c P S (fev P S n) q N ft df h K = some a := he
   obtain ⟨x, tm₁, ft₁, df₁, h₁, wr, g1, g2, g3, he⟩ := hE _ _ _ _ _ _ _ _ he tm hN hr
   exact ⟨_, tm₁, ft₁, df₁, h₁, wr, g1, g2, .block g3, he⟩
  | loop c =>
   obtain ⟨x, tm₁, ft₁, df₁, h₁, wr, g1, g2, g3, he⟩ := loop q N c ft df h K a he tm hN hr
   exact ⟨x, tm₁, ft₁, df₁, h₁, wr, g1, g2, .loop g3, he⟩
  | rangeFunc g ps asg bo => exact range_sound hS hE q N g ps asg bo ft df h K a he tm hN hr
  | scope c =>
   have he : cScope c P S (fev P S n) q N ft df h K = some a := he
   obtain ⟨x, tm₁, ft₁, df₁, h₁, wr, g1, g2, g3, he⟩ := hE _ _ _ _ _ _ _ _ he tm hN hr
   rcases ifK_inv he with ⟨_, he⟩ | ⟨hx, he⟩
   · cases he
   · exact ⟨x, tm₁, ft₁, df₁, h₁, wr, g1, g2, Run.scope g3 (fun l e => by subst e; cases hx), he⟩
  | goto l => cases he
  | refuse why => cases he
theorem callRun_of (hS : SOk P S) {n : Nat} {f : FuncId} {args : List Value} {h : AHeap} {K : Value → AHeap → List Nat → Option A} (he : callK P S (fev P S n) f args h K = some a) : ∃ v h' wr, CallRun P (· ∈ wr) f args.toArray h v h' ∧ K v h' wr = some a :=
 callK_sound hS (fev_sound hS n).1 _ _ _ _ _ he
end
def emptyH : AHeap := ⟨0, .nil⟩
theorem hrel_empty (P : Program) (D : Nat → Prop) (w : World) : HRel P (fun _ => none) D emptyH w :=
 ⟨(fun i l e => by cases e), (fun i l c t e => by cases e), (fun i j l k e => by cases e), (fun i l c e => by cases e), (fun i l o _ e => by cases e)⟩
end Go.Proofs.YtncbbeghkpjpbaaDoor
namespace Go.Proofs.YtncbbeghkpjpbaaDoor
abbrev Ov := List (Nat × Value)
def Ov.find : Ov → Nat → Option Value
 | [], _ => none
 | (i, v) :: r, t => cond (Nat.beq i t) (some v) (Ov.find r t)
def Rp (ov : Ov) (tm : List Value) : Prop := ∀ t v, ov.find t = some v → tm.getD t undef = v
def evO (ov : Ov) : Operand → Option Value
 | .tmp t => ov.find t
 | .const v => some v
 | .global g => some (.pointer (some ⟨g, 0, none⟩))
 | .func f => some (.func (.func f) #[] #[])
theorem evO_eq {ov : Ov} {tm : List Value} (hr : Rp ov tm) {x : Operand} {v : Value} (he : evO ov x = some v) : evalT tm x = v := by
 cases x with
 | tmp t => exact hr t v he
 | _ => simp only [evO, Option.some.injEq] at he; subst he; rfl
def evOs (ov : Ov) : List Operand → Option (List Value)
 | [] => some []
 | x :: xs => match evO ov x, evOs ov xs with
  | some v, some vs => some (v :: vs)
  | _, _ => none
theorem evOs_eq {ov : Ov} {tm : List Value} (hr : Rp ov tm) : ∀ {xs : List Operand} {vs : List Value}, evOs ov xs = some vs → xs.map (evalT tm) = vs
 | [], vs, h => by simp only [evOs, Option.some.injEq] at h; subst h; rfl
 | x :: xs, vs, h => by
  unfold evOs at h
  split at h
  · rename_i v vs' h1 h2; cases h; simp [evO_eq hr h1, evOs_eq hr h2]
  · cases h
def evPs (ov : Ov) : List (Nat × Operand) → Option (List (Nat × Value))
 | [] => some []
 | (i, x) :: xs => match evO ov x, evPs ov xs with
  | some v, some vs => some ((i, v) :: vs)
  | _, _ => none
theorem evPs_eq {ov : Ov} {tm : List Value} (hr : Rp ov tm) : ∀ {xs : List (Nat × Operand)} {vs : List (Nat × Value)}, evPs ov xs = some vs → (xs.map fun p => (p.1, evalT tm p.2)) = vs
 | [], vs, h => by simp only [evPs, Option.some.injEq] at h; subst h; rfl
 | (i, x) :: xs, vs, h => by
  unfold evPs at h
  split at h
  · rename_i v vs' h1 h2; cases h; simp [evO_eq hr h1, evPs_eq hr h2]
  · cases h
def dOk (d : Nat) (N : Nat) : Bool := Nat.ble (Nat.succ d) N
theorem Rp.put {ov : Ov} {tm : List Value} {N d : Nat} (hr : Rp ov tm) (hN : tm.length = N) (hd : dOk d N = true) (v : Value) : Rp ((d, v) :: ov) (putT tm (some d) v) := by
 intro t u h
 have hlt : d < tm.length := by rw [hN]; exact Nat.le_of_ble_eq_true hd
 simp only [Ov.find] at h
 simp only [putT, List.getD_eq_getElem?_getD, List.getElem?_set]
 by_cases e : d = t
 ·
  subst e
  have : Nat.beq d d = true := Nat.beq_refl d
  rw [this] at h
  simp at h
  simp [hlt, h]
 ·
  have : Nat.beq d t = false := by
   cases hb : Nat.beq d t with
   | false => rfl
   | true => exact absurd (Nat.eq_of_beq_eq_true hb) e
  rw [this] at h
  simp only [cond_false] at h
  rw [if_neg e]
  have := hr t u h
  rwa [List.getD_eq_getElem?_getD] at this
def Ov.sub (ov : Ov) : Ov → Prop
 | [] => True
 | (i, v) :: r => ov.find i = some v ∧ Ov.sub ov r
theorem Rp.sub {tm : List Value} {ov : Ov} (hr : Rp ov tm) : ∀ {ov' : Ov}, Ov.sub ov ov' → Rp ov' tm
 | [], _ => fun t v h => by cases h
 | (i, u) :: r, hs => fun t v h => by
  simp only [Ov.find] at h
  cases hb : Nat.beq i t with
  | true =>
   rw [hb] at h
   simp only [cond_true, Option.some.injEq] at h
   subst h
   have := Nat.eq_of_beq_eq_true hb
   subst this
   exact hr _ _ hs.1
  | false => rw [hb] at h; exact Rp.sub hr hs.2 t v h
structure LE where
 n : Nat
 n' : Nat
 rd : List Nat
 wr : List Nat
 all : Bool
 same : Bool
inductive It where
 | code (c : Code)
 | leave (id : Nat)
 | sc
 | back (R : List Value → List Nat → AHeap → Prop)
 | soft (R : List (Option LE) → Prop)
abbrev PQ := Exit → List Value → List Nat → AHeap → Prop
def Gx (P : Program) (W : Nat → Prop) (q : Bool) : List It → Exit → List Value → List Nat → AHeap → PQ → Prop
 | [], x, tm, df, h, Q => Q x tm df h
 | .leave id :: k, x, tm, df, h, Q => Gx P W q k (Exit.leave id x) tm df h Q
 | .sc :: k, x, tm, df, h, Q => (∀ l, x ≠ .goto l) ∧ Gx P W q k x tm df h Q
 | .back R :: k, x, tm, df, h, Q => (x = .normal → R tm df h) ∧ (x ≠ .normal → Gx P W q k x tm df h Q)
 | .soft _ :: k, x, tm, df, h, Q => Gx P W q k x tm df h Q
 | .code c :: k, x, tm, df, h, Q => (x = .normal → ∃ x' tm' df' h', Run P W q c ⟨tm, df, h⟩ x' ⟨tm', df', h'⟩ ∧ tm'.length = tm.length ∧ Gx P W q k x' tm' df' h' Q) ∧ (x ≠ .normal → Gx P W q k x tm df h Q)
def Go (P : Program) (W : Nat → Prop) (q : Bool) (N : Nat) (k : List It) (x : Exit) (ov : Ov) (df : List Nat) (h : AHeap) (Q : PQ) : Prop :=
 ∀ tm : List Value, tm.length = N → Rp ov tm → Gx P W q k x tm df h Q
section
variable {P : Program} {W : Nat → Prop} {q : Bool} {N : Nat} {k : List It} {x : Exit} {ov : Ov} {df : List Nat} {h : AHeap} {Q : PQ}
theorem Go.skip_code {c : Code} (hx : x ≠ .normal) (g : Go P W q N k x ov df h Q) : Go P W q N (.code c :: k) x ov df h Q := fun tm hN hr => ⟨fun e => absurd e hx, fun _ => g tm hN hr⟩
theorem Go.code {c : Code} (g : ∀ tm : List Value, tm.length = N → Rp ov tm → ∃ x' tm' df' h', Run P W q c ⟨tm, df, h⟩ x' ⟨tm', df', h'⟩ ∧ tm'.length = tm.length ∧ Gx P W q k x' tm' df' h' Q) : Go P W q N (.code c :: k) .normal ov df h Q := fun tm hN hr => ⟨fun _ => g tm hN hr, fun e => absurd rfl e⟩
theorem Go.skip (g : Go P W q N k .normal ov df h Q) : Go P W q N (.code .skip :: k) .normal ov df h Q := Go.code fun tm hN hr => ⟨_, _, _, _, .skip, rfl, g tm hN hr⟩
theorem Go.label {l : Nat} (g : Go P W q N k .normal ov df h Q) : Go P W q N (.code (.label l) :: k) .normal ov df h Q := Go.code fun tm hN hr => ⟨_, _, _, _, .label l, rfl, g tm hN hr⟩
theorem Go.ret (g : Go P W q N k .ret ov df h Q) : Go P W q N (.code .ret :: k) .normal ov df h Q := Go.code fun tm hN hr => ⟨_, _, _, _, .ret, rfl, g tm hN hr⟩
theorem Go.exit {id : Nat} (g : Go P W q N k (.exit id) ov df h Q) : Go P W q N (.code (.exit id) :: k) .normal ov df h Q := Go.code fun tm hN hr => ⟨_, _, _, _, .exit id, rfl, g tm hN hr⟩
theorem Go.seq {a b : Code} (g : Go P W q N (.code a :: .code b :: k) .normal ov df h Q) : Go P W q N (.code (.seq a b) :: k) .normal ov df h Q := Go.code fun tm hN hr => by
 obtain ⟨x₁, tm₁, df₁, h₁, r₁, n₁, g₁⟩ := (g tm hN hr).1 rfl
 by_cases hx : x₁ = .normal
 ·
  obtain ⟨x₂, tm₂, df₂, h₂, r₂, n₂, g₂⟩ := g₁.1 hx
  subst hx
  exact ⟨x₂, tm₂, df₂, h₂, .seq r₁ r₂, n₂.trans n₁, g₂⟩
 · exact ⟨x₁, tm₁, df₁, h₁, .seq_out r₁ hx, n₁, g₁.2 hx⟩
theorem Go.cond_t {o : Operand} {a b : Code} {B : Bool} (ho : evO ov o = some (.bool B)) (hB : B = true) (g : Go P W q N (.code a :: k) .normal ov df h Q) : Go P W q N (.code (.cond o a b) :: k) .normal ov df h Q := Go.code fun tm hN hr => by
 obtain ⟨x₁, tm₁, df₁, h₁, r₁, n₁, g₁⟩ := (g tm hN hr).1 rfl
 subst hB
 exact ⟨x₁, tm₁, df₁, h₁, .cond_true (evO_eq hr ho) r₁, n₁, g₁⟩
theorem Go.cond_f {o : Operand} {a b : Code} {B : Bool} (ho : evO ov o = some (.bool B)) (hB : B = false) (g : Go P W q N (.code b :: k) .normal ov df h Q) : Go P W q N (.code (.cond o a b) :: k) .normal ov df h Q := Go.code fun tm hN hr => by
 obtain ⟨x₁, tm₁, df₁, h₁, r₁, n₁, g₁⟩ := (g tm hN hr).1 rfl
 subst hB
 exact ⟨x₁, tm₁, df₁, h₁, .cond_false (evO_eq hr ho) r₁, n₁, g₁⟩
theorem Go.cond {o : Operand} {a b : Code} {B : Bool} (ho : evO ov o = some (.bool B)) (g1 : B = true → Go P W q N (.code a :: k) .normal ov df h Q) (g2 : B = false → Go P W q N (.code b :: k) .normal ov df h Q) : Go P W q N (.code (.cond o a b) :: k) .normal ov df h Q := by
 cases B with
 | true => exact Go.cond_t ho rfl (g1 rfl)
 | false => exact Go.cond_f ho rfl (g2 rfl)
theorem Go.block {id : Nat} {c : Code} (g : Go P W q N (.code c :: .leave id :: k) .normal ov df h Q) : Go P W q N (.code (.block id c) :: k) .normal ov df h Q := Go.code fun tm hN hr => by
 obtain ⟨x₁, tm₁, df₁, h₁, r₁, n₁, g₁⟩ := (g tm hN hr).1 rfl
 exact ⟨_, tm₁, df₁, h₁, .block r₁, n₁, g₁⟩
theorem Go.scope {c : Code} (g : Go P W q N (.code c :: .sc :: k) .normal ov df h Q) : Go P W q N (.code (.scope c) :: k) .normal ov df h Q := Go.code fun tm hN hr => by
 obtain ⟨x₁, tm₁, df₁, h₁, r₁, n₁, g₁⟩ := (g tm hN hr).1 rfl
 exact ⟨_, tm₁, df₁, h₁, .scope r₁ g₁.1, n₁, g₁.2⟩
theorem Go.sc (hx : ∀ l, x ≠ .goto l) (g : Go P W q N k x ov df h Q) : Go P W q N (.sc :: k) x ov df h Q := fun tm hN hr => ⟨hx, g tm hN hr⟩
theorem Go.sc_normal (g : Go P W q N k .normal ov df h Q) : Go P W q N (.sc :: k) .normal ov df h Q := .sc (fun _ e => by cases e) g
theorem Go.sc_ret (g : Go P W q N k .ret ov df h Q) : Go P W q N (.sc :: k) .ret ov df h Q := .sc (fun _ e => by cases e) g
theorem Go.sc_exit {id : Nat} (g : Go P W q N k (.exit id) ov df h Q) : Go P W q N (.sc :: k) (.exit id) ov df h Q := .sc (fun _ e => by cases e) g
theorem Go.leave_normal {id : Nat} (g : Go P W q N k .normal ov df h Q) : Go P W q N (.leave id :: k) .normal ov df h Q := g
theorem Go.leave_ret {id : Nat} (g : Go P W q N k .ret ov df h Q) : Go P W q N (.leave id :: k) .ret ov df h Q := g
theorem Go.leave_same {id : Nat} (g : Go P W q N k .normal ov df h Q) : Go P W q N (.leave id :: k) (.exit id) ov df h Q := fun tm hN hr => by
 have := g tm hN hr
 simpa [Gx, Exit.leave] using this
theorem Go.leave_other {id id' : Nat} (he : Nat.beq id id' = false) (g : Go P W q N k (.exit id') ov df h Q) : Go P W q N (.leave id :: k) (.exit id') ov df h Q := fun tm hN hr => by
 have := g tm hN hr
 have hne : id ≠ id' := fun e => by subst e; rw [Nat.beq_refl] at he; cases he
 have hne' : id' ≠ id := fun e => hne e.symm
 simp only [Gx, Exit.leave]
 first | (rw [if_neg hne]; exact this) | (rw [if_neg hne']; exact this) | (simpa [hne, hne'] using this)
theorem Go.exit_code {id : Nat} {c : Code} (g : Go P W q N k (.exit id) ov df h Q) : Go P W q N (.code c :: k) (.exit id) ov df h Q := .skip_code (by intro e; cases e) g
theorem Go.ret_code {c : Code} (g : Go P W q N k .ret ov df h Q) : Go P W q N (.code c :: k) .ret ov df h Q := .skip_code (by intro e; cases e) g
theorem Go.exit_back {id : Nat} {R : List Value → List Nat → AHeap → Prop} (g : Go P W q N k (.exit id) ov df h Q) : Go P W q N (.back R :: k) (.exit id) ov df h Q := fun tm hN hr => ⟨(fun e => by cases e), fun _ => g tm hN hr⟩
theorem Go.ret_back {R : List Value → List Nat → AHeap → Prop} (g : Go P W q N k .ret ov df h Q) : Go P W q N (.back R :: k) .ret ov df h Q := fun tm hN hr => ⟨(fun e => by cases e), fun _ => g tm hN hr⟩
theorem Go.done (g : ∀ tm : List Value, tm.length = N → Rp ov tm → Q x tm df h) : Go P W q N [] x ov df h Q := fun tm hN hr => g tm hN hr
def Round {α : Type} (fr : α → Ov) (dfs : α → List Nat) (hp : α → AHeap) (I : α → Prop) (ms : α → Nat) (n : Nat) : List Value → List Nat → AHeap → Prop := fun tm df h => ∃ a, I a ∧ ms a < n ∧ Rp (fr a) tm ∧ df = dfs a ∧ h = hp a
theorem Go.loop {α : Type} (fr : α → Ov) (dfs : α → List Nat) (hp : α → AHeap) (I : α → Prop) (ms : α → Nat) (a₀ : α) {c : Code}
  (h0 : I a₀) (hs : Ov.sub ov (fr a₀)) (hd : df = dfs a₀) (hh : h = hp a₀)
  (round : ∀ a, I a → Go P W q N (.code c :: .back (Round fr dfs hp I ms (ms a)) :: k) .normal (fr a) (dfs a) (hp a) Q) : Go P W q N (.code (.loop c) :: k) .normal ov df h Q := by
 refine Go.code fun tm hN hr => ?_
 have main : ∀ (n : Nat) (a : α), ms a < n → I a → ∀ tm : List Value, tm.length = N → Rp (fr a) tm → ∃ x' tm' df' h', LoopRun P W q c ⟨tm, dfs a, hp a⟩ x' ⟨tm', df', h'⟩ ∧ tm'.length = tm.length ∧ Gx P W q k x' tm' df' h' Q := by
  intro n
  induction n with
  | zero => intro a hlt; omega
  | succ n ih =>
   intro a hlt ha tm hN hr
   obtain ⟨x₁, tm₁, df₁, h₁, r₁, n₁, g₁⟩ := (round a ha tm hN hr).1 rfl
   by_cases hx : x₁ = .normal
   ·
    obtain ⟨b, hb, hm, hrb, e1, e2⟩ := g₁.1 hx
    subst hx e1 e2
    obtain ⟨x₂, tm₂, df₂, h₂, r₂, n₂, g₂⟩ := ih b (by omega) hb tm₁ (n₁.trans hN) hrb
    exact ⟨x₂, tm₂, df₂, h₂, .more r₁ r₂, n₂.trans n₁, g₂⟩
   · exact ⟨x₁, tm₁, df₁, h₁, .out r₁ hx, n₁, g₁.2 hx⟩
 subst hd hh
 obtain ⟨x₂, tm₂, df₂, h₂, r₂, n₂, g₂⟩ := main (ms a₀ + 1) a₀ (by omega) h0 tm hN (hr.sub hs)
 exact ⟨x₂, tm₂, df₂, h₂, .loop r₂, n₂, g₂⟩
theorem Go.again {α : Type} {fr : α → Ov} {dfs : α → List Nat} {hp : α → AHeap} {I : α → Prop} {ms : α → Nat} {n : Nat} (a : α) (ha : I a) (hm : ms a < n) (hs : Ov.sub ov (fr a)) (hd : df = dfs a) (hh : h = hp a) : Go P W q N (.back (Round fr dfs hp I ms n) :: k) .normal ov df h Q := fun tm hN hr => ⟨fun _ => ⟨a, ha, hm, hr.sub hs, hd, hh⟩, fun e => absurd rfl e⟩
end
def RdP (P : Program) (W : Nat → Prop) (ops : Array Oper) : List Oper → List Value → AHeap → (List Value → AHeap → List (Nat × OR) → Prop) → Prop
 | [], tm, h, C => C tm h []
 | o :: os, tm, h, C => ∃ r : OR, ((Region.wanted o (yielded ops tm.toArray) = true ∧ OpOk P o tm h r ∧ ∀ i ∈ r.wr, W i) ∨ (Region.wanted o (yielded ops tm.toArray) = false ∧ r = ⟨undef, h, [], [], false, true⟩)) ∧ RdP P W ops os (putT tm o.dst r.v) r.h fun tm' h' l => C tm' h' ((h.n, r) :: l)
theorem RdP.mono {P : Program} {W : Nat → Prop} {ops : Array Oper} : ∀ {os : List Oper} {tm : List Value} {h : AHeap} {C C' : List Value → AHeap → List (Nat × OR) → Prop}, RdP P W ops os tm h C → (∀ tm h l, C tm h l → C' tm h l) → RdP P W ops os tm h C'
 | [], _, _, _, _, k, hc => hc _ _ _ k
 | _ :: _, _, _, _, _, ⟨r, h1, h2⟩, hc => ⟨r, h1, RdP.mono h2 fun _ _ _ k => hc _ _ _ k⟩
section
variable {P : Program} {W : Nat → Prop} {ops : Array Oper}
theorem RdP.inOrder : ∀ {os : List Oper} {k : Nat} {tm : List Value} {h : AHeap} {C : List Value → AHeap → List (Nat × OR) → Prop}, ops.toList.drop k = os → RdP P W ops os tm h C → ∃ tm' h' l, C tm' h' l ∧ tm'.length = tm.length ∧ OpsRun P W ops (List.range' k os.length) tm h tm' h'
 | [], k, tm, h, C, hd, hk => ⟨tm, h, [], hk, rfl, .nil⟩
 | o :: os, k, tm, h, C, hd, hk => by
  obtain ⟨r, h1, h2⟩ := hk
  have hd' : ops.toList.drop (k + 1) = os := by rw [← List.drop_drop, hd]; rfl
  have ho : ops[k]? = some o := by
   have : (ops.toList.drop k)[0]? = some o := by rw [hd]; rfl
   simpa using this
  obtain ⟨tm', h', l, g1, g2, g3⟩ := RdP.inOrder hd' h2
  refine ⟨tm', h', _, g1, by rw [g2, putT_len], ?_⟩
  simp only [List.length_cons, List.range'_succ]
  rcases h1 with ⟨hw, hk, hW⟩ | ⟨hw, rfl⟩
  · exact .op ho hw (hk.ev hW) g3
  · exact .skip ho hw g3
theorem RdP.trace : ∀ {os : List Oper} {k : Nat} {tm : List Value} {h : AHeap} {C : List Value → AHeap → List (Nat × OR) → Prop}, ops.toList.drop k = os → RdP P W ops os tm h C →
  ∃ (tm' : List Value) (h' : AHeap) (ts : List Tr1), C tm' h' (ts.map fun t => (t.h.n, t.r)) ∧ tm'.length = tm.length ∧ ts.length = os.length ∧
   (∀ j t, ts[j]? = some t → ∃ o, ops[k + j]? = some o ∧ ((Region.wanted o (yielded ops t.tm.toArray) = true ∧ OpOk P o t.tm t.h t.r ∧ ∀ i ∈ t.r.wr, W i) ∨ (Region.wanted o (yielded ops t.tm.toArray) = false ∧ t.r = ⟨undef, t.h, [], [], false, true⟩)) ∧
    (match ts[j + 1]? with | some u => u.tm = putT t.tm o.dst t.r.v ∧ u.h = t.r.h | none => tm' = putT t.tm o.dst t.r.v ∧ h' = t.r.h)) ∧
   (match ts[0]? with | some t => t.tm = tm ∧ t.h = h | none => tm' = tm ∧ h' = h)
 | [], k, tm, h, C, hd, hk => ⟨tm, h, [], hk, rfl, rfl, fun j t e => by simp at e, by simp⟩
 | o :: os, k, tm, h, C, hd, hk => by
  obtain ⟨r, h1, h2⟩ := hk
  have hd' : ops.toList.drop (k + 1) = os := by rw [← List.drop_drop, hd]; rfl
  have ho : ops[k]? = some o := by
   have : (ops.toList.drop k)[0]? = some o := by rw [hd]; rfl
   simpa using this
  obtain ⟨tm', h', ts, g1, g2, g3, g4, g5⟩ := RdP.trace hd' h2
  refine ⟨tm', h', ⟨tm, h, r⟩ :: ts, g1, by rw [g2, putT_len], by simp [g3], fun j t e => ?_, ⟨rfl, rfl⟩⟩
  cases j with
  | zero =>
   simp only [List.getElem?_cons_zero, Option.some.injEq] at e
   subst e
   refine ⟨o, ho, h1, ?_⟩
   simp only [List.getElem?_cons_succ]
   exact g5
  | succ j =>
   simp only [List.getElem?_cons_succ] at e
   obtain ⟨o', a1, a2, a3⟩ := g4 j t e
   refine ⟨o', by rw [show k + (j + 1) = k + 1 + j from by omega]; exact a1, a2, ?_⟩
   simp only [List.getElem?_cons_succ]
   exact a3
end
end Go.Proofs.YtncbbeghkpjpbaaDoor
namespace Go.Proofs.YtncbbeghkpjpbaaDoor
section
variable {P : Program} {Wt : Nat → Prop} {ops : Array Oper}
theorem Run.drawn {id : Nat} {df : List Nat} {h h' : AHeap} {q : Bool} {tm tm' : List Value} {ts : List Tr1} (hd : drawOk P ops = true) (hl : loudOkF ops (ts.map fun t => (t.h.n, t.r)) (ts.map fun t => (t.h.n, t.r)) 0 = true) (hlen : ts.length = ops.size)
  (g5 : ∀ j t, ts[j]? = some t → ∃ o, ops[0 + j]? = some o ∧ ((Region.wanted o (yielded ops t.tm.toArray) = true ∧ OpOk P o t.tm t.h t.r ∧ ∀ i ∈ t.r.wr, Wt i) ∨ (Region.wanted o (yielded ops t.tm.toArray) = false ∧ t.r = ⟨undef, t.h, [], [], false, true⟩)) ∧
    (match ts[j + 1]? with | some u => u.tm = putT t.tm o.dst t.r.v ∧ u.h = t.r.h | none => tm' = putT t.tm o.dst t.r.v ∧ h' = t.r.h))
  (g6 : match ts[0]? with | some t => t.tm = tm ∧ t.h = h | none => tm' = tm ∧ h' = h) : Run P Wt q (.region id ops true) ⟨tm, df, h⟩ .normal ⟨tm', df, h'⟩ := by
 unfold drawOk at hd
 simp only [Bool.and_eq_true] at hd
 obtain ⟨⟨⟨hmix, hops⟩, hap⟩, hed⟩ := hd
 let T : Nat → List Value := fun k => match ts[k]? with | some t => t.tm | none => tm'
 let H : Nat → AHeap := fun k => match ts[k]? with | some t => t.h | none => h'
 let V : Nat → Value := fun k => match ts[k]? with | some t => t.r.v | none => undef
 let R : Nat → OR := fun k => match ts[k]? with | some t => t.r | none => ⟨undef, h', [], [], false, true⟩
 let D : Nat → Nat → Prop := fun k i => (R k).all = true ∨ i ∈ (R k).rd ∨ i ∈ (R k).wr ∨ ((H k).n ≤ i ∧ i < (H (k + 1)).n)
 let W : Nat → Nat → Prop := fun k i => i ∈ (R k).wr ∧ i < (H k).n
 let L : Nat → Prop := fun k => oldOf (H k).n (R k).wr ≠ []
 have at_ : ∀ k o, ops[k]? = some o → ∃ t, ts[k]? = some t ∧ T k = t.tm ∧ H k = t.h ∧ V k = t.r.v ∧ R k = t.r := fun k o ho => by
  have hlt : k < ts.length := by rw [hlen]; exact (Array.getElem?_eq_some_iff.1 ho).1
  have e : ts[k]? = some ts[k] := List.getElem?_eq_getElem hlt
  exact ⟨ts[k], e, by simp only [T, e], by simp only [H, e], by simp only [V, e], by simp only [R, e]⟩
 have nextT : ∀ k t o, ts[k]? = some t → ops[k]? = some o → T (k + 1) = putT t.tm o.dst t.r.v ∧ H (k + 1) = t.r.h := fun k t o e ho => by
  obtain ⟨o', a1, _, a3⟩ := g5 k t e
  rw [Nat.zero_add, ho] at a1
  cases a1
  cases hn : ts[k + 1]? with
  | none => rw [hn] at a3; simp only [T, H, hn]; exact a3
  | some u => rw [hn] at a3; simp only [T, H, hn]; exact a3
 have old_mem : ∀ k i, i ∈ (R k).wr → i < (H k).n → i ∈ oldOf (H k).n (R k).wr := fun k i h1 h2 => by simp [oldOf, h1, h2]
 have tr : Trace P ops T H V D W L := {
  step := fun k o ho => by
   obtain ⟨t, e, e1, e2, e3, e4⟩ := at_ k o ho
   obtain ⟨o', a1, a2, _⟩ := g5 k t e
   rw [Nat.zero_add, ho] at a1
   cases a1
   have nx := nextT k t o e ho
   rcases a2 with ⟨hw, hk, _⟩ | ⟨hw, hk⟩
   ·
    refine .inl ⟨by rw [e1]; exact hw, ?_⟩
    rw [e1, e2, e3, nx.2]
    have hk2 : OpRun P (D k) (fun i => i ∈ (R k).wr) o t.tm t.h t.r.v t.r.h := ?_
    ·
     have := hk2.old
     rw [← e2] at this
     rw [← e2]
     exact this
    refine hk.2 (D k) (fun i => i ∈ (R k).wr) (fun hall => ?_) (fun i hi => ?_) fun i hi => ⟨?_, ?_⟩
    ·
     funext i
     apply propext
     exact ⟨fun _ => trivial, fun _ => .inl (by rw [e4]; exact hall)⟩
    · exact .inr (.inl (by rw [e4]; exact hi))
    · exact .inr (.inr (.inl (by rw [e4]; exact hi)))
    ·
     show i ∈ (R k).wr
     rw [e4]; exact hi
   · refine .inr (.inl ⟨by rw [e1]; exact hw, by rw [e3, hk], by rw [nx.2, hk, e2]⟩)
  tm := fun k o ho => by
   obtain ⟨t, e, e1, e2, e3, e4⟩ := at_ k o ho
   rw [(nextT k t o e ho).1, e1, e3]
  own := fun k hl i hi => by
   apply Classical.byContradiction
   intro hlt
   have := old_mem k i hi.1 hi.2
   exact hl fun e => by rw [e] at this; cases this
  new := fun k i h1 h2 => .inr (.inr (.inr ⟨h1, h2⟩))
  rw := fun k i _ hi => .inr (.inr (.inl hi.1))
  apart := fun i j oi oj hij hi hj => by
   have h1 := apartAll_spec ops.toList 0 hap j oj (by simpa using hj)
   rw [Nat.zero_add] at h1
   have := apartRow_spec ops.toList 0 h1 i oi (by simpa using hi) (by omega)
   rwa [Nat.zero_add] at this
  loud := fun i j hL hij his hjs h1 h2 => by
   obtain ⟨ti, ei, _, ei2, _, ei4⟩ := at_ i ops[i] (by simp [his])
   obtain ⟨tj, ej, ej1, ej2, _, ej4⟩ := at_ j ops[j] (by simp [hjs])
   have hne : oldOf ti.h.n ti.r.wr ≠ [] := by rw [← ei2, ← ei4]; exact hL
   have row := loudOkF_spec (ts.map fun t => (t.h.n, t.r)) 0 hl i ti.h.n ti.r (by simp [ei]) hne
   rw [Nat.zero_add] at row
   have pr := loudRowF_spec (ts.map fun t => (t.h.n, t.r)) 0 row j tj.h.n tj.r (by simp [ej])
   rw [Nat.zero_add] at pr
   unfold loudPair at pr
   have hij' : (i == j) = false := by simpa using hij
   rw [hij', h1, h2] at pr
   simp only [Bool.false_or, Bool.and_eq_true, Bool.not_eq_true'] at pr
   obtain ⟨⟨hsame, hall⟩, hdis⟩ := pr
   obtain ⟨o', a1, a2, _⟩ := g5 j tj ej
   rw [Nat.zero_add] at a1
   have nx := nextT j tj o' ej a1
   have hh : tj.r.same = true → tj.r.h = tj.h := fun hsm => by
    rcases a2 with ⟨_, hk, _⟩ | ⟨_, hk⟩
    · exact hk.1 hsm
    · rw [hk]
   refine ⟨?_, fun id hid hD => ?_⟩
   ·
    rw [Bool.or_eq_true] at hsame
    rcases hsame with h3 | h3
    · exact .inr (by rw [nx.2, hh h3, ej2])
    ·
     refine .inl fun hLj => hLj ?_
     rw [ej4, ej2]; exact List.isEmpty_iff.1 h3
   ·
    have hid' : id ∈ oldOf ti.h.n ti.r.wr := by rw [← ei4, ← ei2]; exact old_mem i id hid.1 hid.2
    have hno := List.all_eq_true.1 hdis id hid'
    simp only [Bool.and_eq_true, Bool.not_eq_true', Bool.or_eq_true, decide_eq_true_eq] at hno
    obtain ⟨⟨n1, n2⟩, n3⟩ := hno
    rcases hD with h3 | h3 | h3 | h3
    · rw [ej4, hall] at h3; cases h3
    ·
     rw [ej4] at h3
     rw [List.contains_iff_mem.2 h3] at n1; cases n1
    ·
     rw [ej4] at h3
     rw [List.contains_iff_mem.2 h3] at n2; cases n2
    · rw [nx.2, ej2] at h3; omega
  wlt := fun k i hi => hi.2
  edge := fun k o e ho hee hb => by
   have := edgeAll_spec ops.toList 0 hed k o (by simpa using ho) e hee hb
   omega
  opds := hops }
 have hz : ts[ops.size]? = none := List.getElem?_eq_none (by omega)
 have T0 : T 0 = tm ∧ H 0 = h := by
  cases h0 : ts[0]? with
  | none => rw [h0] at g6; simp only [T, H, h0]; exact g6
  | some t => rw [h0] at g6; simp only [T, H, h0]; exact g6
 have Tn : T ops.size = tm' ∧ H ops.size = h' := by simp only [T, H, hz]; exact ⟨trivial, trivial⟩
 have run := Run.draws (q := q) (Wt := Wt) hmix tr (fun k hk hL i hi hi0 => by
  obtain ⟨t, e, _, _, _, e4⟩ := at_ k ops[k] (by simp [hk])
  obtain ⟨o', a1, a2, _⟩ := g5 k t e
  have hi1 : i ∈ t.r.wr := by rw [← e4]; exact hi.1
  rcases a2 with ⟨_, _, hW⟩ | ⟨_, hk⟩
  · exact hW i hi1
  · rw [hk] at hi1; cases hi1) id df
 rw [T0.1, T0.2, Tn.1, Tn.2] at run
 exact run
end
theorem loudOkF_quiet {ops : Array Oper} {all : List (Nat × OR)} : ∀ (rs : List (Nat × OR)) (i : Nat), (∀ e ∈ rs, e.2.wr = []) → loudOkF ops all rs i = true
 | [], _, _ => rfl
 | (n, r) :: rs, i, h => by
  have h1 : r.wr = [] := h (n, r) (by simp)
  have h2 := loudOkF_quiet (ops := ops) (all := all) rs (i + 1) fun e he => h e (by simp [he])
  simp only [loudOkF, oldOf, h1, h2]
  rfl
def fin (ops : Array Oper) (b : Bool) (l : List (Nat × OR)) : Prop := match b with
 | true => True
 | false => ∀ e ∈ l, e.2.wr = []
def GoR (P : Program) (W : Nat → Prop) (q : Bool) (N : Nat) (ops : Array Oper) (b : Bool) (os : List Oper) (k : List It) (ov : Ov) (df : List Nat) (h : AHeap) (Q : PQ) : Prop :=
 ∀ tm : List Value, tm.length = N → Rp ov tm → RdP P W ops os tm h fun tm' h' l => fin ops b l ∧ Gx P W q k .normal tm' df h' Q
def Mt1 (n : Nat) (r : OR) : Option LE → Prop
 | none => r.rd = [] ∧ r.wr = [] ∧ r.all = false ∧ r.same = true ∧ r.h.n = n
 | some e => e.n = n ∧ e.n' = r.h.n ∧ r.rd = e.rd ∧ r.wr = e.wr ∧ r.all = e.all ∧ r.same = e.same
def MtL : List (Nat × OR) → List (Option LE) → Prop
 | [], [] => True
 | (n, r) :: l, x :: xs => Mt1 n r x ∧ MtL l xs
 | _, _ => False
def pairP (ops : Array Oper) (w : List Nat) (i j : Nat) : Option LE → Prop
 | none => True
 | some e => (i == j || bef ops i j || bef ops j i) = true ∨ ((e.same = true ∨ ∀ b ∈ e.wr, e.n ≤ b) ∧ e.all = false ∧ ∀ b ∈ w, b ∉ e.rd ∧ b ∉ e.wr ∧ (b < e.n ∨ e.n' ≤ b))
def loudRowP (ops : Array Oper) (w : List Nat) (i : Nat) : List (Option LE) → Nat → Prop
 | [], _ => True
 | e :: es, j => pairP ops w i j e ∧ loudRowP ops w i es (j + 1)
def loudP (ops : Array Oper) (all : List (Option LE)) : List (Option LE) → Nat → Prop
 | [], _ => True
 | none :: es, i => loudP ops all es (i + 1)
 | some e :: es, i => ((∀ b ∈ e.wr, e.n ≤ b) ∨ loudRowP ops e.wr i all 0) ∧ loudP ops all es (i + 1)
theorem pairP_ok {ops : Array Oper} {w w' : List Nat} {i j n : Nat} {r : OR} {x : Option LE} (hm : Mt1 n r x) (hw : ∀ b ∈ w', b ∈ w) (h : pairP ops w i j x) : loudPair ops w' i j n r = true := by
 unfold loudPair
 cases x with
 | none =>
  obtain ⟨h1, h2, h3, h4, h5⟩ := hm
  rw [h1, h2, h3, h4, h5]
  simp only [Bool.or_eq_true]
  right
  simp only [Bool.true_or, Bool.not_false, Bool.and_self, Bool.true_and, List.all_eq_true]
  intro b _
  simp
  omega
 | some e =>
  obtain ⟨h1, h2, h3, h4, h5, h6⟩ := hm
  rcases h with h | ⟨a1, a2, a3⟩
  ·
   simp only [Bool.or_eq_true] at h ⊢
   exact .inl h
  ·
   simp only [Bool.or_eq_true]
   right
   subst h1
   rw [h3, h4, h5, h6, ← h2, a2]
   simp only [Bool.and_eq_true, Bool.not_false, and_true, List.all_eq_true, Bool.or_eq_true]
   refine ⟨?_, fun b hb => ?_⟩
   ·
    rcases a1 with a1 | a1
    · exact .inl a1
    ·
     right
     rw [List.isEmpty_iff]
     unfold oldOf
     rw [List.filter_eq_nil_iff]
     intro b hb
     have := a1 b hb
     simp; omega
   ·
    obtain ⟨b1, b2, b3⟩ := a3 b (hw b hb)
    refine ⟨⟨?_, ?_⟩, ?_⟩
    · simpa using b1
    · simpa using b2
    ·
     rcases b3 with b3 | b3
     · exact .inl (by simpa using b3)
     · exact .inr (by simpa using b3)
theorem loudRowP_ok {ops : Array Oper} {w w' : List Nat} {i : Nat} (hw : ∀ b ∈ w', b ∈ w) : ∀ {l : List (Nat × OR)} {xs : List (Option LE)} {j : Nat}, MtL l xs → loudRowP ops w i xs j → loudRowF ops w' i l j = true
 | [], [], _, _, _ => rfl
 | (n, r) :: l, x :: xs, j, hm, h => by
  unfold loudRowF
  rw [Bool.and_eq_true]
  exact ⟨pairP_ok hm.1 hw h.1, loudRowP_ok hw hm.2 h.2⟩
 | [], _ :: _, _, hm, _ => hm.elim
 | _ :: _, [], _, hm, _ => hm.elim
theorem loudP_ok {ops : Array Oper} {all : List (Nat × OR)} {xall : List (Option LE)} (ha : MtL all xall) : ∀ {l : List (Nat × OR)} {xs : List (Option LE)} {i : Nat}, MtL l xs → loudP ops xall xs i → loudOkF ops all l i = true
 | [], [], _, _, _ => rfl
 | (n, r) :: l, none :: xs, i, hm, h => by
  unfold loudOkF
  rw [Bool.and_eq_true]
  refine ⟨?_, loudP_ok ha hm.2 h⟩
  have : r.wr = [] := hm.1.2.1
  simp [oldOf, this]
 | (n, r) :: l, some e :: xs, i, hm, h => by
  unfold loudOkF
  rw [Bool.and_eq_true]
  refine ⟨?_, loudP_ok ha hm.2 h.2⟩
  obtain ⟨h1, _, _, h4, _, _⟩ := hm.1
  rcases h.1 with h5 | h5
  ·
   rw [Bool.or_eq_true]
   left
   rw [List.isEmpty_iff]
   unfold oldOf
   rw [List.filter_eq_nil_iff]
   intro b hb
   have := h5 b (h4 ▸ hb)
   simp; omega
  ·
   rw [Bool.or_eq_true]
   right
   exact loudRowP_ok (fun b hb => by unfold oldOf at hb; rw [← h4]; exact (List.mem_filter.1 hb).1) ha h5
 | [], _ :: _, _, hm, _ => hm.elim
 | _ :: _, [], _, hm, _ => hm.elim
def escP (k : List It) (tr : List (Option LE)) : Prop := match k with
 | .soft R :: _ => R tr
 | _ => False
def escN (k : List It) : Bool := match k with
 | .soft _ :: _ => false
 | _ => true
theorem escN.no {k : List It} {tr : List (Option LE)} (h : escN k = true) : ¬ escP k tr := fun e => by
 unfold escP at e
 unfold escN at h
 split at e
 · cases h
 · exact e
def GoL (P : Program) (W : Nat → Prop) (q : Bool) (N : Nat) (ops : Array Oper) (tr : List (Option LE)) (os : List Oper) (k : List It) (ov : Ov) (df : List Nat) (h : AHeap) (Q : PQ) : Prop :=
 ∀ tm : List Value, tm.length = N → Rp ov tm → RdP P W ops os tm h fun tm' h' l => (∃ tl, MtL l tl ∧ (loudP ops (tr ++ tl) (tr ++ tl) 0 ∨ escP k (tr ++ tl))) ∧ Gx P W q k .normal tm' df h' Q
section
variable {P : Program} {W : Nat → Prop} {q : Bool} {N : Nat} {k : List It} {ov : Ov} {df : List Nat} {h : AHeap} {Q : PQ} {id : Nat} {ops : Array Oper} {os : List Oper}
theorem Go.region (hk : opsOk P ops = true) (ho : ops.toList = os) (g : GoR P W q N ops true os k ov df h Q) : Go P W q N (.code (.region id ops false) :: k) .normal ov df h Q := by
 subst ho
 refine Go.code fun tm hN hr => ?_
 obtain ⟨tm', h', l, ⟨_, g1⟩, g2, g3⟩ := RdP.inOrder (k := 0) (by simp) (g tm hN hr)
 rw [← List.range_eq_range', Array.length_toList] at g3
 exact ⟨.normal, tm', df, h', Run.region (s := ⟨tm, df, h⟩) hk g3, g2, g1⟩
theorem Go.drawn (hk : drawOk P ops = true) (ho : ops.toList = os) (g : GoR P W q N ops false os k ov df h Q) : Go P W q N (.code (.region id ops true) :: k) .normal ov df h Q := by
 subst ho
 refine Go.code fun tm hN hr => ?_
 obtain ⟨tm', h', ts, ⟨f, g1⟩, g2, g3, g4, g5⟩ := RdP.trace (k := 0) (by simp) (g tm hN hr)
 exact ⟨.normal, tm', df, h', Run.drawn hk (loudOkF_quiet _ _ f) (by simpa using g3) g4 g5, g2, g1⟩
theorem Go.loud (hk : drawOk P ops = true) (ho : ops.toList = os) (g : GoL P W q N ops [] os k ov df h Q) (hs : escN k = true := by rfl) : Go P W q N (.code (.region id ops true) :: k) .normal ov df h Q := by
 subst ho
 refine Go.code fun tm hN hr => ?_
 obtain ⟨tm', h', ts, ⟨f, g1⟩, g2, g3, g4, g5⟩ := RdP.trace (k := 0) (by simp) (g tm hN hr)
 obtain ⟨tl, f1, f2⟩ := f
 have f2 := f2.resolve_right (escN.no hs)
 exact ⟨.normal, tm', df, h', Run.drawn hk (loudP_ok f1 f1 (by simpa using f2)) (by simpa using g3) g4 g5, g2, g1⟩
theorem GoR.end {b : Bool} (g : Go P W q N k .normal ov df h Q) : GoR P W q N ops b [] k ov df h Q := fun tm hN hr => ⟨by cases b <;> simp [fin], g tm hN hr⟩
theorem GoL.end {tr : List (Option LE)} (hl : loudP ops tr tr 0) (g : Go P W q N k .normal ov df h Q) : GoL P W q N ops tr [] k ov df h Q := fun tm hN hr => ⟨⟨[], trivial, .inl (by simpa using hl)⟩, g tm hN hr⟩
variable {o : Oper} {d : Nat} {r : OR}
theorem GoR.step {b : Bool} (hg : o.guard = none) (hd : o.dst = some d) (hN : dOk d N = true) (hr : ∀ tm, Rp ov tm → OpOk P o tm h r) (hq : b = true ∨ r.wr = []) (hW : ∀ i ∈ r.wr, W i) (g : GoR P W q N ops b os k ((d, r.v) :: ov) df r.h Q) : GoR P W q N ops b (o :: os) k ov df h Q := fun tm hN' hrp => by
 refine ⟨r, .inl ⟨by simp [Region.wanted, hg], hr tm hrp, hW⟩, ?_⟩
 rw [hd]
 refine (g _ (by rw [putT_len]; exact hN') (hrp.put hN' hN _)).mono fun tm' h' l ⟨f, g'⟩ => ⟨?_, g'⟩
 cases b with
 | true => trivial
 | false =>
       rcases hq with hq | hq
       · cases hq
       ·
        intro e he
        rcases List.mem_cons.1 he with rfl | he
        · exact hq
        · exact f e he
theorem GoR.step0 {b : Bool} (hg : o.guard = none) (hd : o.dst = none) (hr : ∀ tm, Rp ov tm → OpOk P o tm h r) (hq : b = true ∨ r.wr = []) (hW : ∀ i ∈ r.wr, W i) (g : GoR P W q N ops b os k ov df r.h Q) : GoR P W q N ops b (o :: os) k ov df h Q := fun tm hN' hrp => by
 refine ⟨r, .inl ⟨by simp [Region.wanted, hg], hr tm hrp, hW⟩, ?_⟩
 rw [hd]
 refine (g tm hN' hrp).mono fun tm' h' l ⟨f, g'⟩ => ⟨?_, g'⟩
 cases b with
 | true => trivial
 | false =>
       rcases hq with hq | hq
       · cases hq
       ·
        intro e he
        rcases List.mem_cons.1 he with rfl | he
        · exact hq
        · exact f e he
theorem GoL.step {tr : List (Option LE)} (x : Option LE) (hx : Mt1 h.n r x) (hg : o.guard = none) (hd : o.dst = some d) (hN : dOk d N = true) (hr : ∀ tm, Rp ov tm → OpOk P o tm h r) (hW : ∀ i ∈ r.wr, W i) (g : GoL P W q N ops (tr ++ [x]) os k ((d, r.v) :: ov) df r.h Q) : GoL P W q N ops tr (o :: os) k ov df h Q := fun tm hN' hrp => by
 refine ⟨r, .inl ⟨by simp [Region.wanted, hg], hr tm hrp, hW⟩, ?_⟩
 rw [hd]
 refine (g _ (by rw [putT_len]; exact hN') (hrp.put hN' hN _)).mono fun tm' h' l ⟨⟨tl, f1, f2⟩, g'⟩ => ⟨⟨x :: tl, ⟨hx, f1⟩, by simpa using f2⟩, g'⟩
theorem GoL.step0 {tr : List (Option LE)} (x : Option LE) (hx : Mt1 h.n r x) (hg : o.guard = none) (hd : o.dst = none) (hr : ∀ tm, Rp ov tm → OpOk P o tm h r) (hW : ∀ i ∈ r.wr, W i) (g : GoL P W q N ops (tr ++ [x]) os k ov df r.h Q) : GoL P W q N ops tr (o :: os) k ov df h Q := fun tm hN' hrp => by
 refine ⟨r, .inl ⟨by simp [Region.wanted, hg], hr tm hrp, hW⟩, ?_⟩
 rw [hd]
 refine (g tm hN' hrp).mono fun tm' h' l ⟨⟨tl, f1, f2⟩, g'⟩ => ⟨⟨x :: tl, ⟨hx, f1⟩, by simpa using f2⟩, g'⟩
theorem yielded_of {tm : List Value} (hr : Rp ov tm) {j t : Nat} {oj : Oper} {B : Bool} (hj : ops[j]? = some oj) (hd : oj.dst = some t) (hv : ov.find t = some (.bool B)) : yielded ops tm.toArray j = some B := by
 have h1 := hr t _ hv
 rw [List.getD_eq_getElem?_getD] at h1
 cases hx : tm[t]? with
 | none => rw [hx] at h1; simp [undef] at h1
 | some u =>
  rw [hx] at h1
  simp at h1
  subst h1
  simp [yielded, hj, hd, hx]
theorem GoR.unwanted {b : Bool} {j t : Nat} {w B : Bool} {oj : Oper} (hg : o.guard = some (j, w)) (hj : ops[j]? = some oj) (hdj : oj.dst = some t) (hv : ov.find t = some (.bool B)) (hB : B = !w) (hd : o.dst = some d) (hN : dOk d N = true) (g : GoR P W q N ops b os k ((d, undef) :: ov) df h Q) : GoR P W q N ops b (o :: os) k ov df h Q := fun tm hN' hrp => by
 refine ⟨⟨undef, h, [], [], false, true⟩, .inr ⟨by simp [Region.wanted, hg, yielded_of hrp hj hdj hv, hB], rfl⟩, ?_⟩
 rw [hd]
 refine (g _ (by rw [putT_len]; exact hN') (hrp.put hN' hN _)).mono fun tm' h' l ⟨f, g'⟩ => ⟨?_, g'⟩
 cases b with
 | true => trivial
 | false =>
       intro e he
       rcases List.mem_cons.1 he with rfl | he
       · rfl
       · exact f e he
theorem GoL.unwanted {tr : List (Option LE)} {j t : Nat} {w B : Bool} {oj : Oper} (hg : o.guard = some (j, w)) (hj : ops[j]? = some oj) (hdj : oj.dst = some t) (hv : ov.find t = some (.bool B)) (hB : B = !w) (hd : o.dst = some d) (hN : dOk d N = true) (g : GoL P W q N ops (tr ++ [none]) os k ((d, undef) :: ov) df h Q) : GoL P W q N ops tr (o :: os) k ov df h Q := fun tm hN' hrp => by
 refine ⟨⟨undef, h, [], [], false, true⟩, .inr ⟨by simp [Region.wanted, hg, yielded_of hrp hj hdj hv, hB], rfl⟩, ?_⟩
 rw [hd]
 refine (g _ (by rw [putT_len]; exact hN') (hrp.put hN' hN _)).mono fun tm' h' l ⟨⟨tl, f1, f2⟩, g'⟩ => ⟨⟨none :: tl, ⟨⟨rfl, rfl, rfl, rfl, rfl⟩, f1⟩, by simpa using f2⟩, g'⟩
theorem OpOk.unguard {tm : List Value} {g : Option (Nat × Bool)} (hr : OpOk P { o with guard := g } tm h r) : OpOk P o tm h r :=
 ⟨hr.1, fun D W' a b c => ⟨(hr.2 D W' a b c).fr, fun m w A r' x1 x2 x3 x4 K Q' hK => (hr.2 D W' a b c).run m w A r' x1 x2 x3 x4 K Q' hK⟩⟩
end
end Go.Proofs.YtncbbeghkpjpbaaDoor
namespace Go.Proofs.YtncbbeghkpjpbaaDoor
class CT (P : Program) (t : TypeId) (r : outParam (Option Nat)) : Prop where h : cellsT P t = some r
class SZ (P : Program) (t : TypeId) (n : outParam Nat) : Prop where h : sizeT P t = some n
class FO (P : Program) (s : TypeId) (f : Nat) (k : outParam Nat) : Prop where h : fieldOff P s f = some k
class EL (P : Program) (t : TypeId) (r : outParam (Option Nat × Nat)) : Prop where h : elemT P t = some r
class UN (P : Program) (t : TypeId) (d : outParam TypeDesc) : Prop where h : P.underlying t = some d
class AL (P : Program) (t : TypeId) (c : outParam (List Value)) : Prop where h : aAlloc P t = some (.cells c t)
class ST (P : Program) (t : TypeId) (z : outParam (List Value)) (pl : outParam (List (Nat × Nat))) : Prop where h : ∀ ps c, fillL (fun i => pl[i]?) z ps = some c → aBuild P t ps = some (.agg c.toArray)
class BS (P : Program) (t : TypeId) (e : outParam TypeId) (sz : outParam Nat) (z : outParam Value) : Prop where h : ∀ len ps c, len * sz ≤ 16777216 → fillL (fun i => some (i * sz, sz)) ((List.replicate len (Value.cells z).toList).flatten) ps = some c → aBuildSlice P t len ps = some (.cells c e)
def cellsL : Value → List Value
 | .agg ⟨l⟩ => l
 | v => [v]
theorem cellsL_eq (v : Value) : v.cells.toList = cellsL v := by cases v <;> rfl
theorem aField_of {P : Program} {s : TypeId} {f k : Nat} (hk : fieldOff P s f = some k) (b o : Nat) : aField P s f (.pointer (some ⟨b, o, none⟩)) = some (.pointer (some ⟨b, o + k, none⟩)) := by
 unfold fieldOff at hk
 unfold aField
 split at hk
 ·
  rename_i fs hu
  simp only [hu]
  split at hk
  ·
   rename_i fd hfd
   simp only [hfd]
   split at hk
   ·
    rename_i n hn
    cases hk
    simp only [hn]
   · cases hk
  · cases hk
 · cases hk
theorem aIndex_slice {P : Program} {t : TypeId} {n : Nat} (he : elemT P t = some (none, n)) {b o len cap : Nat} {k : IntKind} {i : Int} (h0 : 0 ≤ i) (h1 : i < (len : Int)) : aIndexAddr P t (.slice (some ⟨b, o, none⟩) len cap) (.int k i) = some (.pointer (some ⟨b, o + i.toNat * n, none⟩)) := by
 unfold elemT at he
 unfold aIndexAddr
 split at he
 ·
  rename_i e hu
  cases hs : sizeT P e with
  | none => rw [hs] at he; cases he
  | some m =>
   rw [hs] at he
   cases he
   simp only [hu, hs]
   rw [if_pos ⟨h0, h1⟩]
 ·
  rename_i l e hu
  cases hs : sizeT P e with
  | none => rw [hs] at he; cases he
  | some m => rw [hs] at he; cases he
 · cases he
theorem aIndex_array {P : Program} {t : TypeId} {n len : Nat} (he : elemT P t = some (some len, n)) {b o : Nat} {k : IntKind} {i : Int} (h0 : 0 ≤ i) (h1 : i < (len : Int)) : aIndexAddr P t (.pointer (some ⟨b, o, none⟩)) (.int k i) = some (.pointer (some ⟨b, o + i.toNat * n, none⟩)) := by
 unfold elemT at he
 unfold aIndexAddr
 split at he
 ·
  rename_i e hu
  cases hs : sizeT P e with
  | none => rw [hs] at he; cases he
  | some m => rw [hs] at he; cases he
 ·
  rename_i l e hu
  cases hs : sizeT P e with
  | none => rw [hs] at he; cases he
  | some m =>
   rw [hs] at he
   cases he
   simp only [hu, hs]
   rw [if_pos ⟨h0, h1⟩]
 · cases he
def iBin (op : BinOp) (k : IntKind) (a b : Int) : Option Value :=
 match op with
 | .add => some (.int k (k.wrap (a + b)))
 | .sub => some (.int k (k.wrap (a - b)))
 | .mul => some (.int k (k.wrap (a * b)))
 | .eql => some (.bool (decide (a = b)))
 | .neq => some (.bool (!decide (a = b)))
 | .lss => some (.bool (decide (a < b)))
 | .leq => some (.bool (decide (a ≤ b)))
 | .gtr => some (.bool (decide (b < a)))
 | .geq => some (.bool (decide (b ≤ a)))
 | .quo => if b = 0 then none else some (.int k (k.wrap (a.tdiv b)))
 | .rem => if b = 0 then none else some (.int k (a.tmod b))
 | .and => some (.int k (k.wrap (BitVec.ofInt k.bits a &&& BitVec.ofInt k.bits b).toNat))
 | .or => some (.int k (k.wrap (BitVec.ofInt k.bits a ||| BitVec.ofInt k.bits b).toNat))
 | .xor => some (.int k (k.wrap (BitVec.ofInt k.bits a ^^^ BitVec.ofInt k.bits b).toNat))
 | .andNot => some (.int k (k.wrap (BitVec.ofInt k.bits a &&& ~~~ BitVec.ofInt k.bits b).toNat))
 | _ => none
theorem iBin_run {op : BinOp} {k : IntKind} {a b : Int} {v : Value} (he : iBin op k a b = some v) (t : TypeId) : binOp op t (.int k a) (.int k b) = pure v := by
 cases op with
 | eql => simp only [iBin, Option.some.injEq] at he; subst he; simp [binOp, Op.intCmp, BEq.beq]
 | neq => simp only [iBin, Option.some.injEq] at he; subst he; simp [binOp, Op.intCmp, bne, BEq.beq]
 | lss => simp only [iBin, Option.some.injEq] at he; subst he; simp [binOp, Op.intCmp]
 | leq => simp only [iBin, Option.some.injEq] at he; subst he; simp [binOp, Op.intCmp]
 | gtr => simp only [iBin, Option.some.injEq] at he; subst he; simp [binOp, Op.intCmp]
 | geq => simp only [iBin, Option.some.injEq] at he; subst he; simp [binOp, Op.intCmp]
 | quo =>
      simp only [iBin] at he; split at he
      · cases he
      · rename_i h; cases he; simp [binOp, Op.intDiv, h]
 | rem =>
      simp only [iBin] at he; split at he
      · cases he
      · rename_i h; cases he; simp [binOp, Op.intDiv, h]
 | _ => first | (simp only [iBin, Option.some.injEq] at he; subst he; simp [binOp, Op.intArith, Op.intBits]) | (simp only [iBin, Option.some.injEq] at he; subst he; simp [binOp, Op.intArith, Op.intBits]; done) | (simp [iBin] at he)
def iSh (op : BinOp) (k : IntKind) (a b : Int) : Option Value :=
 if b < 0 then none else match op with
 | .shl => some (.int k (k.wrap (a * 2 ^ (min b.toNat k.bits))))
 | .shr => some (.int k (a.fdiv (2 ^ (min b.toNat k.bits))))
 | _ => none
theorem iSh_run {op : BinOp} {k k' : IntKind} {a b : Int} {v : Value} (he : iSh op k a b = some v) (t : TypeId) : binOp op t (.int k a) (.int k' b) = pure v := by
 unfold iSh at he
 split at he
 · cases he
 ·
  rename_i hb
  split at he
  · cases he; show Op.shift .shl k a k' b = _; simp only [Op.shift, if_neg hb]
  · cases he; show Op.shift .shr k a k' b = _; simp only [Op.shift, if_neg hb]
  · cases he
theorem iBin_flat {op : BinOp} {k : IntKind} {a b : Int} {v : Value} (he : iBin op k a b = some v) : flatB v = true := by
 cases op <;> simp only [iBin] at he <;> first | (cases he; done) | (cases he; rfl) | (split at he <;> first | (cases he; done) | (cases he; rfl))
theorem iSh_flat {op : BinOp} {k : IntKind} {a b : Int} {v : Value} (he : iSh op k a b = some v) : flatB v = true := by
 unfold iSh at he
 split at he
 · cases he
 · split at he <;> cases he <;> rfl
class IC (P : Program) (src dst : TypeId) (k : outParam IntKind) : Prop where h : ∀ k' n, convert src dst (.int k' n) = Sem.pure (.int k (k.wrap n)) ∨ ∀ w, (convert src dst (.int k' n)).run P w = .ok (.int k (k.wrap n)) w
class ID (P : Program) (src dst : TypeId) : Prop where h : ∀ v w, (convert src dst v).run P w = .ok v w
section
variable {P : Program} {o : Oper} {ov : Ov} {h : AHeap}
theorem OpOk.flat {v : Value} {tm : List Value} (hd : ∀ c, o.op ≠ .defer c) (hv : flatB v = true) (k : ∀ (m : Mp) (w : World) (A : Act), (∀ x ∈ o.op.operands, VRel m (evalT tm x) (A.eval x)) → (execOp A.eval o).run P w = .ok (.value v) w) : OpOk P o tm h (pureO h v) :=
 .pure fun D W => .ofPure hd fun m w A hm hx H => ⟨v, VRel.flat m hv, k m w A hx⟩
theorem S.move {x : Operand} {v : Value} (ho : o.op = .move x) (hx : evO ov x = some v) : ∀ tm, Rp ov tm → OpOk P o tm h ⟨v, h, [], [], false, true⟩ := fun tm hr => .pure fun D W => by have := OpRun.move (P := P) (D := D) (W := W) (tm := tm) (h := h) ho; rwa [evO_eq hr hx] at this
theorem S.assign {x : Operand} {v : Value} (ho : o.op = .assign x) (hx : evO ov x = some v) : ∀ tm, Rp ov tm → OpOk P o tm h ⟨v, h, [], [], false, true⟩ := fun tm hr => .pure fun D W => by have := OpRun.assign (P := P) (D := D) (W := W) (tm := tm) (h := h) ho; rwa [evO_eq hr hx] at this
theorem S.pick {c x y : Operand} {B : Bool} {u v : Value} (ho : o.op = .pick c x y) (hc : evO ov c = some (.bool B)) (hx : evO ov x = some u) (hy : evO ov y = some v) : ∀ tm, Rp ov tm → OpOk P o tm h ⟨(if B then u else v), h, [], [], false, true⟩ := fun tm hr => .pure fun D W => by have := OpRun.pick (P := P) (D := D) (W := W) (tm := tm) (h := h) (t := B) ho (evO_eq hr hc); rwa [evO_eq hr hx, evO_eq hr hy] at this
theorem S.alloc {t : TypeId} {c : List Value} (ho : o.op = .alloc t) [ha : AL P t c] : ∀ tm, Rp ov tm → OpOk P o tm h ⟨(.pointer (some ⟨h.n, 0, none⟩)), (h.push (.cells c t)), [], [], false, false⟩ := fun tm hr => .new fun D W => OpRun.alloc ho ha.h
theorem S.box {t : TypeId} {x : Operand} {n : Nat} {v : Value} {c : List Value} (ho : o.op = .box t x) [hs : SZ P t n] (hx : evO ov x = some v) (hc : cellsL v = c) : ∀ tm, Rp ov tm → OpOk P o tm h ⟨(.pointer (some ⟨h.n, 0, none⟩)), (h.push (.cells c t)), [], [], false, false⟩ := fun tm hr => .new fun D W => by have := OpRun.box (P := P) (D := D) (W := W) (tm := tm) (h := h) ho hs.h; rwa [evO_eq hr hx, cellsL_eq, hc] at this
theorem S.build {t : TypeId} {ps : Array (Nat × Operand)} {z : List Value} {pl : List (Nat × Nat)} {vs : List (Nat × Value)} {c : List Value} (ho : o.op = .build t ps) [hs : ST P t z pl] (hp : evPs ov ps.toList = some vs) (hf : fillL (fun i => pl[i]?) z vs = some c) : ∀ tm, Rp ov tm → OpOk P o tm h ⟨(.agg c.toArray), h, [], [], false, true⟩ := fun tm hr => .pure fun D W => OpRun.build ho (by rw [evPs_eq hr hp]; exact hs.h _ _ hf)
theorem S.buildSlice {t e : TypeId} {len sz : Nat} {z : Value} {ps : Array (Nat × Operand)} {vs : List (Nat × Value)} {c : List Value} (ho : o.op = .buildSlice t len ps) [hs : BS P t e sz z] (hp : evPs ov ps.toList = some vs) (hl : len * sz ≤ 16777216) (hf : fillL (fun i => some (i * sz, sz)) ((List.replicate len (Value.cells z).toList).flatten) vs = some c) : ∀ tm, Rp ov tm → OpOk P o tm h ⟨(.slice (some ⟨h.n, 0, none⟩) len len), (h.push (.cells c e)), [], [], false, false⟩ := fun tm hr => .new fun D W => OpRun.buildSlice ho (by rw [evPs_eq hr hp]; exact hs.h _ _ _ hl hf)
theorem S.load {t ct : TypeId} {x : Operand} {b off : Nat} {c : List Value} {v : Value} (ho : o.op = .load t x) (hx : evO ov x = some (.pointer (some ⟨b, off, none⟩))) [hc : CT P t none] (hg : h.get b = some (.cells c ct)) (hv : c[off]? = some v) : ∀ tm, Rp ov tm → OpOk P o tm h ⟨v, h, [b], [], false, true⟩ := fun tm hr => .read fun D W hD => OpRun.load ho (by rw [evO_eq hr hx]; simp [aLoad, rowOf, hg, hc.h, hv]) (hD b (by simp))
theorem S.loadN {t ct : TypeId} {x : Operand} {b off n : Nat} {c l : List Value} (ho : o.op = .load t x) (hx : evO ov x = some (.pointer (some ⟨b, off, none⟩))) [hc : CT P t (some n)] (hg : h.get b = some (.cells c ct)) (hl : off + n ≤ c.length) (hv : (c.drop off).take n = l) : ∀ tm, Rp ov tm → OpOk P o tm h ⟨(.agg l.toArray), h, [b], [], false, true⟩ := fun tm hr => .read fun D W hD => OpRun.load ho (by rw [evO_eq hr hx]; simp [aLoad, rowOf, hg, hc.h, hv, hl]) (hD b (by simp))
theorem S.store {t ct : TypeId} {x y : Operand} {b off n : Nat} {c l c' : List Value} {v : Value} (ho : o.op = .store t x y) (hx : evO ov x = some (.pointer (some ⟨b, off, none⟩))) (hy : evO ov y = some v) [hs : SZ P t n] (hg : h.get b = some (.cells c ct)) (hl : cellsL v = l) (h1 : l.length = n) (h2 : off + n ≤ c.length) (h3 : l.all Value.oneCell' = true) (hc : setL c off l = c')  : ∀ tm, Rp ov tm → OpOk P o tm h ⟨undef, (h.put b (some (.cells c' ct))), [b], [b], false, false⟩ := fun tm hr => .write fun D W hD hW => OpRun.store ho (by rw [evO_eq hr hx, evO_eq hr hy]; simp only [aStore, hg, hs.h, cellsL_eq, hl]; rw [if_pos ⟨h1, h2, h3⟩, hc]) (hD b (by simp)) (hW b (by simp)).2
theorem S.nilCheck {x : Operand} {b off : Nat} (ho : o.op = .nilCheck x) (hx : evO ov x = some (.pointer (some ⟨b, off, none⟩))) : ∀ tm, Rp ov tm → OpOk P o tm h ⟨(.pointer (some ⟨b, off, none⟩)), h, [], [], false, true⟩ := fun tm hr => .pure fun D W => OpRun.nilCheck ho (evO_eq hr hx)
theorem S.nilCheckF {x : Operand} {f : FuncId} {a b : Array Value} (ho : o.op = .nilCheck x) (hx : evO ov x = some (.func (.func f) a b)) : ∀ tm, Rp ov tm → OpOk P o tm h ⟨(.func (.func f) a b), h, [], [], false, true⟩ := fun tm hr => .pure fun D W => OpRun.nilCheckF ho (evO_eq hr hx) (fun s e => by cases e)
theorem S.bin {op : BinOp} {t t₂ : TypeId} {x y : Operand} {kd : IntKind} {i j : Int} {v : Value} (ho : o.op = .binOp op t x y t₂) (hx : evO ov x = some (.int kd i)) (hy : evO ov y = some (.int kd j)) (hv : iBin op kd i j = some v) : ∀ tm, Rp ov tm → OpOk P o tm h ⟨v, h, [], [], false, true⟩ := fun tm hr => by
  have main : ∀ e : binOp op t (.int kd i) (.int kd j) = pure v, OpOk P o tm h (pureO h v) := fun e => .flat (by simp [ho]) (iBin_flat hv) fun m w A hxx => by
   have a1 := hxx x (by simp [ho, Op.operands])
   have a2 := hxx y (by simp [ho, Op.operands])
   rw [evO_eq hr hx] at a1
   rw [evO_eq hr hy] at a2
   have a1 := VRel.eq_of_flat a1 rfl
   have a2 := VRel.eq_of_flat a2 rfl
   simp only [execOp, ho, a1, a2, eqGuard_int]
   have e5 : binOp op t (.int kd i) (.int kd j) = Sem.pure v := e
   simp only [e5]
   rfl
  exact main (iBin_run hv t)
theorem S.shift {op : BinOp} {t t₂ : TypeId} {x y : Operand} {kd kd' : IntKind} {i j : Int} {v : Value} (ho : o.op = .binOp op t x y t₂) (hx : evO ov x = some (.int kd i)) (hy : evO ov y = some (.int kd' j)) (hv : iSh op kd i j = some v) : ∀ tm, Rp ov tm → OpOk P o tm h ⟨v, h, [], [], false, true⟩ := fun tm hr => by
  have main : ∀ e : binOp op t (.int kd i) (.int kd' j) = pure v, OpOk P o tm h (pureO h v) := fun e => .flat (by simp [ho]) (iSh_flat hv) fun m w A hxx => by
   have a1 := hxx x (by simp [ho, Op.operands])
   have a2 := hxx y (by simp [ho, Op.operands])
   rw [evO_eq hr hx] at a1
   rw [evO_eq hr hy] at a2
   have a1 := VRel.eq_of_flat a1 rfl
   have a2 := VRel.eq_of_flat a2 rfl
   simp only [execOp, ho, a1, a2, eqGuard_int]
   have e5 : binOp op t (.int kd i) (.int kd' j) = Sem.pure v := e
   simp only [e5]
   rfl
  exact main (iSh_run hv t)
theorem S.not {t : TypeId} {x : Operand} {B : Bool} (ho : o.op = .unOp .not t x) (hx : evO ov x = some (.bool B)) : ∀ tm, Rp ov tm → OpOk P o tm h ⟨(.bool (!B)), h, [], [], false, true⟩ := fun tm hr => .flat (by simp [ho]) rfl fun m w A hxx => by
   have a1 := hxx x (by simp [ho, Op.operands])
   rw [evO_eq hr hx] at a1
   have a1 := VRel.eq_of_flat a1 rfl
   simp only [execOp, ho, a1]
   rfl
theorem S.neg {t : TypeId} {x : Operand} {kd : IntKind} {i : Int} (ho : o.op = .unOp .neg t x) (hx : evO ov x = some (.int kd i)) : ∀ tm, Rp ov tm → OpOk P o tm h ⟨(.int kd (kd.wrap (0 - i))), h, [], [], false, true⟩ := fun tm hr => .flat (by simp [ho]) rfl fun m w A hxx => by
   have a1 := hxx x (by simp [ho, Op.operands])
   rw [evO_eq hr hx] at a1
   have a1 := VRel.eq_of_flat a1 rfl
   simp only [execOp, ho, a1]
   rfl
theorem S.com {t : TypeId} {x : Operand} {kd : IntKind} {i : Int} {v : Value} (ho : o.op = .unOp .xor t x) (hx : evO ov x = some (.int kd i)) (hv : iBin .xor kd (if kd.signed then -1 else kd.max) i = some v) : ∀ tm, Rp ov tm → OpOk P o tm h ⟨v, h, [], [], false, true⟩ := fun tm hr => .flat (by simp [ho]) (iBin_flat hv) fun m w A hxx => by
   have a1 := hxx x (by simp [ho, Op.operands])
   rw [evO_eq hr hx] at a1
   have a1 := VRel.eq_of_flat a1 rfl
   have e : Op.unary .xor (.int kd i) = Sem.pure v := by
    simp only [iBin, Option.some.injEq] at hv
    subst hv
    simp only [Op.unary, Op.intBits]
    rfl
   simp only [execOp, ho, a1, e]
   rfl
theorem S.conv {t t₂ : TypeId} {x : Operand} {kd kd' : IntKind} {i : Int} (ho : o.op = .convert t t₂ x) (hx : evO ov x = some (.int kd' i)) [hc : IC P t t₂ kd] : ∀ tm, Rp ov tm → OpOk P o tm h ⟨(.int kd (kd.wrap i)), h, [], [], false, true⟩ := fun tm hr => .flat (by simp [ho]) rfl fun m w A hxx => by
   have a1 := hxx x (by simp [ho, Op.operands])
   rw [evO_eq hr hx] at a1
   have a1 := VRel.eq_of_flat a1 rfl
   simp only [execOp, ho, a1]
   rcases hc.h kd' i with e | e
   · simp only [e]; rfl
   · simp [e]
theorem S.convStr {t t₂ : TypeId} {x : Operand} {v : Value} {s : ByteArray} {rd : List Nat} (ho : o.op = .convert t t₂ x) (hx : evO ov x = some v) (hs : aStr P h t t₂ v = some (s, rd)) : ∀ tm, Rp ov tm → OpOk P o tm h ⟨(.string s), h, rd, [], false, true⟩ := fun tm hr => .read fun D W hD => OpRun.toStr ho (by rw [evO_eq hr hx]; exact hs) hD
theorem S.convBytes {t t₂ : TypeId} {x : Operand} {v : Value} {n : Nat} {a : AObj} (ho : o.op = .convert t t₂ x) (hx : evO ov x = some v) (hs : aBytes P t t₂ v = some (n, a)) : ∀ tm, Rp ov tm → OpOk P o tm h ⟨(.slice (some ⟨h.n, 0, none⟩) n n), (h.push a), [], [], false, false⟩ := fun tm hr => .new fun D W => OpRun.bytesOf ho (by rw [evO_eq hr hx]; exact hs)
theorem S.makeFunc {fn : FuncId} {xs ys : Array Operand} {us vs : List Value} (ho : o.op = .makeFunc (.func fn) xs ys) (hx : evOs ov xs.toList = some us) (hy : evOs ov ys.toList = some vs) : ∀ tm, Rp ov tm → OpOk P o tm h ⟨(.func (.func fn) us.toArray vs.toArray), h, [], [], false, true⟩ := fun tm hr => .pure fun D W => by
  have := OpRun.makeFunc (P := P) (D := D) (W := W) (tm := tm) (h := h) ho (fun r e => by cases e)
  rw [show xs.map (evalT tm) = us.toArray from by apply Array.toList_inj.1; simp [← evOs_eq hr hx], show ys.map (evalT tm) = vs.toArray from by apply Array.toList_inj.1; simp [← evOs_eq hr hy]] at this
  exact this
theorem S.makeSlice {t : TypeId} {x y : Operand} {u v : Value} {l c : Nat} {a : AObj} (ho : o.op = .makeSlice t x y) (hx : evO ov x = some u) (hy : evO ov y = some v) (ha : aMake P t u v = some (l, c, a)) : ∀ tm, Rp ov tm → OpOk P o tm h ⟨(.slice (some ⟨h.n, 0, none⟩) l c), (h.push a), [], [], false, false⟩ := fun tm hr => .new fun D W => OpRun.makeSlice ho (by rw [evO_eq hr hx, evO_eq hr hy]; exact ha)
theorem S.slice {t : TypeId} {x : Operand} {lo hi mx : Option Operand} {u v : Value} {lo' hi' mx' : Option Value} (ho : o.op = .slice t x lo hi mx) (hx : evO ov x = some u) (hlo : lo.map (evO ov) = lo'.map some) (hhi : hi.map (evO ov) = hi'.map some) (hmx : mx.map (evO ov) = mx'.map some) (hv : aSlice P h t lo' hi' mx' u = some v) : ∀ tm, Rp ov tm → OpOk P o tm h ⟨v, h, [], [], false, true⟩ := fun tm hr => .pure fun D W => OpRun.slice ho (by
  have e : ∀ (a : Option Operand) (a' : Option Value), a.map (evO ov) = a'.map some → a.map (evalT tm) = a' := fun a a' e => by
   cases a <;> cases a' <;> simp at e ⊢
   exact evO_eq hr e
  rw [evO_eq hr hx, e _ _ hlo, e _ _ hhi, e _ _ hmx]; exact hv)
theorem S.fieldAddr {s : TypeId} {f kk : Nat} {x : Operand} {b off : Nat} (ho : o.op = .fieldAddr s x f) (hx : evO ov x = some (.pointer (some ⟨b, off, none⟩))) [hf : FO P s f kk] : ∀ tm, Rp ov tm → OpOk P o tm h ⟨(.pointer (some ⟨b, off + kk, none⟩)), h, [], [], false, true⟩ := fun tm hr => .pure fun D W => OpRun.fieldAddr ho (by rw [evO_eq hr hx]; exact aField_of hf.h b off)
theorem S.field {s : TypeId} {f : Nat} {x : Operand} {u v : Value} (ho : o.op = .field s x f) (hx : evO ov x = some u) (hv : aFieldOf P s f u = some v) : ∀ tm, Rp ov tm → OpOk P o tm h ⟨v, h, [], [], false, true⟩ := fun tm hr => .pure fun D W => OpRun.field ho (by rw [evO_eq hr hx]; exact hv)
theorem S.indexS {t : TypeId} {n : Nat} {x y : Operand} {b off len cap : Nat} {kk : IntKind} {i : Int} (ho : o.op = .indexAddr t x y) (hx : evO ov x = some (.slice (some ⟨b, off, none⟩) len cap)) (hy : evO ov y = some (.int kk i)) [he : EL P t (none, n)] (h0 : 0 ≤ i) (h1 : i < (len : Int)) : ∀ tm, Rp ov tm → OpOk P o tm h ⟨(.pointer (some ⟨b, off + i.toNat * n, none⟩)), h, [], [], false, true⟩ := fun tm hr => .pure fun D W => OpRun.indexAddr ho (by rw [evO_eq hr hx, evO_eq hr hy]; exact aIndex_slice he.h h0 h1)
theorem S.indexA {t : TypeId} {n len : Nat} {x y : Operand} {b off : Nat} {kk : IntKind} {i : Int} (ho : o.op = .indexAddr t x y) (hx : evO ov x = some (.pointer (some ⟨b, off, none⟩))) (hy : evO ov y = some (.int kk i)) [he : EL P t (some len, n)] (h0 : 0 ≤ i) (h1 : i < (len : Int)) : ∀ tm, Rp ov tm → OpOk P o tm h ⟨(.pointer (some ⟨b, off + i.toNat * n, none⟩)), h, [], [], false, true⟩ := fun tm hr => .pure fun D W => OpRun.indexAddr ho (by rw [evO_eq hr hx, evO_eq hr hy]; exact aIndex_array he.h h0 h1)
theorem S.index {t : TypeId} {x y : Operand} {u u' v : Value} (ho : o.op = .index t x y) (hx : evO ov x = some u) (hy : evO ov y = some u') (hv : aIndex P t u u' = some v) : ∀ tm, Rp ov tm → OpOk P o tm h ⟨v, h, [], [], false, true⟩ := fun tm hr => .pure fun D W => OpRun.index ho (by rw [evO_eq hr hx, evO_eq hr hy]; exact hv)
theorem S.extract {x : Operand} {i : Nat} {l : List Value} {v : Value} (ho : o.op = .extract x i) (hx : evO ov x = some (.tuple ⟨l⟩)) (hv : l[i]? = some v) : ∀ tm, Rp ov tm → OpOk P o tm h ⟨v, h, [], [], false, true⟩ := fun tm hr => .pure fun D W => OpRun.extract ho (by rw [evO_eq hr hx]; simpa [aExtract] using hv)
theorem S.len {x : Operand} {t : TypeId} {a : Option Addr} {n cap : Nat} {e : TypeId} (ho : o.op = .call ⟨.builtin .len, #[x], #[t]⟩) (hx : evO ov x = some (.slice a n cap)) [hu : UN P t (.slice e)] : ∀ tm, Rp ov tm → OpOk P o tm h ⟨(.int .i64 n), h, [], [], false, true⟩ := fun tm hr => .pure fun D W => OpRun.len ho (by rw [evO_eq hr hx]; simp [aLen, hu.h]) (rd := []) (fun i hi => by cases hi)
theorem S.lenStr {x : Operand} {t : TypeId} {s : ByteArray} (ho : o.op = .call ⟨.builtin .len, #[x], #[t]⟩) (hx : evO ov x = some (.string s)) [hu : UN P t .string] : ∀ tm, Rp ov tm → OpOk P o tm h ⟨(.int .i64 s.size), h, [], [], false, true⟩ := fun tm hr => .pure fun D W => OpRun.len ho (by rw [evO_eq hr hx]; simp [aLen, hu.h]) (rd := []) (fun i hi => by cases hi)
theorem S.capB {x : Operand} {t : TypeId} {n cap : Nat} {e : TypeId} (ho : o.op = .call ⟨.builtin .cap, #[x], #[t]⟩) (hx : evO ov x = some (.slice none n cap)) [hu : UN P t (.slice e)] : ∀ tm, Rp ov tm → OpOk P o tm h ⟨(.int .i64 cap), h, [], [], false, true⟩ := fun tm hr => .pure fun D W => OpRun.cap ho (by rw [evO_eq hr hx]; simp [aCap, hu.h])
theorem S.append {x y : Operand} {t t₂ : TypeId} {u u' v : Value} {h' : AHeap} {rd wr : List Nat} (ho : o.op = .call ⟨.builtin .append, #[x, y], #[t, t₂]⟩) (hx : evO ov x = some u) (hy : evO ov y = some u') (hv : aAppend P h t t₂ u u' = some (v, h', rd, wr))  : ∀ tm, Rp ov tm → OpOk P o tm h ⟨v, h', rd, wr, false, false⟩ := fun tm hr => .write fun D W hD hW => OpRun.append ho (by rw [evO_eq hr hx, evO_eq hr hy]; exact hv) hD (fun i hi => (hW i hi).2)
theorem S.copy {x y : Operand} {t t₂ : TypeId} {u u' : Value} {n : Nat} {h' : AHeap} {rd wr : List Nat} (ho : o.op = .call ⟨.builtin .copy, #[x, y], #[t, t₂]⟩) (hx : evO ov x = some u) (hy : evO ov y = some u') (hv : aCopy P h t u u' = some (n, h', rd, wr))  : ∀ tm, Rp ov tm → OpOk P o tm h ⟨(.int .i64 n), h', rd, wr, false, false⟩ := fun tm hr => .write fun D W hD hW => OpRun.copy ho (by rw [evO_eq hr hx, evO_eq hr hy]; exact hv) hD (fun i hi => (hW i hi).2)
theorem S.calm {u : Value} {l : List Value}  (hl : evOs ov o.op.operands.toList = some l) (hdf : ∀ c, o.op ≠ .defer c) (hsl : ∀ cs b, o.op ≠ .select cs b) (hfl : l.all flatB = true) (hu : flatB u = true) (hc : ∀ ρ : Operand → Value, o.op.operands.toList.map ρ = l → calm P (execOp ρ o) = some (.value u)) : ∀ tm, Rp ov tm → OpOk P o tm h ⟨u, h, [], [], false, true⟩ := fun tm hr => .pure fun D W => OpRun.calm hdf hsl (fun x hx => by
   have e := evOs_eq hr hl
   have : evalT tm x ∈ l := by rw [← e]; exact List.mem_map_of_mem (by simpa using hx)
   exact List.all_eq_true.1 hfl _ this) (hc _ (evOs_eq hr hl)) hu
end
section
variable {P : Program} {W : Nat → Prop} {q : Bool} {N : Nat} {k : List It} {ov : Ov} {df : List Nat} {h : AHeap} {Q : PQ} {ops : Array Oper} {os : List Oper} {o : Oper} {d : Nat} {b₀ : Bool} {tr : List (Option LE)}
theorem GoR.move {x : Operand} {v : Value} (ho : o.op = .move x) (hd : o.dst = some d) (hN : dOk d N = true) (hgd : o.guard = none) (hx : evO ov x = some v) (g : GoR P W q N ops b₀ os k ((d, v) :: ov) df h Q) : GoR P W q N ops b₀ (o :: os) k ov df h Q := GoR.step (r := ⟨v, h, [], [], false, true⟩) hgd hd hN (S.move ho hx) (.inr rfl) (fun i hi => by cases hi) g
theorem GoL.move {x : Operand} {v : Value} (ho : o.op = .move x) (hd : o.dst = some d) (hN : dOk d N = true) (hgd : o.guard = none) (hx : evO ov x = some v) (g : GoL P W q N ops (tr ++ [none]) os k ((d, v) :: ov) df h Q) : GoL P W q N ops tr (o :: os) k ov df h Q := GoL.step (r := ⟨v, h, [], [], false, true⟩) none ⟨rfl, rfl, rfl, rfl, rfl⟩ hgd hd hN (S.move ho hx) (fun i hi => by cases hi) g
theorem GoR.assign {x : Operand} {v : Value} (ho : o.op = .assign x) (hd : o.dst = some d) (hN : dOk d N = true) (hgd : o.guard = none) (hx : evO ov x = some v) (g : GoR P W q N ops b₀ os k ((d, v) :: ov) df h Q) : GoR P W q N ops b₀ (o :: os) k ov df h Q := GoR.step (r := ⟨v, h, [], [], false, true⟩) hgd hd hN (S.assign ho hx) (.inr rfl) (fun i hi => by cases hi) g
theorem GoL.assign {x : Operand} {v : Value} (ho : o.op = .assign x) (hd : o.dst = some d) (hN : dOk d N = true) (hgd : o.guard = none) (hx : evO ov x = some v) (g : GoL P W q N ops (tr ++ [none]) os k ((d, v) :: ov) df h Q) : GoL P W q N ops tr (o :: os) k ov df h Q := GoL.step (r := ⟨v, h, [], [], false, true⟩) none ⟨rfl, rfl, rfl, rfl, rfl⟩ hgd hd hN (S.assign ho hx) (fun i hi => by cases hi) g
theorem GoR.pick {c x y : Operand} {B : Bool} {u v : Value} (ho : o.op = .pick c x y) (hd : o.dst = some d) (hN : dOk d N = true) (hgd : o.guard = none) (hc : evO ov c = some (.bool B)) (hx : evO ov x = some u) (hy : evO ov y = some v) (g : GoR P W q N ops b₀ os k ((d, (if B then u else v)) :: ov) df h Q) : GoR P W q N ops b₀ (o :: os) k ov df h Q := GoR.step (r := ⟨(if B then u else v), h, [], [], false, true⟩) hgd hd hN (S.pick ho hc hx hy) (.inr rfl) (fun i hi => by cases hi) g
theorem GoL.pick {c x y : Operand} {B : Bool} {u v : Value} (ho : o.op = .pick c x y) (hd : o.dst = some d) (hN : dOk d N = true) (hgd : o.guard = none) (hc : evO ov c = some (.bool B)) (hx : evO ov x = some u) (hy : evO ov y = some v) (g : GoL P W q N ops (tr ++ [none]) os k ((d, (if B then u else v)) :: ov) df h Q) : GoL P W q N ops tr (o :: os) k ov df h Q := GoL.step (r := ⟨(if B then u else v), h, [], [], false, true⟩) none ⟨rfl, rfl, rfl, rfl, rfl⟩ hgd hd hN (S.pick ho hc hx hy) (fun i hi => by cases hi) g
theorem GoR.alloc {t : TypeId} {c : List Value} (ho : o.op = .alloc t) (hd : o.dst = some d) (hN : dOk d N = true) (hgd : o.guard = none) [ha : AL P t c] (g : GoR P W q N ops b₀ os k ((d, (.pointer (some ⟨h.n, 0, none⟩))) :: ov) df (h.push (.cells c t)) Q) : GoR P W q N ops b₀ (o :: os) k ov df h Q := GoR.step (r := ⟨(.pointer (some ⟨h.n, 0, none⟩)), (h.push (.cells c t)), [], [], false, false⟩) hgd hd hN (S.alloc ho) (.inr rfl) (fun i hi => by cases hi) g
theorem GoL.alloc {t : TypeId} {c : List Value} (ho : o.op = .alloc t) (hd : o.dst = some d) (hN : dOk d N = true) (hgd : o.guard = none) [ha : AL P t c] (g : GoL P W q N ops (tr ++ [(some ⟨h.n, (h.n + 1), [], [], false, false⟩)]) os k ((d, (.pointer (some ⟨h.n, 0, none⟩))) :: ov) df (h.push (.cells c t)) Q) : GoL P W q N ops tr (o :: os) k ov df h Q := GoL.step (r := ⟨(.pointer (some ⟨h.n, 0, none⟩)), (h.push (.cells c t)), [], [], false, false⟩) (some ⟨h.n, (h.n + 1), [], [], false, false⟩) ⟨rfl, rfl, rfl, rfl, rfl, rfl⟩ hgd hd hN (S.alloc ho) (fun i hi => by cases hi) g
theorem GoR.box {t : TypeId} {x : Operand} {n : Nat} {v : Value} {c : List Value} (ho : o.op = .box t x) (hd : o.dst = some d) (hN : dOk d N = true) (hgd : o.guard = none) [hs : SZ P t n] (hx : evO ov x = some v) (hc : cellsL v = c) (g : GoR P W q N ops b₀ os k ((d, (.pointer (some ⟨h.n, 0, none⟩))) :: ov) df (h.push (.cells c t)) Q) : GoR P W q N ops b₀ (o :: os) k ov df h Q := GoR.step (r := ⟨(.pointer (some ⟨h.n, 0, none⟩)), (h.push (.cells c t)), [], [], false, false⟩) hgd hd hN (S.box ho hx hc) (.inr rfl) (fun i hi => by cases hi) g
theorem GoL.box {t : TypeId} {x : Operand} {n : Nat} {v : Value} {c : List Value} (ho : o.op = .box t x) (hd : o.dst = some d) (hN : dOk d N = true) (hgd : o.guard = none) [hs : SZ P t n] (hx : evO ov x = some v) (hc : cellsL v = c) (g : GoL P W q N ops (tr ++ [(some ⟨h.n, (h.n + 1), [], [], false, false⟩)]) os k ((d, (.pointer (some ⟨h.n, 0, none⟩))) :: ov) df (h.push (.cells c t)) Q) : GoL P W q N ops tr (o :: os) k ov df h Q := GoL.step (r := ⟨(.pointer (some ⟨h.n, 0, none⟩)), (h.push (.cells c t)), [], [], false, false⟩) (some ⟨h.n, (h.n + 1), [], [], false, false⟩) ⟨rfl, rfl, rfl, rfl, rfl, rfl⟩ hgd hd hN (S.box ho hx hc) (fun i hi => by cases hi) g
theorem GoR.build {t : TypeId} {ps : Array (Nat × Operand)} {z : List Value} {pl : List (Nat × Nat)} {vs : List (Nat × Value)} {c : List Value} (ho : o.op = .build t ps) (hd : o.dst = some d) (hN : dOk d N = true) (hgd : o.guard = none) [hs : ST P t z pl] (hp : evPs ov ps.toList = some vs) (hf : fillL (fun i => pl[i]?) z vs = some c) (g : GoR P W q N ops b₀ os k ((d, (.agg c.toArray)) :: ov) df h Q) : GoR P W q N ops b₀ (o :: os) k ov df h Q := GoR.step (r := ⟨(.agg c.toArray), h, [], [], false, true⟩) hgd hd hN (S.build ho hp hf) (.inr rfl) (fun i hi => by cases hi) g
theorem GoL.build {t : TypeId} {ps : Array (Nat × Operand)} {z : List Value} {pl : List (Nat × Nat)} {vs : List (Nat × Value)} {c : List Value} (ho : o.op = .build t ps) (hd : o.dst = some d) (hN : dOk d N = true) (hgd : o.guard = none) [hs : ST P t z pl] (hp : evPs ov ps.toList = some vs) (hf : fillL (fun i => pl[i]?) z vs = some c) (g : GoL P W q N ops (tr ++ [none]) os k ((d, (.agg c.toArray)) :: ov) df h Q) : GoL P W q N ops tr (o :: os) k ov df h Q := GoL.step (r := ⟨(.agg c.toArray), h, [], [], false, true⟩) none ⟨rfl, rfl, rfl, rfl, rfl⟩ hgd hd hN (S.build ho hp hf) (fun i hi => by cases hi) g
theorem GoR.buildSlice {t e : TypeId} {len sz : Nat} {z : Value} {ps : Array (Nat × Operand)} {vs : List (Nat × Value)} {c : List Value} (ho : o.op = .buildSlice t len ps) (hd : o.dst = some d) (hN : dOk d N = true) (hgd : o.guard = none) [hs : BS P t e sz z] (hp : evPs ov ps.toList = some vs) (hl : len * sz ≤ 16777216) (hf : fillL (fun i => some (i * sz, sz)) ((List.replicate len (Value.cells z).toList).flatten) vs = some c) (g : GoR P W q N ops b₀ os k ((d, (.slice (some ⟨h.n, 0, none⟩) len len)) :: ov) df (h.push (.cells c e)) Q) : GoR P W q N ops b₀ (o :: os) k ov df h Q := GoR.step (r := ⟨(.slice (some ⟨h.n, 0, none⟩) len len), (h.push (.cells c e)), [], [], false, false⟩) hgd hd hN (S.buildSlice ho hp hl hf) (.inr rfl) (fun i hi => by cases hi) g
theorem GoL.buildSlice {t e : TypeId} {len sz : Nat} {z : Value} {ps : Array (Nat × Operand)} {vs : List (Nat × Value)} {c : List Value} (ho : o.op = .buildSlice t len ps) (hd : o.dst = some d) (hN : dOk d N = true) (hgd : o.guard = none) [hs : BS P t e sz z] (hp : evPs ov ps.toList = some vs) (hl : len * sz ≤ 16777216) (hf : fillL (fun i => some (i * sz, sz)) ((List.replicate len (Value.cells z).toList).flatten) vs = some c) (g : GoL P W q N ops (tr ++ [(some ⟨h.n, (h.n + 1), [], [], false, false⟩)]) os k ((d, (.slice (some ⟨h.n, 0, none⟩) len len)) :: ov) df (h.push (.cells c e)) Q) : GoL P W q N ops tr (o :: os) k ov df h Q := GoL.step (r := ⟨(.slice (some ⟨h.n, 0, none⟩) len len), (h.push (.cells c e)), [], [], false, false⟩) (some ⟨h.n, (h.n + 1), [], [], false, false⟩) ⟨rfl, rfl, rfl, rfl, rfl, rfl⟩ hgd hd hN (S.buildSlice ho hp hl hf) (fun i hi => by cases hi) g
theorem GoR.load {t ct : TypeId} {x : Operand} {b off : Nat} {c : List Value} {v : Value} (ho : o.op = .load t x) (hd : o.dst = some d) (hN : dOk d N = true) (hgd : o.guard = none) (hx : evO ov x = some (.pointer (some ⟨b, off, none⟩))) [hc : CT P t none] (hg : h.get b = some (.cells c ct)) (hv : c[off]? = some v) (g : GoR P W q N ops b₀ os k ((d, v) :: ov) df h Q) : GoR P W q N ops b₀ (o :: os) k ov df h Q := GoR.step (r := ⟨v, h, [b], [], false, true⟩) hgd hd hN (S.load ho hx hg hv) (.inr rfl) (fun i hi => by cases hi) g
theorem GoL.load {t ct : TypeId} {x : Operand} {b off : Nat} {c : List Value} {v : Value} (ho : o.op = .load t x) (hd : o.dst = some d) (hN : dOk d N = true) (hgd : o.guard = none) (hx : evO ov x = some (.pointer (some ⟨b, off, none⟩))) [hc : CT P t none] (hg : h.get b = some (.cells c ct)) (hv : c[off]? = some v) (g : GoL P W q N ops (tr ++ [(some ⟨h.n, h.n, [b], [], false, true⟩)]) os k ((d, v) :: ov) df h Q) : GoL P W q N ops tr (o :: os) k ov df h Q := GoL.step (r := ⟨v, h, [b], [], false, true⟩) (some ⟨h.n, h.n, [b], [], false, true⟩) ⟨rfl, rfl, rfl, rfl, rfl, rfl⟩ hgd hd hN (S.load ho hx hg hv) (fun i hi => by cases hi) g
theorem GoR.loadN {t ct : TypeId} {x : Operand} {b off n : Nat} {c l : List Value} (ho : o.op = .load t x) (hd : o.dst = some d) (hN : dOk d N = true) (hgd : o.guard = none) (hx : evO ov x = some (.pointer (some ⟨b, off, none⟩))) [hc : CT P t (some n)] (hg : h.get b = some (.cells c ct)) (hl : off + n ≤ c.length) (hv : (c.drop off).take n = l) (g : GoR P W q N ops b₀ os k ((d, (.agg l.toArray)) :: ov) df h Q) : GoR P W q N ops b₀ (o :: os) k ov df h Q := GoR.step (r := ⟨(.agg l.toArray), h, [b], [], false, true⟩) hgd hd hN (S.loadN ho hx hg hl hv) (.inr rfl) (fun i hi => by cases hi) g
theorem GoL.loadN {t ct : TypeId} {x : Operand} {b off n : Nat} {c l : List Value} (ho : o.op = .load t x) (hd : o.dst = some d) (hN : dOk d N = true) (hgd : o.guard = none) (hx : evO ov x = some (.pointer (some ⟨b, off, none⟩))) [hc : CT P t (some n)] (hg : h.get b = some (.cells c ct)) (hl : off + n ≤ c.length) (hv : (c.drop off).take n = l) (g : GoL P W q N ops (tr ++ [(some ⟨h.n, h.n, [b], [], false, true⟩)]) os k ((d, (.agg l.toArray)) :: ov) df h Q) : GoL P W q N ops tr (o :: os) k ov df h Q := GoL.step (r := ⟨(.agg l.toArray), h, [b], [], false, true⟩) (some ⟨h.n, h.n, [b], [], false, true⟩) ⟨rfl, rfl, rfl, rfl, rfl, rfl⟩ hgd hd hN (S.loadN ho hx hg hl hv) (fun i hi => by cases hi) g
theorem GoR.store {t ct : TypeId} {x y : Operand} {b off n : Nat} {c l c' : List Value} {v : Value} (ho : o.op = .store t x y) (hd : o.dst = none) (hgd : o.guard = none) (hx : evO ov x = some (.pointer (some ⟨b, off, none⟩))) (hy : evO ov y = some v) [hs : SZ P t n] (hg : h.get b = some (.cells c ct)) (hl : cellsL v = l) (h1 : l.length = n) (h2 : off + n ≤ c.length) (h3 : l.all Value.oneCell' = true) (hc : setL c off l = c') (hw : W b) (g : GoR P W q N ops true os k ov df (h.put b (some (.cells c' ct))) Q) : GoR P W q N ops true (o :: os) k ov df h Q := GoR.step0 (r := ⟨undef, (h.put b (some (.cells c' ct))), [b], [b], false, false⟩) hgd hd (S.store ho hx hy hg hl h1 h2 h3 hc) (.inl rfl) (fun i hi => by simp at hi; subst hi; exact hw) g
theorem GoL.store {t ct : TypeId} {x y : Operand} {b off n : Nat} {c l c' : List Value} {v : Value} (ho : o.op = .store t x y) (hd : o.dst = none) (hgd : o.guard = none) (hx : evO ov x = some (.pointer (some ⟨b, off, none⟩))) (hy : evO ov y = some v) [hs : SZ P t n] (hg : h.get b = some (.cells c ct)) (hl : cellsL v = l) (h1 : l.length = n) (h2 : off + n ≤ c.length) (h3 : l.all Value.oneCell' = true) (hc : setL c off l = c') (hw : W b) (g : GoL P W q N ops (tr ++ [(some ⟨h.n, h.n, [b], [b], false, false⟩)]) os k ov df (h.put b (some (.cells c' ct))) Q) : GoL P W q N ops tr (o :: os) k ov df h Q := GoL.step0 (r := ⟨undef, (h.put b (some (.cells c' ct))), [b], [b], false, false⟩) (some ⟨h.n, h.n, [b], [b], false, false⟩) ⟨rfl, rfl, rfl, rfl, rfl, rfl⟩ hgd hd (S.store ho hx hy hg hl h1 h2 h3 hc) (fun i hi => by simp at hi; subst hi; exact hw) g
theorem GoR.nilCheck {x : Operand} {b off : Nat} (ho : o.op = .nilCheck x) (hd : o.dst = some d) (hN : dOk d N = true) (hgd : o.guard = none) (hx : evO ov x = some (.pointer (some ⟨b, off, none⟩))) (g : GoR P W q N ops b₀ os k ((d, (.pointer (some ⟨b, off, none⟩))) :: ov) df h Q) : GoR P W q N ops b₀ (o :: os) k ov df h Q := GoR.step (r := ⟨(.pointer (some ⟨b, off, none⟩)), h, [], [], false, true⟩) hgd hd hN (S.nilCheck ho hx) (.inr rfl) (fun i hi => by cases hi) g
theorem GoL.nilCheck {x : Operand} {b off : Nat} (ho : o.op = .nilCheck x) (hd : o.dst = some d) (hN : dOk d N = true) (hgd : o.guard = none) (hx : evO ov x = some (.pointer (some ⟨b, off, none⟩))) (g : GoL P W q N ops (tr ++ [none]) os k ((d, (.pointer (some ⟨b, off, none⟩))) :: ov) df h Q) : GoL P W q N ops tr (o :: os) k ov df h Q := GoL.step (r := ⟨(.pointer (some ⟨b, off, none⟩)), h, [], [], false, true⟩) none ⟨rfl, rfl, rfl, rfl, rfl⟩ hgd hd hN (S.nilCheck ho hx) (fun i hi => by cases hi) g
theorem GoR.nilCheckF {x : Operand} {f : FuncId} {a b : Array Value} (ho : o.op = .nilCheck x) (hd : o.dst = some d) (hN : dOk d N = true) (hgd : o.guard = none) (hx : evO ov x = some (.func (.func f) a b)) (g : GoR P W q N ops b₀ os k ((d, (.func (.func f) a b)) :: ov) df h Q) : GoR P W q N ops b₀ (o :: os) k ov df h Q := GoR.step (r := ⟨(.func (.func f) a b), h, [], [], false, true⟩) hgd hd hN (S.nilCheckF ho hx) (.inr rfl) (fun i hi => by cases hi) g
theorem GoL.nilCheckF {x : Operand} {f : FuncId} {a b : Array Value} (ho : o.op = .nilCheck x) (hd : o.dst = some d) (hN : dOk d N = true) (hgd : o.guard = none) (hx : evO ov x = some (.func (.func f) a b)) (g : GoL P W q N ops (tr ++ [none]) os k ((d, (.func (.func f) a b)) :: ov) df h Q) : GoL P W q N ops tr (o :: os) k ov df h Q := GoL.step (r := ⟨(.func (.func f) a b), h, [], [], false, true⟩) none ⟨rfl, rfl, rfl, rfl, rfl⟩ hgd hd hN (S.nilCheckF ho hx) (fun i hi => by cases hi) g
theorem GoR.bin {op : BinOp} {t t₂ : TypeId} {x y : Operand} {kd : IntKind} {i j : Int} {v : Value} (ho : o.op = .binOp op t x y t₂) (hd : o.dst = some d) (hN : dOk d N = true) (hgd : o.guard = none) (hx : evO ov x = some (.int kd i)) (hy : evO ov y = some (.int kd j)) (hv : iBin op kd i j = some v) (g : GoR P W q N ops b₀ os k ((d, v) :: ov) df h Q) : GoR P W q N ops b₀ (o :: os) k ov df h Q := GoR.step (r := ⟨v, h, [], [], false, true⟩) hgd hd hN (S.bin ho hx hy hv) (.inr rfl) (fun i hi => by cases hi) g
theorem GoL.bin {op : BinOp} {t t₂ : TypeId} {x y : Operand} {kd : IntKind} {i j : Int} {v : Value} (ho : o.op = .binOp op t x y t₂) (hd : o.dst = some d) (hN : dOk d N = true) (hgd : o.guard = none) (hx : evO ov x = some (.int kd i)) (hy : evO ov y = some (.int kd j)) (hv : iBin op kd i j = some v) (g : GoL P W q N ops (tr ++ [none]) os k ((d, v) :: ov) df h Q) : GoL P W q N ops tr (o :: os) k ov df h Q := GoL.step (r := ⟨v, h, [], [], false, true⟩) none ⟨rfl, rfl, rfl, rfl, rfl⟩ hgd hd hN (S.bin ho hx hy hv) (fun i hi => by cases hi) g
theorem GoR.shift {op : BinOp} {t t₂ : TypeId} {x y : Operand} {kd kd' : IntKind} {i j : Int} {v : Value} (ho : o.op = .binOp op t x y t₂) (hd : o.dst = some d) (hN : dOk d N = true) (hgd : o.guard = none) (hx : evO ov x = some (.int kd i)) (hy : evO ov y = some (.int kd' j)) (hv : iSh op kd i j = some v) (g : GoR P W q N ops b₀ os k ((d, v) :: ov) df h Q) : GoR P W q N ops b₀ (o :: os) k ov df h Q := GoR.step (r := ⟨v, h, [], [], false, true⟩) hgd hd hN (S.shift ho hx hy hv) (.inr rfl) (fun i hi => by cases hi) g
theorem GoL.shift {op : BinOp} {t t₂ : TypeId} {x y : Operand} {kd kd' : IntKind} {i j : Int} {v : Value} (ho : o.op = .binOp op t x y t₂) (hd : o.dst = some d) (hN : dOk d N = true) (hgd : o.guard = none) (hx : evO ov x = some (.int kd i)) (hy : evO ov y = some (.int kd' j)) (hv : iSh op kd i j = some v) (g : GoL P W q N ops (tr ++ [none]) os k ((d, v) :: ov) df h Q) : GoL P W q N ops tr (o :: os) k ov df h Q := GoL.step (r := ⟨v, h, [], [], false, true⟩) none ⟨rfl, rfl, rfl, rfl, rfl⟩ hgd hd hN (S.shift ho hx hy hv) (fun i hi => by cases hi) g
theorem GoR.not {t : TypeId} {x : Operand} {B : Bool} (ho : o.op = .unOp .not t x) (hd : o.dst = some d) (hN : dOk d N = true) (hgd : o.guard = none) (hx : evO ov x = some (.bool B)) (g : GoR P W q N ops b₀ os k ((d, (.bool (!B))) :: ov) df h Q) : GoR P W q N ops b₀ (o :: os) k ov df h Q := GoR.step (r := ⟨(.bool (!B)), h, [], [], false, true⟩) hgd hd hN (S.not ho hx) (.inr rfl) (fun i hi => by cases hi) g
theorem GoL.not {t : TypeId} {x : Operand} {B : Bool} (ho : o.op = .unOp .not t x) (hd : o.dst = some d) (hN : dOk d N = true) (hgd : o.guard = none) (hx : evO ov x = some (.bool B)) (g : GoL P W q N ops (tr ++ [none]) os k ((d, (.bool (!B))) :: ov) df h Q) : GoL P W q N ops tr (o :: os) k ov df h Q := GoL.step (r := ⟨(.bool (!B)), h, [], [], false, true⟩) none ⟨rfl, rfl, rfl, rfl, rfl⟩ hgd hd hN (S.not ho hx) (fun i hi => by cases hi) g
theorem GoR.neg {t : TypeId} {x : Operand} {kd : IntKind} {i : Int} (ho : o.op = .unOp .neg t x) (hd : o.dst = some d) (hN : dOk d N = true) (hgd : o.guard = none) (hx : evO ov x = some (.int kd i)) (g : GoR P W q N ops b₀ os k ((d, (.int kd (kd.wrap (0 - i)))) :: ov) df h Q) : GoR P W q N ops b₀ (o :: os) k ov df h Q := GoR.step (r := ⟨(.int kd (kd.wrap (0 - i))), h, [], [], false, true⟩) hgd hd hN (S.neg ho hx) (.inr rfl) (fun i hi => by cases hi) g
theorem GoL.neg {t : TypeId} {x : Operand} {kd : IntKind} {i : Int} (ho : o.op = .unOp .neg t x) (hd : o.dst = some d) (hN : dOk d N = true) (hgd : o.guard = none) (hx : evO ov x = some (.int kd i)) (g : GoL P W q N ops (tr ++ [none]) os k ((d, (.int kd (kd.wrap (0 - i)))) :: ov) df h Q) : GoL P W q N ops tr (o :: os) k ov df h Q := GoL.step (r := ⟨(.int kd (kd.wrap (0 - i))), h, [], [], false, true⟩) none ⟨rfl, rfl, rfl, rfl, rfl⟩ hgd hd hN (S.neg ho hx) (fun i hi => by cases hi) g
theorem GoR.com {t : TypeId} {x : Operand} {kd : IntKind} {i : Int} {v : Value} (ho : o.op = .unOp .xor t x) (hd : o.dst = some d) (hN : dOk d N = true) (hgd : o.guard = none) (hx : evO ov x = some (.int kd i)) (hv : iBin .xor kd (if kd.signed then -1 else kd.max) i = some v) (g : GoR P W q N ops b₀ os k ((d, v) :: ov) df h Q) : GoR P W q N ops b₀ (o :: os) k ov df h Q := GoR.step (r := ⟨v, h, [], [], false, true⟩) hgd hd hN (S.com ho hx hv) (.inr rfl) (fun i hi => by cases hi) g
theorem GoL.com {t : TypeId} {x : Operand} {kd : IntKind} {i : Int} {v : Value} (ho : o.op = .unOp .xor t x) (hd : o.dst = some d) (hN : dOk d N = true) (hgd : o.guard = none) (hx : evO ov x = some (.int kd i)) (hv : iBin .xor kd (if kd.signed then -1 else kd.max) i = some v) (g : GoL P W q N ops (tr ++ [none]) os k ((d, v) :: ov) df h Q) : GoL P W q N ops tr (o :: os) k ov df h Q := GoL.step (r := ⟨v, h, [], [], false, true⟩) none ⟨rfl, rfl, rfl, rfl, rfl⟩ hgd hd hN (S.com ho hx hv) (fun i hi => by cases hi) g
theorem GoR.conv {t t₂ : TypeId} {x : Operand} {kd kd' : IntKind} {i : Int} (ho : o.op = .convert t t₂ x) (hd : o.dst = some d) (hN : dOk d N = true) (hgd : o.guard = none) (hx : evO ov x = some (.int kd' i)) [hc : IC P t t₂ kd] (g : GoR P W q N ops b₀ os k ((d, (.int kd (kd.wrap i))) :: ov) df h Q) : GoR P W q N ops b₀ (o :: os) k ov df h Q := GoR.step (r := ⟨(.int kd (kd.wrap i)), h, [], [], false, true⟩) hgd hd hN (S.conv ho hx) (.inr rfl) (fun i hi => by cases hi) g
theorem GoL.conv {t t₂ : TypeId} {x : Operand} {kd kd' : IntKind} {i : Int} (ho : o.op = .convert t t₂ x) (hd : o.dst = some d) (hN : dOk d N = true) (hgd : o.guard = none) (hx : evO ov x = some (.int kd' i)) [hc : IC P t t₂ kd] (g : GoL P W q N ops (tr ++ [none]) os k ((d, (.int kd (kd.wrap i))) :: ov) df h Q) : GoL P W q N ops tr (o :: os) k ov df h Q := GoL.step (r := ⟨(.int kd (kd.wrap i)), h, [], [], false, true⟩) none ⟨rfl, rfl, rfl, rfl, rfl⟩ hgd hd hN (S.conv ho hx) (fun i hi => by cases hi) g
theorem GoR.convStr {t t₂ : TypeId} {x : Operand} {v : Value} {s : ByteArray} {rd : List Nat} (ho : o.op = .convert t t₂ x) (hd : o.dst = some d) (hN : dOk d N = true) (hgd : o.guard = none) (hx : evO ov x = some v) (hs : aStr P h t t₂ v = some (s, rd)) (g : GoR P W q N ops b₀ os k ((d, (.string s)) :: ov) df h Q) : GoR P W q N ops b₀ (o :: os) k ov df h Q := GoR.step (r := ⟨(.string s), h, rd, [], false, true⟩) hgd hd hN (S.convStr ho hx hs) (.inr rfl) (fun i hi => by cases hi) g
theorem GoL.convStr {t t₂ : TypeId} {x : Operand} {v : Value} {s : ByteArray} {rd : List Nat} (ho : o.op = .convert t t₂ x) (hd : o.dst = some d) (hN : dOk d N = true) (hgd : o.guard = none) (hx : evO ov x = some v) (hs : aStr P h t t₂ v = some (s, rd)) (g : GoL P W q N ops (tr ++ [(some ⟨h.n, h.n, rd, [], false, true⟩)]) os k ((d, (.string s)) :: ov) df h Q) : GoL P W q N ops tr (o :: os) k ov df h Q := GoL.step (r := ⟨(.string s), h, rd, [], false, true⟩) (some ⟨h.n, h.n, rd, [], false, true⟩) ⟨rfl, rfl, rfl, rfl, rfl, rfl⟩ hgd hd hN (S.convStr ho hx hs) (fun i hi => by cases hi) g
theorem GoR.convBytes {t t₂ : TypeId} {x : Operand} {v : Value} {n : Nat} {a : AObj} (ho : o.op = .convert t t₂ x) (hd : o.dst = some d) (hN : dOk d N = true) (hgd : o.guard = none) (hx : evO ov x = some v) (hs : aBytes P t t₂ v = some (n, a)) (g : GoR P W q N ops b₀ os k ((d, (.slice (some ⟨h.n, 0, none⟩) n n)) :: ov) df (h.push a) Q) : GoR P W q N ops b₀ (o :: os) k ov df h Q := GoR.step (r := ⟨(.slice (some ⟨h.n, 0, none⟩) n n), (h.push a), [], [], false, false⟩) hgd hd hN (S.convBytes ho hx hs) (.inr rfl) (fun i hi => by cases hi) g
theorem GoL.convBytes {t t₂ : TypeId} {x : Operand} {v : Value} {n : Nat} {a : AObj} (ho : o.op = .convert t t₂ x) (hd : o.dst = some d) (hN : dOk d N = true) (hgd : o.guard = none) (hx : evO ov x = some v) (hs : aBytes P t t₂ v = some (n, a)) (g : GoL P W q N ops (tr ++ [(some ⟨h.n, (h.n + 1), [], [], false, false⟩)]) os k ((d, (.slice (some ⟨h.n, 0, none⟩) n n)) :: ov) df (h.push a) Q) : GoL P W q N ops tr (o :: os) k ov df h Q := GoL.step (r := ⟨(.slice (some ⟨h.n, 0, none⟩) n n), (h.push a), [], [], false, false⟩) (some ⟨h.n, (h.n + 1), [], [], false, false⟩) ⟨rfl, rfl, rfl, rfl, rfl, rfl⟩ hgd hd hN (S.convBytes ho hx hs) (fun i hi => by cases hi) g
theorem GoR.makeFunc {fn : FuncId} {xs ys : Array Operand} {us vs : List Value} (ho : o.op = .makeFunc (.func fn) xs ys) (hd : o.dst = some d) (hN : dOk d N = true) (hgd : o.guard = none) (hx : evOs ov xs.toList = some us) (hy : evOs ov ys.toList = some vs) (g : GoR P W q N ops b₀ os k ((d, (.func (.func fn) us.toArray vs.toArray)) :: ov) df h Q) : GoR P W q N ops b₀ (o :: os) k ov df h Q := GoR.step (r := ⟨(.func (.func fn) us.toArray vs.toArray), h, [], [], false, true⟩) hgd hd hN (S.makeFunc ho hx hy) (.inr rfl) (fun i hi => by cases hi) g
theorem GoL.makeFunc {fn : FuncId} {xs ys : Array Operand} {us vs : List Value} (ho : o.op = .makeFunc (.func fn) xs ys) (hd : o.dst = some d) (hN : dOk d N = true) (hgd : o.guard = none) (hx : evOs ov xs.toList = some us) (hy : evOs ov ys.toList = some vs) (g : GoL P W q N ops (tr ++ [none]) os k ((d, (.func (.func fn) us.toArray vs.toArray)) :: ov) df h Q) : GoL P W q N ops tr (o :: os) k ov df h Q := GoL.step (r := ⟨(.func (.func fn) us.toArray vs.toArray), h, [], [], false, true⟩) none ⟨rfl, rfl, rfl, rfl, rfl⟩ hgd hd hN (S.makeFunc ho hx hy) (fun i hi => by cases hi) g
theorem GoR.makeSlice {t : TypeId} {x y : Operand} {u v : Value} {l c : Nat} {a : AObj} (ho : o.op = .makeSlice t x y) (hd : o.dst = some d) (hN : dOk d N = true) (hgd : o.guard = none) (hx : evO ov x = some u) (hy : evO ov y = some v) (ha : aMake P t u v = some (l, c, a)) (g : GoR P W q N ops b₀ os k ((d, (.slice (some ⟨h.n, 0, none⟩) l c)) :: ov) df (h.push a) Q) : GoR P W q N ops b₀ (o :: os) k ov df h Q := GoR.step (r := ⟨(.slice (some ⟨h.n, 0, none⟩) l c), (h.push a), [], [], false, false⟩) hgd hd hN (S.makeSlice ho hx hy ha) (.inr rfl) (fun i hi => by cases hi) g
theorem GoL.makeSlice {t : TypeId} {x y : Operand} {u v : Value} {l c : Nat} {a : AObj} (ho : o.op = .makeSlice t x y) (hd : o.dst = some d) (hN : dOk d N = true) (hgd : o.guard = none) (hx : evO ov x = some u) (hy : evO ov y = some v) (ha : aMake P t u v = some (l, c, a)) (g : GoL P W q N ops (tr ++ [(some ⟨h.n, (h.n + 1), [], [], false, false⟩)]) os k ((d, (.slice (some ⟨h.n, 0, none⟩) l c)) :: ov) df (h.push a) Q) : GoL P W q N ops tr (o :: os) k ov df h Q := GoL.step (r := ⟨(.slice (some ⟨h.n, 0, none⟩) l c), (h.push a), [], [], false, false⟩) (some ⟨h.n, (h.n + 1), [], [], false, false⟩) ⟨rfl, rfl, rfl, rfl, rfl, rfl⟩ hgd hd hN (S.makeSlice ho hx hy ha) (fun i hi => by cases hi) g
theorem GoR.slice {t : TypeId} {x : Operand} {lo hi mx : Option Operand} {u v : Value} {lo' hi' mx' : Option Value} (ho : o.op = .slice t x lo hi mx) (hd : o.dst = some d) (hN : dOk d N = true) (hgd : o.guard = none) (hx : evO ov x = some u) (hlo : lo.map (evO ov) = lo'.map some) (hhi : hi.map (evO ov) = hi'.map some) (hmx : mx.map (evO ov) = mx'.map some) (hv : aSlice P h t lo' hi' mx' u = some v) (g : GoR P W q N ops b₀ os k ((d, v) :: ov) df h Q) : GoR P W q N ops b₀ (o :: os) k ov df h Q := GoR.step (r := ⟨v, h, [], [], false, true⟩) hgd hd hN (S.slice ho hx hlo hhi hmx hv) (.inr rfl) (fun i hi => by cases hi) g
theorem GoL.slice {t : TypeId} {x : Operand} {lo hi mx : Option Operand} {u v : Value} {lo' hi' mx' : Option Value} (ho : o.op = .slice t x lo hi mx) (hd : o.dst = some d) (hN : dOk d N = true) (hgd : o.guard = none) (hx : evO ov x = some u) (hlo : lo.map (evO ov) = lo'.map some) (hhi : hi.map (evO ov) = hi'.map some) (hmx : mx.map (evO ov) = mx'.map some) (hv : aSlice P h t lo' hi' mx' u = some v) (g : GoL P W q N ops (tr ++ [none]) os k ((d, v) :: ov) df h Q) : GoL P W q N ops tr (o :: os) k ov df h Q := GoL.step (r := ⟨v, h, [], [], false, true⟩) none ⟨rfl, rfl, rfl, rfl, rfl⟩ hgd hd hN (S.slice ho hx hlo hhi hmx hv) (fun i hi => by cases hi) g
theorem GoR.fieldAddr {s : TypeId} {f kk : Nat} {x : Operand} {b off : Nat} (ho : o.op = .fieldAddr s x f) (hd : o.dst = some d) (hN : dOk d N = true) (hgd : o.guard = none) (hx : evO ov x = some (.pointer (some ⟨b, off, none⟩))) [hf : FO P s f kk] (g : GoR P W q N ops b₀ os k ((d, (.pointer (some ⟨b, off + kk, none⟩))) :: ov) df h Q) : GoR P W q N ops b₀ (o :: os) k ov df h Q := GoR.step (r := ⟨(.pointer (some ⟨b, off + kk, none⟩)), h, [], [], false, true⟩) hgd hd hN (S.fieldAddr ho hx) (.inr rfl) (fun i hi => by cases hi) g
theorem GoL.fieldAddr {s : TypeId} {f kk : Nat} {x : Operand} {b off : Nat} (ho : o.op = .fieldAddr s x f) (hd : o.dst = some d) (hN : dOk d N = true) (hgd : o.guard = none) (hx : evO ov x = some (.pointer (some ⟨b, off, none⟩))) [hf : FO P s f kk] (g : GoL P W q N ops (tr ++ [none]) os k ((d, (.pointer (some ⟨b, off + kk, none⟩))) :: ov) df h Q) : GoL P W q N ops tr (o :: os) k ov df h Q := GoL.step (r := ⟨(.pointer (some ⟨b, off + kk, none⟩)), h, [], [], false, true⟩) none ⟨rfl, rfl, rfl, rfl, rfl⟩ hgd hd hN (S.fieldAddr ho hx) (fun i hi => by cases hi) g
theorem GoR.field {s : TypeId} {f : Nat} {x : Operand} {u v : Value} (ho : o.op = .field s x f) (hd : o.dst = some d) (hN : dOk d N = true) (hgd : o.guard = none) (hx : evO ov x = some u) (hv : aFieldOf P s f u = some v) (g : GoR P W q N ops b₀ os k ((d, v) :: ov) df h Q) : GoR P W q N ops b₀ (o :: os) k ov df h Q := GoR.step (r := ⟨v, h, [], [], false, true⟩) hgd hd hN (S.field ho hx hv) (.inr rfl) (fun i hi => by cases hi) g
theorem GoL.field {s : TypeId} {f : Nat} {x : Operand} {u v : Value} (ho : o.op = .field s x f) (hd : o.dst = some d) (hN : dOk d N = true) (hgd : o.guard = none) (hx : evO ov x = some u) (hv : aFieldOf P s f u = some v) (g : GoL P W q N ops (tr ++ [none]) os k ((d, v) :: ov) df h Q) : GoL P W q N ops tr (o :: os) k ov df h Q := GoL.step (r := ⟨v, h, [], [], false, true⟩) none ⟨rfl, rfl, rfl, rfl, rfl⟩ hgd hd hN (S.field ho hx hv) (fun i hi => by cases hi) g
theorem GoR.indexS {t : TypeId} {n : Nat} {x y : Operand} {b off len cap : Nat} {kk : IntKind} {i : Int} (ho : o.op = .indexAddr t x y) (hd : o.dst = some d) (hN : dOk d N = true) (hgd : o.guard = none) (hx : evO ov x = some (.slice (some ⟨b, off, none⟩) len cap)) (hy : evO ov y = some (.int kk i)) [he : EL P t (none, n)] (h0 : 0 ≤ i) (h1 : i < (len : Int)) (g : GoR P W q N ops b₀ os k ((d, (.pointer (some ⟨b, off + i.toNat * n, none⟩))) :: ov) df h Q) : GoR P W q N ops b₀ (o :: os) k ov df h Q := GoR.step (r := ⟨(.pointer (some ⟨b, off + i.toNat * n, none⟩)), h, [], [], false, true⟩) hgd hd hN (S.indexS ho hx hy h0 h1) (.inr rfl) (fun i hi => by cases hi) g
theorem GoL.indexS {t : TypeId} {n : Nat} {x y : Operand} {b off len cap : Nat} {kk : IntKind} {i : Int} (ho : o.op = .indexAddr t x y) (hd : o.dst = some d) (hN : dOk d N = true) (hgd : o.guard = none) (hx : evO ov x = some (.slice (some ⟨b, off, none⟩) len cap)) (hy : evO ov y = some (.int kk i)) [he : EL P t (none, n)] (h0 : 0 ≤ i) (h1 : i < (len : Int)) (g : GoL P W q N ops (tr ++ [none]) os k ((d, (.pointer (some ⟨b, off + i.toNat * n, none⟩))) :: ov) df h Q) : GoL P W q N ops tr (o :: os) k ov df h Q := GoL.step (r := ⟨(.pointer (some ⟨b, off + i.toNat * n, none⟩)), h, [], [], false, true⟩) none ⟨rfl, rfl, rfl, rfl, rfl⟩ hgd hd hN (S.indexS ho hx hy h0 h1) (fun i hi => by cases hi) g
theorem GoR.indexA {t : TypeId} {n len : Nat} {x y : Operand} {b off : Nat} {kk : IntKind} {i : Int} (ho : o.op = .indexAddr t x y) (hd : o.dst = some d) (hN : dOk d N = true) (hgd : o.guard = none) (hx : evO ov x = some (.pointer (some ⟨b, off, none⟩))) (hy : evO ov y = some (.int kk i)) [he : EL P t (some len, n)] (h0 : 0 ≤ i) (h1 : i < (len : Int)) (g : GoR P W q N ops b₀ os k ((d, (.pointer (some ⟨b, off + i.toNat * n, none⟩))) :: ov) df h Q) : GoR P W q N ops b₀ (o :: os) k ov df h Q := GoR.step (r := ⟨(.pointer (some ⟨b, off + i.toNat * n, none⟩)), h, [], [], false, true⟩) hgd hd hN (S.indexA ho hx hy h0 h1) (.inr rfl) (fun i hi => by cases hi) g
theorem GoL.indexA {t : TypeId} {n len : Nat} {x y : Operand} {b off : Nat} {kk : IntKind} {i : Int} (ho : o.op = .indexAddr t x y) (hd : o.dst = some d) (hN : dOk d N = true) (hgd : o.guard = none) (hx : evO ov x = some (.pointer (some ⟨b, off, none⟩))) (hy : evO ov y = some (.int kk i)) [he : EL P t (some len, n)] (h0 : 0 ≤ i) (h1 : i < (len : Int)) (g : GoL P W q N ops (tr ++ [none]) os k ((d, (.pointer (some ⟨b, off + i.toNat * n, none⟩))) :: ov) df h Q) : GoL P W q N ops tr (o :: os) k ov df h Q := GoL.step (r := ⟨(.pointer (some ⟨b, off + i.toNat * n, none⟩)), h, [], [], false, true⟩) none ⟨rfl, rfl, rfl, rfl, rfl⟩ hgd hd hN (S.indexA ho hx hy h0 h1) (fun i hi => by cases hi) g
theorem GoR.index {t : TypeId} {x y : Operand} {u u' v : Value} (ho : o.op = .index t x y) (hd : o.dst = some d) (hN : dOk d N = true) (hgd : o.guard = none) (hx : evO ov x = some u) (hy : evO ov y = some u') (hv : aIndex P t u u' = some v) (g : GoR P W q N ops b₀ os k ((d, v) :: ov) df h Q) : GoR P W q N ops b₀ (o :: os) k ov df h Q := GoR.step (r := ⟨v, h, [], [], false, true⟩) hgd hd hN (S.index ho hx hy hv) (.inr rfl) (fun i hi => by cases hi) g
theorem GoL.index {t : TypeId} {x y : Operand} {u u' v : Value} (ho : o.op = .index t x y) (hd : o.dst = some d) (hN : dOk d N = true) (hgd : o.guard = none) (hx : evO ov x = some u) (hy : evO ov y = some u') (hv : aIndex P t u u' = some v) (g : GoL P W q N ops (tr ++ [none]) os k ((d, v) :: ov) df h Q) : GoL P W q N ops tr (o :: os) k ov df h Q := GoL.step (r := ⟨v, h, [], [], false, true⟩) none ⟨rfl, rfl, rfl, rfl, rfl⟩ hgd hd hN (S.index ho hx hy hv) (fun i hi => by cases hi) g
theorem GoR.extract {x : Operand} {i : Nat} {l : List Value} {v : Value} (ho : o.op = .extract x i) (hd : o.dst = some d) (hN : dOk d N = true) (hgd : o.guard = none) (hx : evO ov x = some (.tuple ⟨l⟩)) (hv : l[i]? = some v) (g : GoR P W q N ops b₀ os k ((d, v) :: ov) df h Q) : GoR P W q N ops b₀ (o :: os) k ov df h Q := GoR.step (r := ⟨v, h, [], [], false, true⟩) hgd hd hN (S.extract ho hx hv) (.inr rfl) (fun i hi => by cases hi) g
theorem GoL.extract {x : Operand} {i : Nat} {l : List Value} {v : Value} (ho : o.op = .extract x i) (hd : o.dst = some d) (hN : dOk d N = true) (hgd : o.guard = none) (hx : evO ov x = some (.tuple ⟨l⟩)) (hv : l[i]? = some v) (g : GoL P W q N ops (tr ++ [none]) os k ((d, v) :: ov) df h Q) : GoL P W q N ops tr (o :: os) k ov df h Q := GoL.step (r := ⟨v, h, [], [], false, true⟩) none ⟨rfl, rfl, rfl, rfl, rfl⟩ hgd hd hN (S.extract ho hx hv) (fun i hi => by cases hi) g
theorem GoR.len {x : Operand} {t : TypeId} {a : Option Addr} {n cap : Nat} {e : TypeId} (ho : o.op = .call ⟨.builtin .len, #[x], #[t]⟩) (hd : o.dst = some d) (hN : dOk d N = true) (hgd : o.guard = none) (hx : evO ov x = some (.slice a n cap)) [hu : UN P t (.slice e)] (g : GoR P W q N ops b₀ os k ((d, (.int .i64 n)) :: ov) df h Q) : GoR P W q N ops b₀ (o :: os) k ov df h Q := GoR.step (r := ⟨(.int .i64 n), h, [], [], false, true⟩) hgd hd hN (S.len ho hx) (.inr rfl) (fun i hi => by cases hi) g
theorem GoL.len {x : Operand} {t : TypeId} {a : Option Addr} {n cap : Nat} {e : TypeId} (ho : o.op = .call ⟨.builtin .len, #[x], #[t]⟩) (hd : o.dst = some d) (hN : dOk d N = true) (hgd : o.guard = none) (hx : evO ov x = some (.slice a n cap)) [hu : UN P t (.slice e)] (g : GoL P W q N ops (tr ++ [none]) os k ((d, (.int .i64 n)) :: ov) df h Q) : GoL P W q N ops tr (o :: os) k ov df h Q := GoL.step (r := ⟨(.int .i64 n), h, [], [], false, true⟩) none ⟨rfl, rfl, rfl, rfl, rfl⟩ hgd hd hN (S.len ho hx) (fun i hi => by cases hi) g
theorem GoR.lenStr {x : Operand} {t : TypeId} {s : ByteArray} (ho : o.op = .call ⟨.builtin .len, #[x], #[t]⟩) (hd : o.dst = some d) (hN : dOk d N = true) (hgd : o.guard = none) (hx : evO ov x = some (.string s)) [hu : UN P t .string] (g : GoR P W q N ops b₀ os k ((d, (.int .i64 s.size)) :: ov) df h Q) : GoR P W q N ops b₀ (o :: os) k ov df h Q := GoR.step (r := ⟨(.int .i64 s.size), h, [], [], false, true⟩) hgd hd hN (S.lenStr ho hx) (.inr rfl) (fun i hi => by cases hi) g
theorem GoL.lenStr {x : Operand} {t : TypeId} {s : ByteArray} (ho : o.op = .call ⟨.builtin .len, #[x], #[t]⟩) (hd : o.dst = some d) (hN : dOk d N = true) (hgd : o.guard = none) (hx : evO ov x = some (.string s)) [hu : UN P t .string] (g : GoL P W q N ops (tr ++ [none]) os k ((d, (.int .i64 s.size)) :: ov) df h Q) : GoL P W q N ops tr (o :: os) k ov df h Q := GoL.step (r := ⟨(.int .i64 s.size), h, [], [], false, true⟩) none ⟨rfl, rfl, rfl, rfl, rfl⟩ hgd hd hN (S.lenStr ho hx) (fun i hi => by cases hi) g
theorem GoR.capB {x : Operand} {t : TypeId} {n cap : Nat} {e : TypeId} (ho : o.op = .call ⟨.builtin .cap, #[x], #[t]⟩) (hd : o.dst = some d) (hN : dOk d N = true) (hgd : o.guard = none) (hx : evO ov x = some (.slice none n cap)) [hu : UN P t (.slice e)] (g : GoR P W q N ops b₀ os k ((d, (.int .i64 cap)) :: ov) df h Q) : GoR P W q N ops b₀ (o :: os) k ov df h Q := GoR.step (r := ⟨(.int .i64 cap), h, [], [], false, true⟩) hgd hd hN (S.capB ho hx) (.inr rfl) (fun i hi => by cases hi) g
theorem GoL.capB {x : Operand} {t : TypeId} {n cap : Nat} {e : TypeId} (ho : o.op = .call ⟨.builtin .cap, #[x], #[t]⟩) (hd : o.dst = some d) (hN : dOk d N = true) (hgd : o.guard = none) (hx : evO ov x = some (.slice none n cap)) [hu : UN P t (.slice e)] (g : GoL P W q N ops (tr ++ [none]) os k ((d, (.int .i64 cap)) :: ov) df h Q) : GoL P W q N ops tr (o :: os) k ov df h Q := GoL.step (r := ⟨(.int .i64 cap), h, [], [], false, true⟩) none ⟨rfl, rfl, rfl, rfl, rfl⟩ hgd hd hN (S.capB ho hx) (fun i hi => by cases hi) g
theorem GoR.append {x y : Operand} {t t₂ : TypeId} {u u' v : Value} {h' : AHeap} {rd wr : List Nat} (ho : o.op = .call ⟨.builtin .append, #[x, y], #[t, t₂]⟩) (hd : o.dst = some d) (hN : dOk d N = true) (hgd : o.guard = none) (hx : evO ov x = some u) (hy : evO ov y = some u') (hv : aAppend P h t t₂ u u' = some (v, h', rd, wr)) (hw : ∀ i ∈ wr, W i) (g : GoR P W q N ops true os k ((d, v) :: ov) df h' Q) : GoR P W q N ops true (o :: os) k ov df h Q := GoR.step (r := ⟨v, h', rd, wr, false, false⟩) hgd hd hN (S.append ho hx hy hv) (.inl rfl) hw g
theorem GoL.append {x y : Operand} {t t₂ : TypeId} {u u' v : Value} {h' : AHeap} {rd wr : List Nat} (ho : o.op = .call ⟨.builtin .append, #[x, y], #[t, t₂]⟩) (hd : o.dst = some d) (hN : dOk d N = true) (hgd : o.guard = none) (hx : evO ov x = some u) (hy : evO ov y = some u') (hv : aAppend P h t t₂ u u' = some (v, h', rd, wr)) (hw : ∀ i ∈ wr, W i) (g : GoL P W q N ops (tr ++ [(some ⟨h.n, h'.n, rd, wr, false, false⟩)]) os k ((d, v) :: ov) df h' Q) : GoL P W q N ops tr (o :: os) k ov df h Q := GoL.step (r := ⟨v, h', rd, wr, false, false⟩) (some ⟨h.n, h'.n, rd, wr, false, false⟩) ⟨rfl, rfl, rfl, rfl, rfl, rfl⟩ hgd hd hN (S.append ho hx hy hv) hw g
theorem GoR.copy {x y : Operand} {t t₂ : TypeId} {u u' : Value} {n : Nat} {h' : AHeap} {rd wr : List Nat} (ho : o.op = .call ⟨.builtin .copy, #[x, y], #[t, t₂]⟩) (hd : o.dst = some d) (hN : dOk d N = true) (hgd : o.guard = none) (hx : evO ov x = some u) (hy : evO ov y = some u') (hv : aCopy P h t u u' = some (n, h', rd, wr)) (hw : ∀ i ∈ wr, W i) (g : GoR P W q N ops true os k ((d, (.int .i64 n)) :: ov) df h' Q) : GoR P W q N ops true (o :: os) k ov df h Q := GoR.step (r := ⟨(.int .i64 n), h', rd, wr, false, false⟩) hgd hd hN (S.copy ho hx hy hv) (.inl rfl) hw g
theorem GoL.copy {x y : Operand} {t t₂ : TypeId} {u u' : Value} {n : Nat} {h' : AHeap} {rd wr : List Nat} (ho : o.op = .call ⟨.builtin .copy, #[x, y], #[t, t₂]⟩) (hd : o.dst = some d) (hN : dOk d N = true) (hgd : o.guard = none) (hx : evO ov x = some u) (hy : evO ov y = some u') (hv : aCopy P h t u u' = some (n, h', rd, wr)) (hw : ∀ i ∈ wr, W i) (g : GoL P W q N ops (tr ++ [(some ⟨h.n, h'.n, rd, wr, false, false⟩)]) os k ((d, (.int .i64 n)) :: ov) df h' Q) : GoL P W q N ops tr (o :: os) k ov df h Q := GoL.step (r := ⟨(.int .i64 n), h', rd, wr, false, false⟩) (some ⟨h.n, h'.n, rd, wr, false, false⟩) ⟨rfl, rfl, rfl, rfl, rfl, rfl⟩ hgd hd hN (S.copy ho hx hy hv) hw g
theorem GoR.calm {u : Value} {l : List Value}  (hd : o.dst = some d) (hN : dOk d N = true) (hgd : o.guard = none) (hl : evOs ov o.op.operands.toList = some l) (hdf : ∀ c, o.op ≠ .defer c) (hsl : ∀ cs b, o.op ≠ .select cs b) (hfl : l.all flatB = true) (hu : flatB u = true) (hc : ∀ ρ : Operand → Value, o.op.operands.toList.map ρ = l → calm P (execOp ρ o) = some (.value u)) (g : GoR P W q N ops b₀ os k ((d, u) :: ov) df h Q) : GoR P W q N ops b₀ (o :: os) k ov df h Q := GoR.step (r := ⟨u, h, [], [], false, true⟩) hgd hd hN (S.calm hl hdf hsl hfl hu hc) (.inr rfl) (fun i hi => by cases hi) g
theorem GoL.calm {u : Value} {l : List Value}  (hd : o.dst = some d) (hN : dOk d N = true) (hgd : o.guard = none) (hl : evOs ov o.op.operands.toList = some l) (hdf : ∀ c, o.op ≠ .defer c) (hsl : ∀ cs b, o.op ≠ .select cs b) (hfl : l.all flatB = true) (hu : flatB u = true) (hc : ∀ ρ : Operand → Value, o.op.operands.toList.map ρ = l → calm P (execOp ρ o) = some (.value u)) (g : GoL P W q N ops (tr ++ [none]) os k ((d, u) :: ov) df h Q) : GoL P W q N ops tr (o :: os) k ov df h Q := GoL.step (r := ⟨u, h, [], [], false, true⟩) none ⟨rfl, rfl, rfl, rfl, rfl⟩ hgd hd hN (S.calm hl hdf hsl hfl hu hc) (fun i hi => by cases hi) g
theorem GoR.wanted {j t : Nat} {w B : Bool} {oj : Oper} (hg : o.guard = some (j, w)) (hj : ops[j]? = some oj) (hdj : oj.dst = some t) (hv : ov.find t = some (.bool B)) (hB : B = w) (g : GoR P W q N ops b₀ ({ o with guard := none } :: os) k ov df h Q) : GoR P W q N ops b₀ (o :: os) k ov df h Q := fun tm hN' hrp => by
 obtain ⟨r, h1, h2⟩ := g tm hN' hrp
 rcases h1 with ⟨_, h1, hW⟩ | ⟨h1, _⟩
 · exact ⟨r, .inl ⟨by simp [Region.wanted, hg, yielded_of hrp hj hdj hv, hB], OpOk.unguard (g := none) h1, hW⟩, h2⟩
 · simp [Region.wanted] at h1
theorem GoL.wanted {j t : Nat} {w B : Bool} {oj : Oper} (hg : o.guard = some (j, w)) (hj : ops[j]? = some oj) (hdj : oj.dst = some t) (hv : ov.find t = some (.bool B)) (hB : B = w) (g : GoL P W q N ops tr ({ o with guard := none } :: os) k ov df h Q) : GoL P W q N ops tr (o :: os) k ov df h Q := fun tm hN' hrp => by
 obtain ⟨r, h1, h2⟩ := g tm hN' hrp
 rcases h1 with ⟨_, h1, hW⟩ | ⟨h1, _⟩
 · exact ⟨r, .inl ⟨by simp [Region.wanted, hg, yielded_of hrp hj hdj hv, hB], OpOk.unguard (g := none) h1, hW⟩, h2⟩
 · simp [Region.wanted] at h1
end
end Go.Proofs.YtncbbeghkpjpbaaDoor