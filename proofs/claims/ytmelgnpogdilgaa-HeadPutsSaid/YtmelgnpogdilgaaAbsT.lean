/- The evaluator on the abstract heap. No conditions. -/
import Derived.Test.YtmelgnpogdilgaaAbsU
namespace Go.Proofs.Ytmelgnpogdilgaa
set_option linter.unusedVariables false
/-- What an operation does: its value, the heap behind it; the blocks that it read, and wrote; whether it may have read any; whether the heap is as it was. -/
structure OR where
  v : Value
  h : AHeap
  rd : List Nat
  wr : List Nat
  all : Bool
  same : Bool
/-- What code does. -/
structure CR where
  x : Exit
  tm : List Value
  df : List Nat
  h : AHeap
  wr : List Nat
abbrev CallF := FuncId → List Value → AHeap → Option (Value × AHeap × List Nat)
abbrev CodeF := Code → List Value → List Nat → AHeap → Option CR
def pureO (h : AHeap) (v : Value) : OR := ⟨v, h, [], [], false, true⟩
def readO (h : AHeap) (v : Value) (rd : List Nat) : OR := ⟨v, h, rd, [], false, true⟩
def flats (ρ : Operand → Value) (o : Oper) : Bool := o.op.operands.toList.all fun x => flatB (ρ x)
def aCalm (P : Program) (o : Oper) (ρ : Operand → Value) (h : AHeap) : Option OR :=
  if flats ρ o then match calm P (execOp (ρ) o) with
    | some (.value v) => if flatB v then some (pureO h v) else none
    | _ => none
  else none
def notIface (P : Program) (t : TypeId) : Bool := match P.underlying t with
  | some (.interface _) => false
  | some _ => true
  | none => false
def isYield : Fn → Bool
  | .yield _ => true
  | _ => false
def plainFn : Fn → Bool
  | .func _ => true
  | _ => false
def calls (P : Program) (g : FuncId) : Bool := match P.funcs[g]? with
  | some fn => !(fn.name == "runtime.NumGoroutine") && fn.body.isSome
  | none => false
def aYield (RF : CodeF) (h : AHeap) (l : Nat) (args : List Value) : Option OR :=
  match h.get l with
  | some (.loop .ready _ tmL ps asg bo _) => if args.length = ps.size then
      match RF asg (setPs tmL ps.toList args) [] h with
      | some ⟨.normal, tm₁, df₁, h₁, wr₁⟩ => match h₁.get l with
        | some (.loop .ready pe' tmL' ps' as' bo' df') => match RF bo tm₁ df₁ (h₁.put l (some (.loop .busy pe' tmL' ps' as' bo' df'))) with
          | some ⟨x, _, _, h₂, wr₂⟩ => match h₂.get l, jumpOf x with
            | some (.loop _ _ tm₂ ps₂ as₂ bo₂ df₂), some jump => some ⟨.bool jump.isNone, h₂.put l (some (.loop (if jump.isNone then .ready else .done) jump tm₂ ps₂ as₂ bo₂ df₂)), [], l :: (wr₁ ++ wr₂), true, false⟩
            | _, _ => none
          | none => none
        | _ => none
      | _ => none
    else none
  | _ => none
def aCallee (P : Program) (CF : CallF) (RF : CodeF) (h : AHeap) (args : List Value) : Value → Option OR
  | .func (.func g) first cap => if calls P g then match CF g (first.toList ++ args ++ cap.toList) h with
      | some (v, h', wr) => some ⟨v, h', [], wr, true, false⟩
      | none => none
    else none
  | .func (.yield l) first cap => if first.size = 0 ∧ cap.size = 0 then aYield RF h l args else none
  | _ => none
def aBuiltin (P : Program) (o : Oper) (ρ : Operand → Value) (h : AHeap) (b : Builtin) (xs : Array Operand) (ts : Array TypeId) : Option OR :=
  match b, xs.toList, ts.toList with
  | .len, [x], [t] => match aLen P h t (ρ x) with
    | some (n, rd) => some (readO h (.int .i64 n) rd)
    | none => none
  | .cap, [x], [t] => match aCap P h t (ρ x) with
    | some n => some (pureO h (.int .i64 n))
    | none => none
  | .append, [x, y], [t, u] => match aAppend P h t u (ρ x) (ρ y) with
    | some (v, h', rd, wr) => some ⟨v, h', rd, wr, false, false⟩
    | none => none
  | .copy, [x, y], [t, u] => match aCopy P h t (ρ x) (ρ y) with
    | some (n, h', rd, wr) => some ⟨.int .i64 n, h', rd, wr, false, false⟩
    | none => none
  | .delete, [x, y], [t, u] => match aDelete P h t (ρ x) (ρ y) with
    | some (h', rd) => some ⟨undef, h', rd, rd, false, false⟩
    | none => none
  | .clear, [x], [t] => match aClear P h t (ρ x) with
    | some (h', wr) => some ⟨undef, h', wr, wr, false, false⟩
    | none => none
  | .min, _, _ => aCalm P o ρ h
  | .max, _, _ => aCalm P o ρ h
  | _, _, _ => none
def aBin (P : Program) (o : Oper) (ρ : Operand → Value) (h : AHeap) (op : BinOp) (t : TypeId) (x y : Operand) : Option OR :=
  if refB (ρ x) then match op with
    | .eql => match aEq P h t (ρ x) (ρ y) with
      | some (b, rd) => some (readO h (.bool b) rd)
      | none => none
    | .neq => match aEq P h t (ρ x) (ρ y) with
      | some (b, rd) => some (readO h (.bool (!b)) rd)
      | none => none
    | _ => none
  else aCalm P o ρ h
def aOp (P : Program) (CF : CallF) (RF : CodeF) (o : Oper) (ρ : Operand → Value) (h : AHeap) : Option OR :=
  match o.op with
  | .move x => some (pureO h (ρ x))
  | .assign x => some (pureO h (ρ x))
  | .pick c a b => match ρ c with
    | .bool t => some (pureO h (if t then ρ a else ρ b))
    | _ => none
  | .alloc t => match aAlloc P t with
    | some a => some ⟨.pointer (some ⟨h.n, 0, none⟩), h.push a, [], [], false, false⟩
    | none => none
  | .box t x => match sizeT P t with
    | some _ => some ⟨.pointer (some ⟨h.n, 0, none⟩), h.push (.cells (ρ x).cells.toList t), [], [], false, false⟩
    | none => none
  | .build t ps => match aBuild P t (ps.toList.map fun p => (p.1, ρ p.2)) with
    | some v => some (pureO h v)
    | none => none
  | .buildSlice t len ps => match aBuildSlice P t len (ps.toList.map fun p => (p.1, ρ p.2)) with
    | some a => some ⟨.slice (some ⟨h.n, 0, none⟩) len len, h.push a, [], [], false, false⟩
    | none => none
  | .load t x => match aLoad P h t (ρ x) with
    | some (v, b) => some (readO h v [b])
    | none => none
  | .store t x y => match aStore P h t (ρ y) (ρ x) with
    | some (h', b) => some ⟨undef, h', [b], [b], false, false⟩
    | none => none
  | .nilCheck x => match ρ x with
    | .pointer (some ⟨b, c, none⟩) => some (pureO h (.pointer (some ⟨b, c, none⟩)))
    | .func (.func f) a b => some (pureO h (.func (.func f) a b))
    | .func (.yield l) a b => some (pureO h (.func (.yield l) a b))
    | _ => none
  | .binOp op t x y _ => aBin P o ρ h op t x y
  | .unOp _ _ _ => aCalm P o ρ h
  | .convert src dst x => match ρ x with
    | .slice a b c => match aStr P h src dst (.slice a b c) with
      | some (s, rd) => some (readO h (.string s) rd)
      | none => none
    | .string s => match aBytes P src dst (.string s) with
      | some (n, a) => some ⟨.slice (some ⟨h.n, 0, none⟩) n n, h.push a, [], [], false, false⟩
      | none => aCalm P o ρ h
    | _ => aCalm P o ρ h
  | .makeInterface t x => if notIface P t then some (pureO h (.iface t (ρ x))) else none
  | .makeFunc fn a b => if isYield fn then none else some (pureO h (.func fn (a.map (ρ)) (b.map (ρ))))
  | .makeMap _ none => some ⟨.map (some h.n), h.push (.map #[] 0), [], [], false, false⟩
  | .makeSlice t x y => match aMake P t (ρ x) (ρ y) with
    | some (l, c, a) => some ⟨.slice (some ⟨h.n, 0, none⟩) l c, h.push a, [], [], false, false⟩
    | none => none
  | .slice t x lo hi mx => match aSlice P h t (lo.map (ρ)) (hi.map (ρ)) (mx.map (ρ)) (ρ x) with
    | some v => some (pureO h v)
    | none => none
  | .fieldAddr s x f => match aField P s f (ρ x) with
    | some v => some (pureO h v)
    | none => none
  | .field t x f => match aFieldOf P t f (ρ x) with
    | some v => some (pureO h v)
    | none => none
  | .indexAddr t x i => match aIndexAddr P t (ρ x) (ρ i) with
    | some v => some (pureO h v)
    | none => none
  | .index t x i => match aIndex P t (ρ x) (ρ i) with
    | some v => some (pureO h v)
    | none => none
  | .lookup t x k ok => match aLookup P h t (ρ x) (ρ k) ok with
    | some (v, rd) => some (readO h v rd)
    | none => none
  | .mapUpdate t x k v => match aUpdate P h t (ρ x) (ρ k) (ρ v) with
    | some (h', r) => some ⟨undef, h', [r], [r], false, false⟩
    | none => none
  | .insert t x k v => match aUpdate P h t (ρ x) (ρ k) (ρ v) with
    | some (h', r) => some ⟨undef, h', [r], [r], false, false⟩
    | none => none
  | .mapEntry t x k => match aEntry P h t (ρ x) (ρ k) with
    | some (v, h', r) => some ⟨v, h', [r], [r], false, false⟩
    | none => none
  | .entryStore _ x s v => match aEntryStore h (ρ x) (ρ s) (ρ v) with
    | some (h', r) => some ⟨undef, h', [r], [r], false, false⟩
    | none => none
  | .extract x i => match aExtract i (ρ x) with
    | some v => some (pureO h v)
    | none => none
  | .call ⟨.builtin b, xs, ts⟩ => aBuiltin P o ρ h b xs ts
  | .call ⟨.value f, xs, _⟩ => aCallee P CF RF h (xs.toList.map (ρ)) (ρ f)
  | _ => none
/-! ### Regions -/
/-- The operations one behind the other. -/
def evOps (P : Program) (CF : CallF) (RF : CodeF) (ops : Array Oper) : List Oper → List Value → AHeap → List Nat → Option (List Value × AHeap × List Nat)
  | [], tm, h, wr => some (tm, h, wr)
  | o :: os, tm, h, wr => if Region.wanted o (yielded ops tm.toArray) then
      match aOp P CF RF o (evalT tm) h with
      | some r => evOps P CF RF ops os (putT tm o.dst r.v) r.h (r.wr ++ wr)
      | none => none
    else evOps P CF RF ops os (putT tm o.dst undef) h wr
/-- The same, with what is told of each. -/
def evTrace (P : Program) (CF : CallF) (RF : CodeF) (ops : Array Oper) : List Oper → List Value → AHeap → Option (List Value × AHeap × List (List Value × AHeap × OR))
  | [], tm, h => some (tm, h, [])
  | o :: os, tm, h => if Region.wanted o (yielded ops tm.toArray) then
      match aOp P CF RF o (evalT tm) h with
      | some r => match evTrace P CF RF ops os (putT tm o.dst r.v) r.h with
        | some (tm', h', rs) => some (tm', h', (tm, h, r) :: rs)
        | none => none
      | none => none
    else match evTrace P CF RF ops os (putT tm o.dst undef) h with
      | some (tm', h', rs) => some (tm', h', (tm, h, ⟨undef, h, [], [], false, true⟩) :: rs)
      | none => none
def oldOf (n : Nat) (wr : List Nat) : List Nat := wr.filter fun b => decide (b < n)
def loudPair (ops : Array Oper) (w : List Nat) (i j : Nat) (n : Nat) (r : OR) : Bool :=
  i == j || bef ops i j || bef ops j i || ((r.same || (oldOf n r.wr).isEmpty) && !r.all && w.all fun b => !(r.rd.contains b) && !(r.wr.contains b) && (decide (b < n) || decide (r.h.n ≤ b)))
def loudRow (ops : Array Oper) (w : List Nat) (i : Nat) : List (List Value × AHeap × OR) → Nat → Bool
  | [], _ => true
  | (_, h, r) :: rs, j => loudPair ops w i j h.n r && loudRow ops w i rs (j + 1)
def loudOk (ops : Array Oper) (all : List (List Value × AHeap × OR)) : List (List Value × AHeap × OR) → Nat → Bool
  | [], _ => true
  | (_, h, r) :: rs, i => ((oldOf h.n r.wr).isEmpty || loudRow ops (oldOf h.n r.wr) i all 0) && loudOk ops all rs (i + 1)
def apartRow (ops : Array Oper) (oj : Oper) (j : Nat) : List Oper → Nat → Bool
  | [], _ => true
  | oi :: os, i => (decide (j ≤ i) || bef ops i j || oi.apart ops oj) && apartRow ops oj j os (i + 1)
def apartAll (ops : Array Oper) : List Oper → Nat → Bool
  | [], _ => true
  | oj :: os, j => apartRow ops oj j ops.toList 0 && apartAll ops os (j + 1)
def edgeAll : List Oper → Nat → Bool
  | [], _ => true
  | o :: os, k => o.after.toList.all (fun e => !(Region.binds .any e) || decide (e.on < k)) && edgeAll os (k + 1)
/-- A region that draws its order is fit. -/
def drawOk (P : Program) (ops : Array Oper) : Bool := P.follows .mixedOrders && opsOk P ops && apartAll ops ops.toList 0 && edgeAll ops.toList 0
def wrOf (n : Nat) : List (List Value × AHeap × OR) → List Nat
  | [] => []
  | (_, _, r) :: rs => oldOf n r.wr ++ wrOf n rs
def evRegion (P : Program) (CF : CallF) (RF : CodeF) (ops : Array Oper) (draw : Bool) (tm : List Value) (df : List Nat) (h : AHeap) : Option CR :=
  if draw then
    if drawOk P ops then match evTrace P CF RF ops ops.toList tm h with
      | some (tm', h', rs) => if loudOk ops rs rs 0 then some ⟨.normal, tm', df, h', wrOf h.n rs⟩ else none
      | none => none
    else none
  else if opsOk P ops then match evOps P CF RF ops ops.toList tm h [] with
    | some (tm', h', wr) => some ⟨.normal, tm', df, h', wr⟩
    | none => none
  else none
/-! ### Code -/
/-- Functions of which is known what they do. -/
abbrev Summ := FuncId → List Value → AHeap → Option (Value × AHeap × List Nat)
def callOf (P : Program) (S : Summ) (E : Bool → CodeF) : CallF := fun f args h =>
  match S f args h with
  | some r => some r
  | none => match P.funcs[f]? with
    | some fn => match fn.body with
      | some c => match E false c (args ++ List.replicate (fn.ntmps - args.length) undef) [] h with
        | some ⟨x, tm, df, h₁, wr⟩ => match x with
          | .normal | .ret => match takeAll h₁ df with
            | some h₂ => match aResult P h₂ tm fn.results.toList with
              | some v => some (v, h₂, oldOf h.n wr)
              | none => none
            | none => none
          | _ => none
        | none => none
      | none => none
    | none => none
def ev (P : Program) (S : Summ) : Nat → Bool → CodeF
  | 0, _, _, _, _, _ => none
  | n + 1, q, c, tm, df, h => match c with
    | .skip => some ⟨.normal, tm, df, h, []⟩
    | .label _ => some ⟨.normal, tm, df, h, []⟩
    | .ret => some ⟨.ret, tm, df, h, []⟩
    | .exit id => some ⟨.exit id, tm, df, h, []⟩
    | .region _ ops draw => evRegion P (callOf P S (ev P S n)) (ev P S n true) ops draw tm df h
    | .seq a b => match ev P S n q a tm df h with
      | some ⟨.normal, tm₁, df₁, h₁, wr₁⟩ => match ev P S n q b tm₁ df₁ h₁ with
        | some ⟨x, tm₂, df₂, h₂, wr₂⟩ => some ⟨x, tm₂, df₂, h₂, wr₁ ++ wr₂⟩
        | none => none
      | r => r
    | .cond o a b => match evalT tm o with
      | .bool true => ev P S n q a tm df h
      | .bool false => ev P S n q b tm df h
      | _ => none
    | .block id c => match ev P S n q c tm df h with
      | some ⟨x, tm₁, df₁, h₁, wr₁⟩ => some ⟨Exit.leave id x, tm₁, df₁, h₁, wr₁⟩
      | none => none
    | .scope c => match ev P S n q c tm df h with
      | some ⟨x, tm₁, df₁, h₁, wr₁⟩ => match x with
        | .goto _ => none
        | x => some ⟨x, tm₁, df₁, h₁, wr₁⟩
      | none => none
    | .loop c => match ev P S n q c tm df h with
      | some ⟨.normal, tm₁, df₁, h₁, wr₁⟩ => match ev P S n q (.loop c) tm₁ df₁ h₁ with
        | some ⟨x, tm₂, df₂, h₂, wr₂⟩ => some ⟨x, tm₂, df₂, h₂, wr₁ ++ wr₂⟩
        | none => none
      | r => r
    | .rangeFunc g ps asg bo => if q then none else match evalT tm g with
      | .func (.func f) first cap => if calls P f && okOpd P g then match callOf P S (ev P S n) f (first.toList ++ [.func (.yield (h.n + 1)) #[] #[]] ++ cap.toList) ((h.push (.deferred true)).push (.loop .ready none tm ps asg bo h.n)) with
          | some (_, h₂, wr) => match h₂.get (h.n + 1) with
            | some (.loop st pe tm' ps' as' bo' df') => if st == .busy then none else match exitOf pe with
              | some x => some ⟨x, tm, h.n :: df, h₂.put (h.n + 1) (some (.loop .exhausted pe tm' ps' as' bo' df')), (h.n + 1) :: wr⟩
              | none => none
            | _ => none
          | none => none
        else none
      | _ => none
    | _ => none
end Go.Proofs.Ytmelgnpogdilgaa
