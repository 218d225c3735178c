/- Walks on the abstract heap: calls, results, slices by what they read as. No conditions. -/
import Derived.Test.YtmelgnpogdilgaaSymC
import Derived.Laws.Strings
namespace Go.Proofs.Ytmelgnpogdilgaa
set_option linter.unusedVariables false
open Go.RowKit
/-! ### Calls -/
def CallS (P : Program) (wr : List Nat) (f : FuncId) (args : List Value) (h : AHeap) (Q : Value → AHeap → Prop) : Prop := ∃ v h', CallRun P (· ∈ wr) f args.toArray h v h' ∧ Q v h'
theorem CallS.mono {P : Program} {wr : List Nat} {f : FuncId} {args : List Value} {h : AHeap} {Q Q' : Value → AHeap → Prop} (k : CallS P wr f args h Q) (hq : ∀ v h', Q v h' → Q' v h') : CallS P wr f args h Q' := let ⟨v, h', a, b⟩ := k; ⟨v, h', a, hq _ _ b⟩
theorem CallS.args {P : Program} {wr : List Nat} {f : FuncId} {args args' : List Value} {h : AHeap} {Q : Value → AHeap → Prop} (k : CallS P wr f args h Q) (e : args' = args) : CallS P wr f args' h Q := e ▸ k
/-- What was there is as it was. -/
def Same (h h' : AHeap) : Prop := h.n ≤ h'.n ∧ ∀ i, i < h.n → h'.get i = h.get i
theorem Same.refl (h : AHeap) : Same h h := ⟨Nat.le_refl _, fun _ _ => rfl⟩
theorem Same.trans {a b c : AHeap} (h : Same a b) (k : Same b c) : Same a c := ⟨Nat.le_trans h.1 k.1, fun i hi => (k.2 i (Nat.lt_of_lt_of_le hi h.1)).trans (h.2 i hi)⟩
theorem Same.push {h h' : AHeap} (k : Same h h') (o : AObj) : Same h (h'.push o) := ⟨Nat.le_succ_of_le k.1, fun i hi => by rw [AHeap.get_push, if_neg (by have := k.1; omega)]; exact k.2 i hi⟩
theorem Same.put {h h' : AHeap} (k : Same h h') {b : Nat} (hb : h.n ≤ b) (o : Option AObj) : Same h (h'.put b o) := ⟨k.1, fun i hi => by rw [AHeap.get_put_ne _ _ (by omega)]; exact k.2 i hi⟩
theorem Same.get {h h' : AHeap} (k : Same h h') {i : Nat} {o : AObj} (e : h.get i = some o) : h'.get i = some o := by rw [k.2 i (AHeap.lt e)]; exact e
theorem Same.of_fr {h h' : AHeap} (k : AFr (· ∈ ([] : List Nat)) h h') : Same h h' := ⟨k.n, fun i hi => k.get i hi (by simp)⟩
/-- All but some blocks are as they were. -/
def Keeps (wr : List Nat) (h h' : AHeap) : Prop := h.n ≤ h'.n ∧ ∀ i, i < h.n → i ∉ wr → h'.get i = h.get i
theorem Same.keeps {h h' : AHeap} (k : Same h h') (wr : List Nat) : Keeps wr h h' := ⟨k.1, fun i hi _ => k.2 i hi⟩
theorem Keeps.same {h h' : AHeap} (k : Keeps [] h h') : Same h h' := ⟨k.1, fun i hi => k.2 i hi (by simp)⟩
theorem get_push_lt {h : AHeap} {o x : AObj} {i : Nat} (e : h.get i = some x) : (h.push o).get i = some x := by rw [AHeap.get_push_ne _ _ (by have := AHeap.lt e; omega)]; exact e
theorem get_put_other {h : AHeap} {o : Option AObj} {x : AObj} {i b : Nat} (hne : b ≠ i) (e : h.get i = some x) : (h.put b o).get i = some x := by rw [AHeap.get_put_ne _ _ hne]; exact e
theorem get_put_self {h : AHeap} {o x : AObj} {b : Nat} (e : h.get b = some x) : (h.put b (some o)).get b = some o := AHeap.get_put_same h (AHeap.lt e) _
/-! ### Results -/
def retV : List Value → Value
  | [v] => v
  | vs => .tuple vs.toArray
inductive Res (P : Program) (h : AHeap) (ov : Ov) : List ResultVar → List Value → Prop
  | nil : Res P h ov [] []
  | tmp {t : Tmp} {rs : List ResultVar} {v : Value} {vs : List Value} (hv : ov.find t = some v) (k : Res P h ov rs vs) : Res P h ov (.tmp t :: rs) (v :: vs)
  | cell {a : Tmp} {t ct : TypeId} {rs : List ResultVar} {b off : Nat} {c : List Value} {v : Value} {vs : List Value} (ha : ov.find a = some (.pointer (some ⟨b, off, none⟩))) (hc : CT P t none) (hg : h.get b = some (.cells c ct)) (hv : c[off]? = some v) (k : Res P h ov rs vs) : Res P h ov (.cell a t :: rs) (v :: vs)
  | cellN {a : Tmp} {t ct : TypeId} {rs : List ResultVar} {b off n : Nat} {c l : List Value} {vs : List Value} (ha : ov.find a = some (.pointer (some ⟨b, off, none⟩))) (hc : CT P t (some n)) (hg : h.get b = some (.cells c ct)) (hl : off + n ≤ c.length) (hv : (c.drop off).take n = l) (k : Res P h ov rs vs) : Res P h ov (.cell a t :: rs) (.agg l.toArray :: vs)
theorem Res.eq {P : Program} {h : AHeap} {ov : Ov} {tm : List Value} (hr : Rp ov tm) {rs : List ResultVar} {vs : List Value} (k : Res P h ov rs vs) : aResults P h tm rs = some vs := by
  induction k with
  | nil => rfl
  | tmp hv _ ih => simp only [aResults, ih, Option.map_some]; rw [hr _ _ hv]
  | cell ha hc hg hv _ ih => simp only [aResults, ih]; rw [hr _ _ ha]; simp [aLoad, rowOf, hg, hc.h, hv]
  | cellN ha hc hg hl hv _ ih => simp only [aResults, ih]; rw [hr _ _ ha]; simp [aLoad, rowOf, hg, hc.h, hl, hv]
theorem aResult_of {P : Program} {h : AHeap} {tm : List Value} {rs : List ResultVar} {vs : List Value} (e : aResults P h tm rs = some vs) : aResult P h tm rs = some (retV vs) := by
  unfold aResult
  rw [e]
  match vs with
  | [] => rfl
  | [_] => rfl
  | _ :: _ :: _ => rfl
/-- What is to be so at the end of a function's text. -/
def Fin (P : Program) (rs : List ResultVar) (n₀ : Nat) (Q : Value → AHeap → Prop) : PQ := fun x tm df h => (x = .normal ∨ x = .ret) ∧ (∀ d ∈ df, n₀ ≤ d) ∧ ∃ h₂ v, takeAll h df = some h₂ ∧ aResult P h₂ tm rs = some v ∧ Q v h₂
section
variable {P : Program} {W : Nat → Prop} {q : Bool} {N : Nat} {k : List It} {ov : Ov} {df : List Nat} {h : AHeap} {Q : Value → AHeap → Prop}
theorem Go.fin {x : Exit} {rs : List ResultVar} {n₀ : Nat} {vs : List Value} (hx : x = .normal ∨ x = .ret) (hr : Res P h ov rs vs) (hq : Q (retV vs) h) : Go P W q N [] x ov [] h (Fin P rs n₀ Q) := fun tm hN hrp => ⟨hx, by simp, h, _, rfl, aResult_of (hr.eq hrp), hq⟩
def evRs (ov : Ov) : List ResultVar → Option (List Value)
  | [] => some []
  | .tmp t :: rs => match ov.find t, evRs ov rs with
    | some v, some vs => some (v :: vs)
    | _, _ => none
  | .cell _ _ :: _ => none
theorem evRs_res {h : AHeap} : ∀ {rs : List ResultVar} {vs : List Value}, evRs ov rs = some vs → Res P h ov rs vs
  | [], vs, e => by simp only [evRs, Option.some.injEq] at e; subst e; exact .nil
  | .tmp t :: rs, vs, e => by
    unfold evRs at e
    split at e
    · rename_i v vs' h1 h2; cases e; exact .tmp h1 (evRs_res h2)
    · cases e
  | .cell _ _ :: _, vs, e => by cases e
theorem Go.finT {x : Exit} {rs : List ResultVar} {n₀ : Nat} {vs : List Value} (hx : x = .normal ∨ x = .ret) (hr : evRs ov rs = some vs) (hq : Q (retV vs) h) : Go P W q N [] x ov [] h (Fin P rs n₀ Q) := .fin hx (evRs_res hr) hq
/-- The marks that ranges over functions leave. -/
theorem Go.fin_marks {x : Exit} {rs : List ResultVar} {n₀ : Nat} {h₂ : AHeap} {vs : List Value} (hx : x = .normal ∨ x = .ret) (hd : ∀ d ∈ df, n₀ ≤ d) (ht : takeAll h df = some h₂) (hr : Res P h₂ ov rs vs) (hq : Q (retV vs) h₂) : Go P W q N [] x ov df h (Fin P rs n₀ Q) := fun tm hN hrp => ⟨hx, hd, h₂, _, ht, aResult_of (hr.eq hrp), hq⟩
def ovOf : Nat → List Value → Ov
  | _, [] => []
  | i, v :: vs => (i, v) :: ovOf (i + 1) vs
theorem ovOf_rp : ∀ (args : List Value) (i : Nat) (tm : List Value), (∀ j, j < args.length → tm.getD (i + j) undef = args.getD j undef) → Rp (ovOf i args) tm
  | [], i, tm, h => fun t v e => by cases e
  | a :: args, i, tm, h => fun t v e => by
    simp only [ovOf, Ov.find] at e
    cases hb : Nat.beq i t with
    | true =>
      rw [hb] at e
      simp at e
      have := Nat.eq_of_beq_eq_true hb
      subst this e
      have := h 0 (by simp)
      simpa using this
    | false =>
      rw [hb] at e
      refine ovOf_rp args (i + 1) tm (fun j hj => ?_) t v e
      have := h (j + 1) (by simpa using hj)
      rw [show i + 1 + j = i + (j + 1) from by omega]
      simpa using this
theorem CallS.of {f : FuncId} {fn : Func} {c : Code} {N : Nat} {args : List Value} {rs : List ResultVar} {wr : List Nat} {ov : Ov} (hf : P.funcs[f]? = some fn) (hb : fn.body = some c) (hN : fn.ntmps = N) (hrs : fn.results.toList = rs) (hle : args.length ≤ N) (ho : ovOf 0 args = ov)
    (g : Go P (fun i => i ∈ wr ∨ h.n ≤ i) false N [.code c] .normal ov [] h (Fin P rs h.n Q)) : CallS P wr f args h Q := by
  subst ho hN hrs
  have hlen : (args ++ List.replicate (fn.ntmps - args.length) undef).length = fn.ntmps := by simp; omega
  obtain ⟨x, tm, df, h', r, _, hx, hdf, h₂, v, ht, hv, hq⟩ := (g (args ++ List.replicate (fn.ntmps - args.length) undef) hlen (ovOf_rp args 0 _ fun j hj => by
    simp only [Nat.zero_add, List.getD_eq_getElem?_getD]
    rw [List.getElem?_append_left hj])).1 rfl
  have run : Run P (fun i => i ∈ wr ∨ h.n ≤ i) false c ⟨args.toArray.toList ++ List.replicate (fn.ntmps - args.toArray.size) undef, [], h⟩ x ⟨tm, df, h'⟩ := by simpa using r
  have cr := (CallRun.of_marks hf hb run hx ht (fun d hd => .inr (hdf d hd)) hv).old
  exact ⟨v, h₂, cr.weak fun i ⟨hi, hlt⟩ => hi.resolve_right (by omega), hq⟩
/-- A call without addresses, neither given nor told, leaves memory as it was. -/
theorem CallS.closed (hg : P.globals.size = 0) {f : FuncId} {args : List Value} {wr : List Nat} (ha : args.all flatB = true) (k : CallS P wr f args emptyH Q) (hv : ∀ v h', Q v h' → flatB v = true) (h : AHeap) : CallS P [] f args h fun v h' => h' = h ∧ ∃ h₁, Q v h₁ := by
  obtain ⟨v, h', hc, hq⟩ := k
  have hfl := hv v h' hq
  refine ⟨v, h, ⟨.refl _ _, fun m w args' hm hf har hh => ?_⟩, rfl, h', hq⟩
  have hargs : args' = args.toArray := by
    apply Array.ext (by rw [← har.1])
    intro i h1 h2
    have := har.2 i args.toArray[i] args'[i] (by simp) (by simp)
    exact VRel.eq_of_flat this (List.all_eq_true.1 ha _ (by simp))
  subst hargs
  have hr := hc.run (fun _ => none) w args.toArray (fun g hlt => by omega) (fun i _ _ => rfl) ⟨rfl, fun i u u' e e' => by rw [e] at e'; cases e'; exact VRel.flat _ (List.all_eq_true.1 ha u (by simpa using Array.mem_of_getElem? e))⟩ (hrel_empty P Ev w)
  refine hr.mono ?_
  rintro e w' ⟨v', m', rfl, hF, hV, _⟩
  have keep : ∀ b, b < w.heap.size → w'.heap[b]? = w.heap[b]? := fun b hb => hF.keep b hb fun j k hj => absurd hj (Nat.not_lt_zero j)
  refine ⟨v', m, rfl, ⟨fun _ _ => rfl, fun i l a b _ => by omega, fun b hb _ => keep b hb, hF.size, hF.os, hF.tape, hF.output⟩, ?_, ?_⟩
  · rw [VRel.eq_of_flat hV hfl]; exact .flat m hfl
  · exact { lt := fun i l e => Nat.lt_of_lt_of_le (hh.lt i l e) hF.size
            typ := hh.typ
            inj := hh.inj
            roS := hh.roS
            obj := fun i l o hd e g => by
              obtain ⟨o', a, b⟩ := hh.obj i l o hd e g
              exact ⟨o', by rw [keep l.b (hh.lt i l e)]; exact a, b⟩ }
/-- What the kernel has run, at any memory. -/
theorem CallS.known (hg : P.globals.size = 0) {f : FuncId} {v : Value} {W' : Nat → Prop} {h' : AHeap} (k : CallRun P W' f #[] emptyH v h') (hfl : flatB v = true) (h : AHeap) : CallS P [] f [] h fun u h' => u = v ∧ h' = h := by
  have k' : CallRun P (· ∈ ([] : List Nat)) f #[] emptyH v h' := k.old.weak fun i hi => absurd hi.2 (Nat.not_lt_zero i)
  refine (CallS.closed hg (Q := fun u _ => u = v) (args := []) rfl ⟨v, h', k', rfl⟩ (fun u _ e => by rw [e]; exact hfl) h).mono fun u h'' ⟨e, _, e'⟩ => ⟨e', e⟩
end
/-! ### Calls as operations -/
section
variable {P : Program} {W : Nat → Prop} {q : Bool} {N : Nat} {k : List It} {ov : Ov} {df : List Nat} {h : AHeap} {Q : PQ} {ops : Array Oper} {os : List Oper} {o : Oper} {d : Nat} {b₀ : Bool} {tr : List (Option LE)}
theorem S.call {f : Operand} {xs : Array Operand} {ts : Array TypeId} {g : FuncId} {first cap : Array Value} {us : List Value} {wr : List Nat} {v : Value} {h' : AHeap} (ho : o.op = .call ⟨.value f, xs, ts⟩) (hf : evO ov f = some (.func (.func g) first cap)) (hx : evOs ov xs.toList = some us) (hc : calls P g = true)
    (hk : CallRun P (· ∈ wr) g (first.toList ++ us ++ cap.toList).toArray h v h') : ∀ tm, Rp ov tm → OpOk P o tm h ⟨v, h', [], wr, true, false⟩ := fun tm hr => by
  obtain ⟨fn, h1, h2, h3⟩ := calls_spec hc
  refine ⟨(fun e => by cases e), fun D W hall _ hw => ?_⟩
  rw [hall rfl]
  have hcr := hk.weak (W' := W) fun i hi => (hw i hi).2
  have e : (first.toList ++ us ++ cap.toList).toArray = first ++ xs.map (evalT tm) ++ cap := by
    apply Array.toList_inj.1
    simp [← evOs_eq hr hx]
  rw [e] at hcr
  exact OpRun.call ho (evO_eq hr hf) h1 h2 h3 hcr
theorem GoR.call {f : Operand} {xs : Array Operand} {ts : Array TypeId} {g : FuncId} {first cap : Array Value} {us : List Value} (ho : o.op = .call ⟨.value f, xs, ts⟩) (hd : o.dst = some d) (hN : dOk d N = true) (hgd : o.guard = none) (hf : evO ov f = some (.func (.func g) first cap)) (hx : evOs ov xs.toList = some us) (hc : calls P g = true)
    (hk : CallS P [] g (first.toList ++ us ++ cap.toList) h fun v h' => Same h h' → GoR P W q N ops b₀ os k ((d, v) :: ov) df h' Q) : GoR P W q N ops b₀ (o :: os) k ov df h Q := by
  obtain ⟨v, h', hr, hg⟩ := hk
  exact GoR.step (r := ⟨v, h', [], [], true, false⟩) hgd hd hN (S.call ho hf hx hc hr) (.inr rfl) (fun i hi => by cases hi) (hg (.of_fr hr.fr))
theorem GoR.call0 {f : Operand} {xs : Array Operand} {ts : Array TypeId} {g : FuncId} {first cap : Array Value} {us : List Value} (ho : o.op = .call ⟨.value f, xs, ts⟩) (hd : o.dst = none) (hgd : o.guard = none) (hf : evO ov f = some (.func (.func g) first cap)) (hx : evOs ov xs.toList = some us) (hc : calls P g = true)
    (hk : CallS P [] g (first.toList ++ us ++ cap.toList) h fun v h' => Same h h' → GoR P W q N ops b₀ os k ov df h' Q) : GoR P W q N ops b₀ (o :: os) k ov df h Q := by
  obtain ⟨v, h', hr, hg⟩ := hk
  exact GoR.step0 (r := ⟨v, h', [], [], true, false⟩) hgd hd (S.call ho hf hx hc hr) (.inr rfl) (fun i hi => by cases hi) (hg (.of_fr hr.fr))
/-- A call that writes, in the order of the text. -/
theorem GoR.callW {f : Operand} {xs : Array Operand} {ts : Array TypeId} {g : FuncId} {first cap : Array Value} {us : List Value} {wr : List Nat} (ho : o.op = .call ⟨.value f, xs, ts⟩) (hd : o.dst = some d) (hN : dOk d N = true) (hgd : o.guard = none) (hf : evO ov f = some (.func (.func g) first cap)) (hx : evOs ov xs.toList = some us) (hc : calls P g = true)
    (hk : CallS P wr g (first.toList ++ us ++ cap.toList) h fun v h' => Keeps wr h h' → (∀ i ∈ wr, W i) ∧ GoR P W q N ops true os k ((d, v) :: ov) df h' Q) : GoR P W q N ops true (o :: os) k ov df h Q := by
  obtain ⟨v, h', hr, hg⟩ := hk
  have kp : Keeps wr h h' := ⟨hr.fr.n, fun i hi hn => hr.fr.get i hi hn⟩
  exact GoR.step (r := ⟨v, h', [], wr, true, false⟩) hgd hd hN (S.call ho hf hx hc hr) (.inl rfl) (hg kp).1 (hg kp).2
theorem GoR.callW0 {f : Operand} {xs : Array Operand} {ts : Array TypeId} {g : FuncId} {first cap : Array Value} {us : List Value} {wr : List Nat} (ho : o.op = .call ⟨.value f, xs, ts⟩) (hd : o.dst = none) (hgd : o.guard = none) (hf : evO ov f = some (.func (.func g) first cap)) (hx : evOs ov xs.toList = some us) (hc : calls P g = true)
    (hk : CallS P wr g (first.toList ++ us ++ cap.toList) h fun v h' => Keeps wr h h' → (∀ i ∈ wr, W i) ∧ GoR P W q N ops true os k ov df h' Q) : GoR P W q N ops true (o :: os) k ov df h Q := by
  obtain ⟨v, h', hr, hg⟩ := hk
  have kp : Keeps wr h h' := ⟨hr.fr.n, fun i hi hn => hr.fr.get i hi hn⟩
  exact GoR.step0 (r := ⟨v, h', [], wr, true, false⟩) hgd hd (S.call ho hf hx hc hr) (.inl rfl) (hg kp).1 (hg kp).2
theorem GoL.call {f : Operand} {xs : Array Operand} {ts : Array TypeId} {g : FuncId} {first cap : Array Value} {us : List Value} {wr : List Nat} (ho : o.op = .call ⟨.value f, xs, ts⟩) (hd : o.dst = some d) (hN : dOk d N = true) (hgd : o.guard = none) (hf : evO ov f = some (.func (.func g) first cap)) (hx : evOs ov xs.toList = some us) (hc : calls P g = true)
    (hk : CallS P wr g (first.toList ++ us ++ cap.toList) h fun v h' => Keeps wr h h' → (∀ i ∈ wr, W i) ∧ GoL P W q N ops (tr ++ [some ⟨h.n, h'.n, [], wr, true, false⟩]) os k ((d, v) :: ov) df h' Q) : GoL P W q N ops tr (o :: os) k ov df h Q := by
  obtain ⟨v, h', hr, hg⟩ := hk
  have kp : Keeps wr h h' := ⟨hr.fr.n, fun i hi hn => hr.fr.get i hi hn⟩
  exact GoL.step (r := ⟨v, h', [], wr, true, false⟩) (some ⟨h.n, h'.n, [], wr, true, false⟩) ⟨rfl, rfl, rfl, rfl, rfl, rfl⟩ hgd hd hN (S.call ho hf hx hc hr) (hg kp).1 (hg kp).2
theorem GoL.call0 {f : Operand} {xs : Array Operand} {ts : Array TypeId} {g : FuncId} {first cap : Array Value} {us : List Value} {wr : List Nat} (ho : o.op = .call ⟨.value f, xs, ts⟩) (hd : o.dst = none) (hgd : o.guard = none) (hf : evO ov f = some (.func (.func g) first cap)) (hx : evOs ov xs.toList = some us) (hc : calls P g = true)
    (hk : CallS P wr g (first.toList ++ us ++ cap.toList) h fun v h' => Keeps wr h h' → (∀ i ∈ wr, W i) ∧ GoL P W q N ops (tr ++ [some ⟨h.n, h'.n, [], wr, true, false⟩]) os k ov df h' Q) : GoL P W q N ops tr (o :: os) k ov df h Q := by
  obtain ⟨v, h', hr, hg⟩ := hk
  have kp : Keeps wr h h' := ⟨hr.fr.n, fun i hi hn => hr.fr.get i hi hn⟩
  exact GoL.step0 (r := ⟨v, h', [], wr, true, false⟩) (some ⟨h.n, h'.n, [], wr, true, false⟩) ⟨rfl, rfl, rfl, rfl, rfl, rfl⟩ hgd hd (S.call ho hf hx hc hr) (hg kp).1 (hg kp).2
end
end Go.Proofs.Ytmelgnpogdilgaa
