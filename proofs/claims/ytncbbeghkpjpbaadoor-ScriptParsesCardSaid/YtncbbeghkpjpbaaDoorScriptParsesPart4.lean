/- What the law leans on, part 4. No conditions. -/
import Derived.Laws.Strings
import Derived.ProofKit
import Derived.OpenShut
import Derived.ChangeOld
import Derived.Deep.Slices
import Derived.KernelRfl
import Derived.Laws.StructEq
import Derived.Test.YtncbbeghkpjpbaaDoorScriptParsesPart3
set_option linter.unusedVariables false
set_option linter.unusedSimpArgs false
namespace Go.Proofs.YtncbbeghkpjpbaaDoor
open Go.RowKit
def CallS (P : Program) (wr : List Nat) (f : FuncId) (args : List Value) (h : AHeap) (Q : Value → AHeap → Prop) : Prop := ∃ v h', CallRun P (· ∈ wr) f args.toArray h v h' ∧ Q v h'
theorem CallS.mono {P : Program} {wr : List Nat} {f : FuncId} {args : List Value} {h : AHeap} {Q Q' : Value → AHeap → Prop} (k : CallS P wr f args h Q) (hq : ∀ v h', Q v h' → Q' v h') : CallS P wr f args h Q' := let ⟨v, h', a, b⟩ := k; ⟨v, h', a, hq _ _ b⟩
theorem CallS.args {P : Program} {wr : List Nat} {f : FuncId} {args args' : List Value} {h : AHeap} {Q : Value → AHeap → Prop} (k : CallS P wr f args h Q) (e : args' = args) : CallS P wr f args' h Q := e ▸ k
theorem CallS.argA {P : Program} {wr : List Nat} {f : FuncId} {args args' : List Value} {h : AHeap} {Q : Value → AHeap → Prop} (k : CallS P wr f args h Q) (e : args' = args := by first | rfl | (simp; fail_if_success focus skip) | (simp; omega) | (congr 2; omega)) : CallS P wr f args' h Q := e ▸ k
def Same (h h' : AHeap) : Prop := h.n ≤ h'.n ∧ ∀ i, i < h.n → h'.get i = h.get i
theorem Same.refl (h : AHeap) : Same h h := ⟨Nat.le_refl _, fun _ _ => rfl⟩
theorem Same.trans {a b c : AHeap} (h : Same a b) (k : Same b c) : Same a c := ⟨Nat.le_trans h.1 k.1, fun i hi => (k.2 i (Nat.lt_of_lt_of_le hi h.1)).trans (h.2 i hi)⟩
theorem Same.push {h h' : AHeap} (k : Same h h') (o : AObj) : Same h (h'.push o) := ⟨Nat.le_succ_of_le k.1, fun i hi => by rw [AHeap.get_push, if_neg (by have := k.1; omega)]; exact k.2 i hi⟩
theorem Same.put {h h' : AHeap} (k : Same h h') {b : Nat} (hb : h.n ≤ b) (o : Option AObj) : Same h (h'.put b o) := ⟨k.1, fun i hi => by rw [AHeap.get_put_ne _ _ (by omega)]; exact k.2 i hi⟩
theorem Same.get {h h' : AHeap} (k : Same h h') {i : Nat} {o : AObj} (e : h.get i = some o) : h'.get i = some o := by rw [k.2 i (AHeap.lt e)]; exact e
theorem Same.of_fr {h h' : AHeap} (k : AFr (· ∈ ([] : List Nat)) h h') : Same h h' := ⟨k.n, fun i hi => k.get i hi (by simp)⟩
def Keeps (wr : List Nat) (h h' : AHeap) : Prop := h.n ≤ h'.n ∧ ∀ i, i < h.n → i ∉ wr → h'.get i = h.get i
theorem Same.keeps {h h' : AHeap} (k : Same h h') (wr : List Nat) : Keeps wr h h' := ⟨k.1, fun i hi _ => k.2 i hi⟩
theorem Keeps.same {h h' : AHeap} (k : Keeps [] h h') : Same h h' := ⟨k.1, fun i hi => k.2 i hi (by simp)⟩
theorem get_push_lt {h : AHeap} {o x : AObj} {i : Nat} (e : h.get i = some x) : (h.push o).get i = some x := by rw [AHeap.get_push_ne _ _ (by have := AHeap.lt e; omega)]; exact e
theorem get_put_other {h : AHeap} {o : Option AObj} {x : AObj} {i b : Nat} (hne : b ≠ i) (e : h.get i = some x) : (h.put b o).get i = some x := by rw [AHeap.get_put_ne _ _ hne]; exact e
theorem get_put_self {h : AHeap} {o x : AObj} {b : Nat} (e : h.get b = some x) : (h.put b (some o)).get b = some o := AHeap.get_put_same h (AHeap.lt e) _
def retV : List Value → Value
 | [v] => v
 | vs => .tuple vs.toArray
inductive Res (P : Program) (h : AHeap) (ov : Ov) : List ResultVar → List Value → Prop
 | nil : Res P h ov [] []
 | tmp {t : Tmp} {rs : List ResultVar} {v : Value} {vs : List Value} (hv : ov.find t = some v) (k : Res P h ov rs vs) : Res P h ov (.tmp t :: rs) (v :: vs)
 | cell {a : Tmp} {t ct : TypeId} {rs : List ResultVar} {b off : Nat} {c : List Value} {v : Value} {vs : List Value} (ha : ov.find a = some (.pointer (some ⟨b, off, none⟩))) (hc : CT P t none) (hg : h.get b = some (.cells c ct)) (hv : c[off]? = some v) (k : Res P h ov rs vs) : Res P h ov (.cell a t :: rs) (v :: vs)
 | cellN {a : Tmp} {t ct : TypeId} {rs : List ResultVar} {b off n : Nat} {c l : List Value} {vs : List Value} (ha : ov.find a = some (.pointer (some ⟨b, off, none⟩))) (hc : CT P t (some n)) (hg : h.get b = some (.cells c ct)) (hl : off + n ≤ c.length) (hv : (c.drop off).take n = l) (k : Res P h ov rs vs) : Res P h ov (.cell a t :: rs) (.agg l.toArray :: vs)
theorem Res.eq {P : Program} {h : AHeap} {ov : Ov} {tm : List Value} (hr : Rp ov tm) {rs : List ResultVar} {vs : List Value} (k : Res P h ov rs vs) : aResults P h tm rs = some vs := by
 induction k with
 | nil => rfl
 | tmp hv _ ih => simp only [aResults, ih, Option.map_some]; rw [hr _ _ hv]
 | cell ha hc hg hv _ ih => simp only [aResults, ih]; rw [hr _ _ ha]; simp [aLoad, rowOf, hg, hc.h, hv]
 | cellN ha hc hg hl hv _ ih => simp only [aResults, ih]; rw [hr _ _ ha]; simp [aLoad, rowOf, hg, hc.h, hl, hv]
theorem aResult_of {P : Program} {h : AHeap} {tm : List Value} {rs : List ResultVar} {vs : List Value} (e : aResults P h tm rs = some vs) : aResult P h tm rs = some (retV vs) := by
 unfold aResult
 rw [e]
 match vs with
 | [] => rfl
 | [_] => rfl
 | _ :: _ :: _ => rfl
def Fin (P : Program) (rs : List ResultVar) (n₀ : Nat) (Q : Value → AHeap → Prop) : PQ := fun x tm df h => (x = .normal ∨ x = .ret) ∧ (∀ d ∈ df, n₀ ≤ d) ∧ ∃ h₂ v, takeAll h df = some h₂ ∧ aResult P h₂ tm rs = some v ∧ Q v h₂
section
variable {P : Program} {W : Nat → Prop} {q : Bool} {N : Nat} {k : List It} {ov : Ov} {df : List Nat} {h : AHeap} {Q : Value → AHeap → Prop}
theorem Go.fin {x : Exit} {rs : List ResultVar} {n₀ : Nat} {vs : List Value} (hx : x = .normal ∨ x = .ret) (hr : Res P h ov rs vs) (hq : Q (retV vs) h) : Go P W q N [] x ov [] h (Fin P rs n₀ Q) := fun tm hN hrp => ⟨hx, by simp, h, _, rfl, aResult_of (hr.eq hrp), hq⟩
def evRs (ov : Ov) : List ResultVar → Option (List Value)
 | [] => some []
 | .tmp t :: rs => match ov.find t, evRs ov rs with
  | some v, some vs => some (v :: vs)
  | _, _ => none
 | .cell _ _ :: _ => none
theorem evRs_res {h : AHeap} : ∀ {rs : List ResultVar} {vs : List Value}, evRs ov rs = some vs → Res P h ov rs vs
 | [], vs, e => by simp only [evRs, Option.some.injEq] at e; subst e; exact .nil
 | .tmp t :: rs, vs, e => by
  unfold evRs at e
  split at e
  · rename_i v vs' h1 h2; cases e; exact .tmp h1 (evRs_res h2)
  · cases e
 | .cell _ _ :: _, vs, e => by cases e
theorem Go.finT {x : Exit} {rs : List ResultVar} {n₀ : Nat} {vs : List Value} (hx : x = .normal ∨ x = .ret) (hr : evRs ov rs = some vs) (hq : Q (retV vs) h) : Go P W q N [] x ov [] h (Fin P rs n₀ Q) := .fin hx (evRs_res hr) hq
def ovOf : Nat → List Value → Ov
 | _, [] => []
 | i, v :: vs => (i, v) :: ovOf (i + 1) vs
theorem ovOf_rp : ∀ (args : List Value) (i : Nat) (tm : List Value), (∀ j, j < args.length → tm.getD (i + j) undef = args.getD j undef) → Rp (ovOf i args) tm
 | [], i, tm, h => fun t v e => by cases e
 | a :: args, i, tm, h => fun t v e => by
  simp only [ovOf, Ov.find] at e
  cases hb : Nat.beq i t with
  | true =>
   rw [hb] at e
   simp at e
   have := Nat.eq_of_beq_eq_true hb
   subst this e
   have := h 0 (by simp)
   simpa using this
  | false =>
   rw [hb] at e
   refine ovOf_rp args (i + 1) tm (fun j hj => ?_) t v e
   have := h (j + 1) (by simpa using hj)
   rw [show i + 1 + j = i + (j + 1) from by omega]
   simpa using this
theorem CallS.of {f : FuncId} {fn : Func} {c : Code} {N : Nat} {args : List Value} {rs : List ResultVar} {wr : List Nat} {ov : Ov} (hf : P.funcs[f]? = some fn) (hb : fn.body = some c) (hN : fn.ntmps = N) (hrs : fn.results.toList = rs) (hle : args.length ≤ N) (ho : ovOf 0 args = ov)
  (g : Go P (fun i => i ∈ wr ∨ h.n ≤ i) false N [.code c] .normal ov [] h (Fin P rs h.n Q)) : CallS P wr f args h Q := by
 subst ho hN hrs
 have hlen : (args ++ List.replicate (fn.ntmps - args.length) undef).length = fn.ntmps := by simp; omega
 obtain ⟨x, tm, df, h', r, _, hx, hdf, h₂, v, ht, hv, hq⟩ := (g (args ++ List.replicate (fn.ntmps - args.length) undef) hlen (ovOf_rp args 0 _ fun j hj => by
  simp only [Nat.zero_add, List.getD_eq_getElem?_getD]
  rw [List.getElem?_append_left hj])).1 rfl
 have run : Run P (fun i => i ∈ wr ∨ h.n ≤ i) false c ⟨args.toArray.toList ++ List.replicate (fn.ntmps - args.toArray.size) undef, [], h⟩ x ⟨tm, df, h'⟩ := by simpa using r
 have cr := (CallRun.of_marks hf hb run hx ht (fun d hd => .inr (hdf d hd)) hv).old
 exact ⟨v, h₂, cr.weak fun i ⟨hi, hlt⟩ => hi.resolve_right (by omega), hq⟩
end
section
variable {P : Program} {W : Nat → Prop} {q : Bool} {N : Nat} {k : List It} {ov : Ov} {df : List Nat} {h : AHeap} {Q : PQ} {ops : Array Oper} {os : List Oper} {o : Oper} {d : Nat} {b₀ : Bool} {tr : List (Option LE)}
theorem S.call {f : Operand} {xs : Array Operand} {ts : Array TypeId} {g : FuncId} {first cap : Array Value} {us : List Value} {wr : List Nat} {v : Value} {h' : AHeap} (ho : o.op = .call ⟨.value f, xs, ts⟩) (hf : evO ov f = some (.func (.func g) first cap)) (hx : evOs ov xs.toList = some us) (hc : calls P g = true)
  (hk : CallRun P (· ∈ wr) g (first.toList ++ us ++ cap.toList).toArray h v h') : ∀ tm, Rp ov tm → OpOk P o tm h ⟨v, h', [], wr, true, false⟩ := fun tm hr => by
 obtain ⟨fn, h1, h2, h3⟩ := calls_spec hc
 refine ⟨(fun e => by cases e), fun D W hall _ hw => ?_⟩
 rw [hall rfl]
 have hcr := hk.weak (W' := W) fun i hi => (hw i hi).2
 have e : (first.toList ++ us ++ cap.toList).toArray = first ++ xs.map (evalT tm) ++ cap := by
  apply Array.toList_inj.1
  simp [← evOs_eq hr hx]
 rw [e] at hcr
 exact OpRun.call ho (evO_eq hr hf) h1 h2 h3 hcr
theorem GoR.call {f : Operand} {xs : Array Operand} {ts : Array TypeId} {g : FuncId} {first cap : Array Value} {us : List Value} (ho : o.op = .call ⟨.value f, xs, ts⟩) (hd : o.dst = some d) (hN : dOk d N = true) (hgd : o.guard = none) (hf : evO ov f = some (.func (.func g) first cap)) (hx : evOs ov xs.toList = some us) (hc : calls P g = true)
  (hk : CallS P [] g (first.toList ++ us ++ cap.toList) h fun v h' => Same h h' → GoR P W q N ops b₀ os k ((d, v) :: ov) df h' Q) : GoR P W q N ops b₀ (o :: os) k ov df h Q := by
 obtain ⟨v, h', hr, hg⟩ := hk
 exact GoR.step (r := ⟨v, h', [], [], true, false⟩) hgd hd hN (S.call ho hf hx hc hr) (.inr rfl) (fun i hi => by cases hi) (hg (.of_fr hr.fr))
theorem GoR.callW {f : Operand} {xs : Array Operand} {ts : Array TypeId} {g : FuncId} {first cap : Array Value} {us : List Value} {wr : List Nat} (ho : o.op = .call ⟨.value f, xs, ts⟩) (hd : o.dst = some d) (hN : dOk d N = true) (hgd : o.guard = none) (hf : evO ov f = some (.func (.func g) first cap)) (hx : evOs ov xs.toList = some us) (hc : calls P g = true)
  (hk : CallS P wr g (first.toList ++ us ++ cap.toList) h fun v h' => Keeps wr h h' → (∀ i ∈ wr, W i) ∧ GoR P W q N ops true os k ((d, v) :: ov) df h' Q) : GoR P W q N ops true (o :: os) k ov df h Q := by
 obtain ⟨v, h', hr, hg⟩ := hk
 have kp : Keeps wr h h' := ⟨hr.fr.n, fun i hi hn => hr.fr.get i hi hn⟩
 exact GoR.step (r := ⟨v, h', [], wr, true, false⟩) hgd hd hN (S.call ho hf hx hc hr) (.inl rfl) (hg kp).1 (hg kp).2
theorem GoL.call {f : Operand} {xs : Array Operand} {ts : Array TypeId} {g : FuncId} {first cap : Array Value} {us : List Value} {wr : List Nat} (ho : o.op = .call ⟨.value f, xs, ts⟩) (hd : o.dst = some d) (hN : dOk d N = true) (hgd : o.guard = none) (hf : evO ov f = some (.func (.func g) first cap)) (hx : evOs ov xs.toList = some us) (hc : calls P g = true)
  (hk : CallS P wr g (first.toList ++ us ++ cap.toList) h fun v h' => Keeps wr h h' → (∀ i ∈ wr, W i) ∧ GoL P W q N ops (tr ++ [some ⟨h.n, h'.n, [], wr, true, false⟩]) os k ((d, v) :: ov) df h' Q) : GoL P W q N ops tr (o :: os) k ov df h Q := by
 obtain ⟨v, h', hr, hg⟩ := hk
 have kp : Keeps wr h h' := ⟨hr.fr.n, fun i hi hn => hr.fr.get i hi hn⟩
 exact GoL.step (r := ⟨v, h', [], wr, true, false⟩) (some ⟨h.n, h'.n, [], wr, true, false⟩) ⟨rfl, rfl, rfl, rfl, rfl, rfl⟩ hgd hd hN (S.call ho hf hx hc hr) (hg kp).1 (hg kp).2
end
end Go.Proofs.YtncbbeghkpjpbaaDoor
namespace Go.Proofs.YtncbbeghkpjpbaaDoor
def ptA (a : Option Addr) (k : Nat) : Value := match a with
 | some ⟨b, o, s⟩ => .pointer (some ⟨b, o + k, s⟩)
 | none => .pointer none
def subA (a : Option Addr) (k : Nat) : Option Addr := match a with
 | some ⟨b, o, s⟩ => some ⟨b, o + k, s⟩
 | none => none
def blk (a : Option Addr) : List Nat := match a with
 | some ⟨b, _, _⟩ => [b]
 | none => []
inductive Sv (h : AHeap) (t : TypeId) (sz : Nat) : Option Addr → Nat → Nat → List Value → Prop
 | nil : Sv h t sz none 0 0 []
 | mk {b o len cap : Nat} {c cs : List Value} (hg : h.get b = some (.cells c t)) (ho : o + cap * sz ≤ c.length) (hl : len ≤ cap) (hc : (c.drop o).take (len * sz) = cs) : Sv h t sz (some ⟨b, o, none⟩) len cap cs
def Own (n : Nat) (a : Option Addr) : Prop := ∀ i ∈ blk a, n ≤ i
theorem Own.nil (n : Nat) : Own n none := fun i hi => by cases hi
theorem Own.mk {n b o : Nat} (h : n ≤ b) : Own n (some ⟨b, o, none⟩) := fun i hi => by simp [blk] at hi; omega
theorem Own.mono {n n' : Nat} {a : Option Addr} (h : Own n a) (hle : n' ≤ n) : Own n' a := fun i hi => by have := h i hi; omega
section
variable {h h' : AHeap} {t : TypeId} {sz : Nat} {a : Option Addr} {len cap : Nat} {cs : List Value}
theorem Sv.length (k : Sv h t sz a len cap cs) : cs.length = len * sz := by
 cases k with
 | nil => simp
 | mk hg ho hl hc =>
  subst hc
  have : len * sz ≤ cap * sz := Nat.mul_le_mul_right _ hl
  simp; omega
theorem Sv.pos (k : Sv h t sz a len cap cs) (hl : 0 < cs.length) : 0 < len := by
 have := k.length
 rcases Nat.eq_zero_or_pos len with e | e
 · subst e; simp at this; subst this; simp at hl
 · exact e
theorem Sv.le (k : Sv h t sz a len cap cs) : len ≤ cap := by
 cases k with
 | nil => omega
 | mk hg ho hl hc => exact hl
theorem Sv.lt (k : Sv h t sz a len cap cs) : ∀ i ∈ blk a, i < h.n := by
 cases k with
 | nil => intro i hi; cases hi
 | mk hg ho hl hc => intro i hi; simp [blk] at hi; subst hi; exact AHeap.lt hg
theorem Sv.keep (k : Sv h t sz a len cap cs) (hk : ∀ i ∈ blk a, h'.get i = h.get i) : Sv h' t sz a len cap cs := by
 cases k with
 | nil => exact .nil
 | mk hg ho hl hc => exact .mk (by rw [hk _ (by simp [blk])]; exact hg) ho hl hc
theorem Sv.same (k : Sv h t sz a len cap cs) (s : Same h h') : Sv h' t sz a len cap cs := k.keep fun i hi => s.2 i (k.lt i hi)
theorem Sv.keeps {wr : List Nat} (k : Sv h t sz a len cap cs) (s : Keeps wr h h') (hn : ∀ i ∈ blk a, i ∉ wr) : Sv h' t sz a len cap cs := k.keep fun i hi => s.2 i (k.lt i hi) (hn i hi)
theorem Sv.push (k : Sv h t sz a len cap cs) (o : AObj) : Sv (h.push o) t sz a len cap cs := k.same ((Same.refl h).push o)
theorem Sv.put {b : Nat} (k : Sv h t sz a len cap cs) (hb : b ∉ blk a) (o : Option AObj) : Sv (h.put b o) t sz a len cap cs := k.keep fun i hi => AHeap.get_put_ne _ _ (fun e => hb (e ▸ hi))
theorem Sv.new (h : AHeap) (c : List Value) (t : TypeId) {sz len : Nat} (hc : c.length = len * sz) : Sv (h.push (.cells c t)) t sz (some ⟨h.n, 0, none⟩) len len c := .mk (AHeap.get_push_same h _) (by simp [hc]) (Nat.le_refl _) (by simp [← hc])
theorem Sv.some (k : Sv h t sz a len cap cs) (hpos : 0 < len) : ∃ b o c, a = some ⟨b, o, none⟩ ∧ h.get b = some (.cells c t) ∧ o + cap * sz ≤ c.length ∧ len ≤ cap ∧ (c.drop o).take (len * sz) = cs := by
 cases k with
 | nil => omega
 | mk hg ho hl hc => exact ⟨_, _, _, rfl, hg, ho, hl, hc⟩
theorem Sv.sub (k : Sv h t sz a len cap cs) {l r : Nat} (h1 : l ≤ r) (h2 : r ≤ len) : Sv h t sz (subA a (l * sz)) (r - l) (cap - l) ((cs.drop (l * sz)).take ((r - l) * sz)) := by
 cases k with
 | nil =>
  have e1 : l = 0 := by omega
  have e2 : r = 0 := by omega
  subst e1 e2
  simp only [subA, List.drop_nil, List.take_nil]
  exact .nil
 | @mk b o _ _ c _ hg ho hl hc =>
  subst hc
  have m1 : l * sz ≤ cap * sz := Nat.mul_le_mul_right _ (by omega)
  have m2 : (cap - l) * sz = cap * sz - l * sz := Nat.sub_mul _ _ _
  have m3 : (r - l) * sz = r * sz - l * sz := Nat.sub_mul _ _ _
  have m4 : r * sz ≤ len * sz := Nat.mul_le_mul_right _ h2
  refine .mk hg (by omega) (by omega) ?_
  rw [List.drop_take, List.take_take, List.drop_drop]
  rw [Nat.min_eq_left (by omega)]
end
inductive Rv (P : Program) (h : AHeap) (sz : Nat) : Option Addr → Nat → Nat → List Value → Prop
 | nil : Rv P h sz none 0 0 []
 | mk {b o len cap : Nat} {c cs : List Value} (hg : (∃ t, h.get b = some (.cells c t) ∧ sizeT P t = some sz) ∨ h.get b = some (.ro c)) (ho : o + len * sz ≤ c.length) (hl : len ≤ cap) (hc : (c.drop o).take (len * sz) = cs) : Rv P h sz (some ⟨b, o, none⟩) len cap cs
theorem Sv.rv {P : Program} {h : AHeap} {t : TypeId} {sz : Nat} {a : Option Addr} {len cap : Nat} {cs : List Value} (k : Sv h t sz a len cap cs) [hs : SZ P t sz] : Rv P h sz a len cap cs := by
 cases k with
 | nil => exact .nil
 | mk hg ho hl hc => exact .mk (.inl ⟨t, hg, hs.h⟩) (by have := Nat.mul_le_mul_right sz hl; omega) hl hc
section
variable {P : Program} {h h' : AHeap} {sz : Nat} {a : Option Addr} {len cap : Nat} {cs : List Value}
theorem Rv.length (k : Rv P h sz a len cap cs) : cs.length = len * sz := by
 cases k with
 | nil => simp
 | mk hg ho hl hc =>
  subst hc
  simp; omega
theorem Rv.pos (k : Rv P h sz a len cap cs) (hl : 0 < cs.length) : 0 < len := by
 have := k.length
 rcases Nat.eq_zero_or_pos len with e | e
 · subst e; simp at this; subst this; simp at hl
 · exact e
theorem Rv.le (k : Rv P h sz a len cap cs) : len ≤ cap := by
 cases k with
 | nil => omega
 | mk hg ho hl hc => exact hl
theorem Rv.lt (k : Rv P h sz a len cap cs) : ∀ i ∈ blk a, i < h.n := by
 cases k with
 | nil => intro i hi; cases hi
 | mk hg ho hl hc =>
  intro i hi; simp [blk] at hi; subst hi
  rcases hg with ⟨t, hg, _⟩ | hg <;> exact AHeap.lt hg
theorem Rv.keep (k : Rv P h sz a len cap cs) (hk : ∀ i ∈ blk a, h'.get i = h.get i) : Rv P h' sz a len cap cs := by
 cases k with
 | nil => exact .nil
 | mk hg ho hl hc => exact .mk (by rw [hk _ (by simp [blk])]; exact hg) ho hl hc
theorem Rv.same (k : Rv P h sz a len cap cs) (s : Same h h') : Rv P h' sz a len cap cs := k.keep fun i hi => s.2 i (k.lt i hi)
theorem Rv.keeps {wr : List Nat} (k : Rv P h sz a len cap cs) (s : Keeps wr h h') (hn : ∀ i ∈ blk a, i ∉ wr) : Rv P h' sz a len cap cs := k.keep fun i hi => s.2 i (k.lt i hi) (hn i hi)
theorem Rv.push (k : Rv P h sz a len cap cs) (o : AObj) : Rv P (h.push o) sz a len cap cs := k.same ((Same.refl h).push o)
theorem Rv.some (k : Rv P h sz a len cap cs) (hpos : 0 < len) : ∃ b o c, a = some ⟨b, o, none⟩ ∧ rowOf (h.get b) = some c ∧ o + len * sz ≤ c.length ∧ len ≤ cap ∧ (c.drop o).take (len * sz) = cs := by
 cases k with
 | nil => omega
 | mk hg ho hl hc =>
  refine ⟨_, _, _, rfl, ?_, ho, hl, hc⟩
  rcases hg with ⟨t, hg, _⟩ | hg <;> rw [hg] <;> rfl
theorem Rv.sub (k : Rv P h sz a len cap cs) {l r : Nat} (h1 : l ≤ r) (h2 : r ≤ len) : Rv P h sz (subA a (l * sz)) (r - l) (cap - l) ((cs.drop (l * sz)).take ((r - l) * sz)) := by
 cases k with
 | nil =>
  have e1 : l = 0 := by omega
  have e2 : r = 0 := by omega
  subst e1 e2
  simp only [subA, List.drop_nil, List.take_nil]
  exact .nil
 | @mk b o _ _ c _ hg ho hl hc =>
  subst hc
  have m5 : l * sz ≤ r * sz := Nat.mul_le_mul_right _ h1
  have m3 : (r - l) * sz = r * sz - l * sz := Nat.sub_mul _ _ _
  have m4 : r * sz ≤ len * sz := Nat.mul_le_mul_right _ h2
  refine .mk hg (by omega) (by omega) ?_
  rw [List.drop_take, List.take_take, List.drop_drop]
  rw [Nat.min_eq_left (by omega)]
end
theorem getD_take_drop {c : List Value} {o n k : Nat} (hk : k < n) : ((c.drop o).take n)[k]? = c[o + k]? := by
 rw [List.getElem?_take_of_lt hk, List.getElem?_drop]
section
variable {P : Program} {o : Oper} {ov : Ov} {h : AHeap}
theorem aSlice_of {t : TypeId} {e : TypeId} {sz : Nat} {a : Option Addr} {len cap : Nat} {cs : List Value} (hu : P.underlying t = some (.slice e)) (hs : sizeT P e = some sz) (hS : Rv P h sz a len cap cs) {l r : Nat} {lo hi : Option Value} (hl : bnd 0 lo = some l) (hr : bnd len hi = some r) (h1 : l ≤ r) (h2 : r ≤ cap) : aSlice P h t lo hi none (.slice a len cap) = some (.slice (subA a (l * sz)) (r - l) (cap - l)) := by
 cases hS with
 | nil =>
  have e1 : l = 0 := by omega
  have e2 : r = 0 := by omega
  subst e1 e2
  have hb0 : bnd 0 none = some 0 := rfl
  simp only [aSlice, hu, hs, hl, hr, hb0]
  simp [subA]
 | mk hg ho hle hc =>
  have hbc : bnd cap none = some cap := rfl
  simp only [aSlice, hu, hs, hl, hr, hbc]
  rw [if_pos ⟨h1, h2, Nat.le_refl _, .inr ⟨trivial, (hg.elim (fun ⟨t', hg, ht'⟩ => .inl (by simp [sameSize, hg, ht'])) fun hg => .inr (by simp [tight, hg]))⟩⟩]
  rfl
theorem aSrc_of {sz : Nat} {a : Option Addr} {len cap : Nat} {cs : List Value} (hS : Rv P h sz a len cap cs) : ∃ rd, aSrc h sz len (.slice a len cap) = some (cs, rd) ∧ ∀ i ∈ rd, i ∈ blk a := by
 cases hS with
 | nil => exact ⟨[], rfl, fun i hi => by cases hi⟩
 | @mk b o _ _ c _ hg ho hle hc =>
  have hg : rowOf (h.get b) = some c := by rcases hg with ⟨t, hg, _⟩ | hg <;> rw [hg] <;> rfl
  by_cases h0 : len * sz = 0
  ·
   refine ⟨[], ?_, fun i hi => by cases hi⟩
   simp only [aSrc, h0, if_true]
   rw [← hc, h0, List.take_zero]
  ·
   refine ⟨[b], ?_, fun i hi => by simpa [blk] using hi⟩
   simp only [aSrc, if_neg h0, hg]
   rw [if_pos ⟨Nat.le_refl _, by omega⟩, hc]
class AP (P : Program) (t t₂ : TypeId) (e : outParam TypeId) (sz bytes : outParam Nat) : Prop where
 u : P.underlying t = some (.slice e)
 s : sizeT P e = some sz
 i : ∃ inf z, P.info? e = some inf ∧ inf.size = sz ∧ inf.bytes = bytes ∧ inf.zero = some z ∧ 0 < sz ∧ zOk z = true ∧ z.cells.toList.length = sz
 u2 : ∃ e₂, P.underlying t₂ = some (.slice e₂)
theorem setL_end {c : List Value} {o : Nat} {l new : List Value} {m : Nat} (hm : (c.drop o).take m = l) (hlen : o + m + new.length ≤ c.length) : ((setL c (o + m) new).drop o).take (m + new.length) = l ++ new := by
 have hl : l.length = m := by subst hm; simp; omega
 unfold setL
 rw [List.append_assoc, List.drop_append_of_le_length (by simp; omega)]
 have e1 : (c.take (o + m)).drop o = l := by rw [List.drop_take, Nat.add_sub_cancel_left, hm]
 rw [e1, List.take_append, hl, List.take_of_length_le (by omega), Nat.add_sub_cancel_left, List.take_append_of_le_length (Nat.le_refl _), List.take_of_length_le (Nat.le_refl _)]
theorem aAppend_of {t t₂ e : TypeId} {sz bytes : Nat} [hA : AP P t t₂ e sz bytes] {a a' : Option Addr} {len cap n cap' : Nat} {cs new : List Value} (hS : Sv h e sz a len cap cs) (hN : Rv P h sz a' n cap' new) (h1 : len + n ≤ 1099511627776) (h2 : (len + n) * bytes ≤ 140737488355328) (hone : new.all Value.oneCell' = true) :
  ∃ v h' rd wr, aAppend P h t t₂ (.slice a len cap) (.slice a' n cap') = some (v, h', rd, wr) ∧ (∀ i ∈ wr, i ∈ blk a) ∧ (∀ i ∈ rd, i ∈ blk a ∨ i ∈ blk a') ∧ ∃ a₂ cap₂, v = .slice a₂ (len + n) cap₂ ∧ Sv h' e sz a₂ (len + n) cap₂ (cs ++ new) ∧ Keeps (blk a) h h' ∧ (∀ i ∈ blk a₂, i ∈ blk a ∨ h.n ≤ i) := by
 obtain ⟨inf, z, hi, rfl, rfl, hz, hsz, hzf, hzl⟩ := hA.i
 obtain ⟨e₂, hu2⟩ := hA.u2
 obtain ⟨rd₁, hsrc, hrd₁⟩ := aSrc_of hN
 have hnl := hN.length
 have hnew : aNew P h e inf t₂ (.slice a' n cap') = some (n, new, rd₁) := by simp [aNew, hu2, hsrc]
 simp only [aAppend, hA.u, hi, hz]
 rw [if_pos ⟨hsz, hzf, hzl⟩]
 simp only [hnew]
 cases hS with
 | nil =>
  simp only [aGrow]
  by_cases h0 : n = 0
  ·
   subst h0
   have : new = [] := List.length_eq_zero_iff.1 (by simpa using hnl)
   subst this
   rw [if_pos rfl]
   exact ⟨_, _, _, _, rfl, (fun i hi => by cases hi), (fun i hi => .inr (hrd₁ i hi)), none, 0, rfl, .nil, ⟨Nat.le_refl _, fun i _ _ => rfl⟩, fun i hi => by cases hi⟩
  ·
   rw [if_neg h0, if_pos ⟨by omega, by simpa using h2⟩]
   refine ⟨_, _, _, _, rfl, (fun i hi => by cases hi), (fun i hi => .inr (hrd₁ i hi)), some ⟨h.n, 0, none⟩, n, by simp, by simpa using Sv.new h new e hnl, ((Same.refl h).push _).keeps _, fun i hi => ?_⟩
   simp [blk] at hi
   omega
 | @mk b o _ _ c _ hg ho hle hc =>
  have m : len * inf.size ≤ cap * inf.size := Nat.mul_le_mul_right _ hle
  have hcl : cs.length = len * inf.size := by subst hc; simp; omega
  simp only [aGrow]
  by_cases hfit : len + n ≤ cap
  ·
   rw [if_pos hfit]
   have m2 : (len + n) * inf.size ≤ cap * inf.size := Nat.mul_le_mul_right _ hfit
   have m3 : (len + n) * inf.size = len * inf.size + n * inf.size := Nat.add_mul _ _ _
   by_cases he : new.isEmpty = true
   ·
    rw [if_pos he]
    have he' : new = [] := List.isEmpty_iff.1 he
    subst he'
    have hn0 : n = 0 := by
     have : n * inf.size = 0 := by simpa using hnl.symm
     rcases Nat.mul_eq_zero.1 this with h | h <;> omega
    subst hn0
    refine ⟨_, _, _, _, rfl, (fun i hi => by cases hi), (fun i hi => .inr (hrd₁ i hi)), _, _, rfl, ?_, ⟨Nat.le_refl _, fun i _ _ => rfl⟩, fun i hi => .inl hi⟩
    rw [List.append_nil]
    exact .mk hg ho hle hc
   ·
    rw [if_neg he]
    simp only [hg]
    rw [if_pos ⟨by omega, hone⟩]
    refine ⟨_, _, _, _, rfl, (fun i hi => by simpa [blk] using hi), (fun i hi => ?_), _, _, rfl, ?_, ⟨Nat.le_refl _, fun i _ hn => AHeap.get_put_ne _ _ fun e => hn (by simp [blk, e])⟩, fun i hi => .inl hi⟩
    ·
     rcases List.mem_cons.1 hi with rfl | hi
     · exact .inl (by simp [blk])
     · exact .inr (hrd₁ i hi)
    ·
     refine .mk (get_put_self hg) (by rw [setL_length (by omega)]; exact ho) hfit ?_
     rw [m3, ← hnl]
     exact setL_end hc (by omega)
  ·
   rw [if_neg hfit, if_pos ⟨h1, h2⟩]
   obtain ⟨rd₂, hold, hrd₂⟩ := aSrc_of (Rv.mk (P := P) (.inl ⟨e, hg, hA.s⟩) (by omega) hle hc)
   simp only [hold]
   have hlen2 : (cs ++ new).length = (len + n) * inf.size := by rw [List.length_append, hcl, hnl, Nat.add_mul]
   split
   ·
    refine ⟨_, _, _, _, rfl, (fun i hi => by cases hi), (fun i hi => ?_), _, _, rfl, Sv.new h _ e hlen2, ((Same.refl h).push _).keeps _, fun i hi => ?_⟩
    ·
     rcases List.mem_append.1 hi with hi | hi
     · exact .inr (hrd₁ i hi)
     · exact .inl (hrd₂ i hi)
    · simp [blk] at hi; omega
   ·
    rename_i htight
    have ht : o + cap * inf.size = c.length := by
     simp [tight, hg, hA.s] at htight
     exact htight
    simp only [hg]
    rw [if_pos ⟨trivial, ht, hone, hle⟩]
    refine ⟨_, _, _, _, rfl, (fun i hi => by simpa [blk] using hi), (fun i hi => ?_), some ⟨h.n, 0, none⟩, _, rfl, ?_, ⟨Nat.le_succ _, fun i hi hn => ?_⟩, fun i hi => ?_⟩
    ·
     rcases List.mem_cons.1 hi with rfl | hi
     · exact .inl (by simp [blk])
     ·
      rcases List.mem_append.1 hi with hi | hi
      · exact .inr (hrd₁ i hi)
      · exact .inl (hrd₂ i hi)
    · exact Sv.new (h.put b none) _ e hlen2
    · rw [AHeap.get_push_ne _ _ (by simp; omega), AHeap.get_put_ne _ _ fun e => hn (by simp [blk, e])]
    · simp [blk] at hi; omega
class MK (P : Program) (t : TypeId) (e : outParam TypeId) (bytes : outParam Nat) (z : outParam Value) : Prop where
 u : P.underlying t = some (.slice e)
 i : ∃ inf, P.info? e = some inf ∧ inf.size = 1 ∧ inf.bytes = bytes
 hz : zeroT P e = some z
 f : flatB z = true ∧ cellsL z = [z]
theorem zeros_one (z : Value) (n : Nat) : zeros [z] n = List.replicate n z := by
 induction n with
 | zero => rfl
 | succ n ih => simp [zeros, ih, List.replicate_succ]
theorem aMake_of {t e : TypeId} {bytes : Nat} {z : Value} [hM : MK P t e bytes z] {k k' : IntKind} {l c : Int} (h0 : 0 ≤ l) (h1 : l ≤ c) (h2 : c ≤ 1099511627776) (h3 : (bytes : Int) * c ≤ 281474976710656) : aMake P t (.int k l) (.int k' c) = some (l.toNat, c.toNat, .cells (List.replicate c.toNat z) e) := by
 obtain ⟨inf, hi, hs, rfl⟩ := hM.i
 have hzl : z.cells.toList = [z] := by rw [cellsL_eq]; exact hM.f.2
 simp only [aMake, hM.u, hi]
 rw [if_pos ⟨h0, h1, h2, h3⟩]
 unfold aZeros
 by_cases hc : c.toNat * inf.size = 0
 ·
  have : c.toNat = 0 := by rw [hs] at hc; omega
  simp [this]
 ·
  rw [if_neg hc]
  simp only [hM.hz]
  rw [if_pos ⟨hM.f.1, by rw [hzl, hs]; rfl⟩, hzl, zeros_one]
  rfl
theorem S.indexV {t : TypeId} {x y : Operand} {kk : IntKind} {i : Int} {sz : Nat} {a : Option Addr} {len cap : Nat} {cs : List Value} (ho : o.op = .indexAddr t x y) (hx : evO ov x = some (.slice a len cap)) (hy : evO ov y = some (.int kk i)) [he : EL P t (none, sz)] (hS : Rv P h sz a len cap cs) (h0 : 0 ≤ i) (h1 : i < (len : Int)) : ∀ tm, Rp ov tm → OpOk P o tm h ⟨(ptA a (i.toNat * sz)), h, [], [], false, true⟩ := fun tm hr => .pure fun D W => OpRun.indexAddr ho (by
  rw [evO_eq hr hx, evO_eq hr hy]
  obtain ⟨b, o, c, rfl, _⟩ := hS.some (by omega)
  exact aIndex_slice he.h h0 h1)
theorem S.fieldV {s : TypeId} {f kk kv : Nat} {x : Operand} {sz : Nat} {a : Option Addr} {len cap : Nat} {cs : List Value} (ho : o.op = .fieldAddr s x f) (hx : evO ov x = some (ptA a kv)) [hf : FO P s f kk] (hS : Rv P h sz a len cap cs) (hl : kv < cs.length) : ∀ tm, Rp ov tm → OpOk P o tm h ⟨(ptA a (kv + kk)), h, [], [], false, true⟩ := fun tm hr => .pure fun D W => OpRun.fieldAddr ho (by
  rw [evO_eq hr hx]
  have hp := hS.pos (by omega)
  obtain ⟨b, o, c, rfl, _⟩ := hS.some hp
  have := aField_of hf.h b (o + kv)
  rw [Nat.add_assoc] at this
  exact this)
theorem S.loadV {t : TypeId} {x : Operand} {kv : Nat} {v : Value} {sz : Nat} {a : Option Addr} {len cap : Nat} {cs : List Value} (ho : o.op = .load t x) (hx : evO ov x = some (ptA a kv)) [hc : CT P t none] (hS : Rv P h sz a len cap cs) (hv : cs[kv]? = some v) : ∀ tm, Rp ov tm → OpOk P o tm h ⟨v, h, (blk a), [], false, true⟩ := fun tm hr => .read fun D W hD => by
  have hl : kv < cs.length := (List.getElem?_eq_some_iff.1 hv).1
  have hlen := hS.length
  have hp := hS.pos (by omega)
  obtain ⟨b, o, c, rfl, hg, ho', hle, rfl⟩ := hS.some hp
  rw [getD_take_drop (by omega)] at hv
  exact OpRun.load ho (by rw [evO_eq hr hx]; simp [ptA, aLoad, hg, hc.h, hv]) (hD b (by simp [blk]))
theorem S.loadVN {t : TypeId} {x : Operand} {kv n : Nat} {l : List Value} {sz : Nat} {a : Option Addr} {len cap : Nat} {cs : List Value} (ho : o.op = .load t x) (hx : evO ov x = some (ptA a kv)) [hc : CT P t (some n)] (hS : Rv P h sz a len cap cs) (hl : kv + n ≤ cs.length) (hn : 0 < n) (hv : (cs.drop kv).take n = l) : ∀ tm, Rp ov tm → OpOk P o tm h ⟨(.agg l.toArray), h, (blk a), [], false, true⟩ := fun tm hr => .read fun D W hD => by
  have hlen := hS.length
  have hp := hS.pos (by omega)
  obtain ⟨b, o, c, rfl, hg, ho', hle, rfl⟩ := hS.some hp
  simp at hl
  rw [List.drop_take, List.take_take, List.drop_drop, Nat.min_eq_left (by omega)] at hv
  subst hv
  exact OpRun.load ho (by rw [evO_eq hr hx]; simp only [ptA, aLoad, hg, hc.h]; rw [if_pos (by omega)]) (hD b (by simp [blk]))
theorem S.sliceV {t : TypeId} {x : Operand} {lo hi : Option Operand} {lo' hi' : Option Value} {l r : Nat} {e : TypeId} {sz : Nat} {a : Option Addr} {len cap : Nat} {cs : List Value} (ho : o.op = .slice t x lo hi none) (hx : evO ov x = some (.slice a len cap)) (hlo : lo.map (evO ov) = lo'.map some) (hhi : hi.map (evO ov) = hi'.map some) [hu : UN P t (.slice e)] [hs : SZ P e sz] (hS : Rv P h sz a len cap cs) (hbl : bnd 0 lo' = some l) (hbr : bnd len hi' = some r) (h1 : l ≤ r) (h2 : r ≤ cap) : ∀ tm, Rp ov tm → OpOk P o tm h ⟨(.slice (subA a (l * sz)) (r - l) (cap - l)), h, [], [], false, true⟩ := fun tm hr => S.slice ho hx hlo hhi (mx' := none) rfl (aSlice_of hu.h hs.h hS hbl hbr h1 h2) tm hr
theorem S.makeV {t e : TypeId} {bytes : Nat} {z : Value} {x y : Operand} {kd kd' : IntKind} {l c : Int} (ho : o.op = .makeSlice t x y) (hx : evO ov x = some (.int kd l)) (hy : evO ov y = some (.int kd' c)) [hM : MK P t e bytes z] (h0 : 0 ≤ l) (h1 : l ≤ c) (h2 : c ≤ 1099511627776) (h3 : (bytes : Int) * c ≤ 281474976710656) : ∀ tm, Rp ov tm → OpOk P o tm h ⟨(.slice (some ⟨h.n, 0, none⟩) l.toNat c.toNat), (h.push (.cells (List.replicate c.toNat z) e)), [], [], false, false⟩ := fun tm hr => S.makeSlice ho hx hy (aMake_of h0 h1 h2 h3) tm hr
end
section
variable {P : Program} {W : Nat → Prop} {q : Bool} {N : Nat} {k : List It} {ov : Ov} {df : List Nat} {h : AHeap} {Q : PQ} {ops : Array Oper} {os : List Oper} {o : Oper} {d : Nat} {b₀ : Bool} {tr : List (Option LE)}
theorem GoR.indexV {t : TypeId} {x y : Operand} {kk : IntKind} {i : Int} {sz : Nat} {a : Option Addr} {len cap : Nat} {cs : List Value} (ho : o.op = .indexAddr t x y) (hd : o.dst = some d) (hN : dOk d N = true) (hgd : o.guard = none) (hx : evO ov x = some (.slice a len cap)) (hy : evO ov y = some (.int kk i)) [he : EL P t (none, sz)] (hS : Rv P h sz a len cap cs) (h0 : 0 ≤ i) (h1 : i < (len : Int)) (g : GoR P W q N ops b₀ os k ((d, (ptA a (i.toNat * sz))) :: ov) df h Q) : GoR P W q N ops b₀ (o :: os) k ov df h Q := GoR.step (r := ⟨(ptA a (i.toNat * sz)), h, [], [], false, true⟩) hgd hd hN (S.indexV ho hx hy hS h0 h1) (.inr rfl) (fun i hi => by cases hi) g
theorem GoL.indexV {t : TypeId} {x y : Operand} {kk : IntKind} {i : Int} {sz : Nat} {a : Option Addr} {len cap : Nat} {cs : List Value} (ho : o.op = .indexAddr t x y) (hd : o.dst = some d) (hN : dOk d N = true) (hgd : o.guard = none) (hx : evO ov x = some (.slice a len cap)) (hy : evO ov y = some (.int kk i)) [he : EL P t (none, sz)] (hS : Rv P h sz a len cap cs) (h0 : 0 ≤ i) (h1 : i < (len : Int)) (g : GoL P W q N ops (tr ++ [none]) os k ((d, (ptA a (i.toNat * sz))) :: ov) df h Q) : GoL P W q N ops tr (o :: os) k ov df h Q := GoL.step (r := ⟨(ptA a (i.toNat * sz)), h, [], [], false, true⟩) none ⟨rfl, rfl, rfl, rfl, rfl⟩ hgd hd hN (S.indexV ho hx hy hS h0 h1) (fun i hi => by cases hi) g
theorem GoR.fieldV {s : TypeId} {f kk kv : Nat} {x : Operand} {sz : Nat} {a : Option Addr} {len cap : Nat} {cs : List Value} (ho : o.op = .fieldAddr s x f) (hd : o.dst = some d) (hN : dOk d N = true) (hgd : o.guard = none) (hx : evO ov x = some (ptA a kv)) [hf : FO P s f kk] (hS : Rv P h sz a len cap cs) (hl : kv < cs.length) (g : GoR P W q N ops b₀ os k ((d, (ptA a (kv + kk))) :: ov) df h Q) : GoR P W q N ops b₀ (o :: os) k ov df h Q := GoR.step (r := ⟨(ptA a (kv + kk)), h, [], [], false, true⟩) hgd hd hN (S.fieldV ho hx hS hl) (.inr rfl) (fun i hi => by cases hi) g
theorem GoL.fieldV {s : TypeId} {f kk kv : Nat} {x : Operand} {sz : Nat} {a : Option Addr} {len cap : Nat} {cs : List Value} (ho : o.op = .fieldAddr s x f) (hd : o.dst = some d) (hN : dOk d N = true) (hgd : o.guard = none) (hx : evO ov x = some (ptA a kv)) [hf : FO P s f kk] (hS : Rv P h sz a len cap cs) (hl : kv < cs.length) (g : GoL P W q N ops (tr ++ [none]) os k ((d, (ptA a (kv + kk))) :: ov) df h Q) : GoL P W q N ops tr (o :: os) k ov df h Q := GoL.step (r := ⟨(ptA a (kv + kk)), h, [], [], false, true⟩) none ⟨rfl, rfl, rfl, rfl, rfl⟩ hgd hd hN (S.fieldV ho hx hS hl) (fun i hi => by cases hi) g
theorem GoR.loadV {t : TypeId} {x : Operand} {kv : Nat} {v : Value} {sz : Nat} {a : Option Addr} {len cap : Nat} {cs : List Value} (ho : o.op = .load t x) (hd : o.dst = some d) (hN : dOk d N = true) (hgd : o.guard = none) (hx : evO ov x = some (ptA a kv)) [hc : CT P t none] (hS : Rv P h sz a len cap cs) (hv : cs[kv]? = some v) (g : GoR P W q N ops b₀ os k ((d, v) :: ov) df h Q) : GoR P W q N ops b₀ (o :: os) k ov df h Q := GoR.step (r := ⟨v, h, (blk a), [], false, true⟩) hgd hd hN (S.loadV ho hx hS hv) (.inr rfl) (fun i hi => by cases hi) g
theorem GoL.loadV {t : TypeId} {x : Operand} {kv : Nat} {v : Value} {sz : Nat} {a : Option Addr} {len cap : Nat} {cs : List Value} (ho : o.op = .load t x) (hd : o.dst = some d) (hN : dOk d N = true) (hgd : o.guard = none) (hx : evO ov x = some (ptA a kv)) [hc : CT P t none] (hS : Rv P h sz a len cap cs) (hv : cs[kv]? = some v) (g : GoL P W q N ops (tr ++ [(some ⟨h.n, h.n, (blk a), [], false, true⟩)]) os k ((d, v) :: ov) df h Q) : GoL P W q N ops tr (o :: os) k ov df h Q := GoL.step (r := ⟨v, h, (blk a), [], false, true⟩) (some ⟨h.n, h.n, (blk a), [], false, true⟩) ⟨rfl, rfl, rfl, rfl, rfl, rfl⟩ hgd hd hN (S.loadV ho hx hS hv) (fun i hi => by cases hi) g
theorem GoR.loadVN {t : TypeId} {x : Operand} {kv n : Nat} {l : List Value} {sz : Nat} {a : Option Addr} {len cap : Nat} {cs : List Value} (ho : o.op = .load t x) (hd : o.dst = some d) (hN : dOk d N = true) (hgd : o.guard = none) (hx : evO ov x = some (ptA a kv)) [hc : CT P t (some n)] (hS : Rv P h sz a len cap cs) (hl : kv + n ≤ cs.length) (hn : 0 < n) (hv : (cs.drop kv).take n = l) (g : GoR P W q N ops b₀ os k ((d, (.agg l.toArray)) :: ov) df h Q) : GoR P W q N ops b₀ (o :: os) k ov df h Q := GoR.step (r := ⟨(.agg l.toArray), h, (blk a), [], false, true⟩) hgd hd hN (S.loadVN ho hx hS hl hn hv) (.inr rfl) (fun i hi => by cases hi) g
theorem GoL.loadVN {t : TypeId} {x : Operand} {kv n : Nat} {l : List Value} {sz : Nat} {a : Option Addr} {len cap : Nat} {cs : List Value} (ho : o.op = .load t x) (hd : o.dst = some d) (hN : dOk d N = true) (hgd : o.guard = none) (hx : evO ov x = some (ptA a kv)) [hc : CT P t (some n)] (hS : Rv P h sz a len cap cs) (hl : kv + n ≤ cs.length) (hn : 0 < n) (hv : (cs.drop kv).take n = l) (g : GoL P W q N ops (tr ++ [(some ⟨h.n, h.n, (blk a), [], false, true⟩)]) os k ((d, (.agg l.toArray)) :: ov) df h Q) : GoL P W q N ops tr (o :: os) k ov df h Q := GoL.step (r := ⟨(.agg l.toArray), h, (blk a), [], false, true⟩) (some ⟨h.n, h.n, (blk a), [], false, true⟩) ⟨rfl, rfl, rfl, rfl, rfl, rfl⟩ hgd hd hN (S.loadVN ho hx hS hl hn hv) (fun i hi => by cases hi) g
theorem GoR.sliceV {t : TypeId} {x : Operand} {lo hi : Option Operand} {lo' hi' : Option Value} {l r : Nat} {e : TypeId} {sz : Nat} {a : Option Addr} {len cap : Nat} {cs : List Value} (ho : o.op = .slice t x lo hi none) (hd : o.dst = some d) (hN : dOk d N = true) (hgd : o.guard = none) (hx : evO ov x = some (.slice a len cap)) (hlo : lo.map (evO ov) = lo'.map some) (hhi : hi.map (evO ov) = hi'.map some) [hu : UN P t (.slice e)] [hs : SZ P e sz] (hS : Rv P h sz a len cap cs) (hbl : bnd 0 lo' = some l) (hbr : bnd len hi' = some r) (h1 : l ≤ r) (h2 : r ≤ cap) (g : GoR P W q N ops b₀ os k ((d, (.slice (subA a (l * sz)) (r - l) (cap - l))) :: ov) df h Q) : GoR P W q N ops b₀ (o :: os) k ov df h Q := GoR.step (r := ⟨(.slice (subA a (l * sz)) (r - l) (cap - l)), h, [], [], false, true⟩) hgd hd hN (S.sliceV ho hx hlo hhi hS hbl hbr h1 h2) (.inr rfl) (fun i hi => by cases hi) g
theorem GoL.sliceV {t : TypeId} {x : Operand} {lo hi : Option Operand} {lo' hi' : Option Value} {l r : Nat} {e : TypeId} {sz : Nat} {a : Option Addr} {len cap : Nat} {cs : List Value} (ho : o.op = .slice t x lo hi none) (hd : o.dst = some d) (hN : dOk d N = true) (hgd : o.guard = none) (hx : evO ov x = some (.slice a len cap)) (hlo : lo.map (evO ov) = lo'.map some) (hhi : hi.map (evO ov) = hi'.map some) [hu : UN P t (.slice e)] [hs : SZ P e sz] (hS : Rv P h sz a len cap cs) (hbl : bnd 0 lo' = some l) (hbr : bnd len hi' = some r) (h1 : l ≤ r) (h2 : r ≤ cap) (g : GoL P W q N ops (tr ++ [none]) os k ((d, (.slice (subA a (l * sz)) (r - l) (cap - l))) :: ov) df h Q) : GoL P W q N ops tr (o :: os) k ov df h Q := GoL.step (r := ⟨(.slice (subA a (l * sz)) (r - l) (cap - l)), h, [], [], false, true⟩) none ⟨rfl, rfl, rfl, rfl, rfl⟩ hgd hd hN (S.sliceV ho hx hlo hhi hS hbl hbr h1 h2) (fun i hi => by cases hi) g
theorem GoR.makeV {t e : TypeId} {bytes : Nat} {z : Value} {x y : Operand} {kd kd' : IntKind} {l c : Int} (ho : o.op = .makeSlice t x y) (hd : o.dst = some d) (hN : dOk d N = true) (hgd : o.guard = none) (hx : evO ov x = some (.int kd l)) (hy : evO ov y = some (.int kd' c)) [hM : MK P t e bytes z] (h0 : 0 ≤ l) (h1 : l ≤ c) (h2 : c ≤ 1099511627776) (h3 : (bytes : Int) * c ≤ 281474976710656) (g : GoR P W q N ops b₀ os k ((d, (.slice (some ⟨h.n, 0, none⟩) l.toNat c.toNat)) :: ov) df (h.push (.cells (List.replicate c.toNat z) e)) Q) : GoR P W q N ops b₀ (o :: os) k ov df h Q := GoR.step (r := ⟨(.slice (some ⟨h.n, 0, none⟩) l.toNat c.toNat), (h.push (.cells (List.replicate c.toNat z) e)), [], [], false, false⟩) hgd hd hN (S.makeV ho hx hy h0 h1 h2 h3) (.inr rfl) (fun i hi => by cases hi) g
theorem GoL.makeV {t e : TypeId} {bytes : Nat} {z : Value} {x y : Operand} {kd kd' : IntKind} {l c : Int} (ho : o.op = .makeSlice t x y) (hd : o.dst = some d) (hN : dOk d N = true) (hgd : o.guard = none) (hx : evO ov x = some (.int kd l)) (hy : evO ov y = some (.int kd' c)) [hM : MK P t e bytes z] (h0 : 0 ≤ l) (h1 : l ≤ c) (h2 : c ≤ 1099511627776) (h3 : (bytes : Int) * c ≤ 281474976710656) (g : GoL P W q N ops (tr ++ [(some ⟨h.n, (h.n + 1), [], [], false, false⟩)]) os k ((d, (.slice (some ⟨h.n, 0, none⟩) l.toNat c.toNat)) :: ov) df (h.push (.cells (List.replicate c.toNat z) e)) Q) : GoL P W q N ops tr (o :: os) k ov df h Q := GoL.step (r := ⟨(.slice (some ⟨h.n, 0, none⟩) l.toNat c.toNat), (h.push (.cells (List.replicate c.toNat z) e)), [], [], false, false⟩) (some ⟨h.n, (h.n + 1), [], [], false, false⟩) ⟨rfl, rfl, rfl, rfl, rfl, rfl⟩ hgd hd hN (S.makeV ho hx hy h0 h1 h2 h3) (fun i hi => by cases hi) g
theorem GoR.appendV {x y : Operand} {t t₂ e : TypeId} {sz bytes : Nat} {a a' : Option Addr} {len cap n cap' : Nat} {cs new : List Value} (ho : o.op = .call ⟨.builtin .append, #[x, y], #[t, t₂]⟩) (hd : o.dst = some d) (hN : dOk d N = true) (hgd : o.guard = none) (hx : evO ov x = some (.slice a len cap)) (hy : evO ov y = some (.slice a' n cap')) [hA : AP P t t₂ e sz bytes]
  (hS : Sv h e sz a len cap cs) (hT : Rv P h sz a' n cap' new) (hw : ∀ i ∈ blk a, W i) (h1 : len + n ≤ 1099511627776) (h2 : (len + n) * bytes ≤ 140737488355328) (hone : new.all Value.oneCell' = true)
  (g : ∀ a₂ cap₂ h', Sv h' e sz a₂ (len + n) cap₂ (cs ++ new) → Keeps (blk a) h h' → (∀ i ∈ blk a₂, i ∈ blk a ∨ h.n ≤ i) → GoR P W q N ops true os k ((d, .slice a₂ (len + n) cap₂) :: ov) df h' Q) : GoR P W q N ops true (o :: os) k ov df h Q := by
 obtain ⟨v, h', rd, wr, he, hwr, hrd, a₂, cap₂, rfl, h5, h6, h7⟩ := aAppend_of (P := P) (t := t) (t₂ := t₂) hS hT h1 h2 hone
 exact GoR.append ho hd hN hgd hx hy he (fun i hi => hw i (hwr i hi)) (g a₂ cap₂ h' h5 h6 h7)
theorem GoL.appendV {x y : Operand} {t t₂ e : TypeId} {sz bytes : Nat} {a a' : Option Addr} {len cap n cap' : Nat} {cs new : List Value} (ho : o.op = .call ⟨.builtin .append, #[x, y], #[t, t₂]⟩) (hd : o.dst = some d) (hN : dOk d N = true) (hgd : o.guard = none) (hx : evO ov x = some (.slice a len cap)) (hy : evO ov y = some (.slice a' n cap')) [hA : AP P t t₂ e sz bytes]
  (hS : Sv h e sz a len cap cs) (hT : Rv P h sz a' n cap' new) (hw : ∀ i ∈ blk a, W i) (h1 : len + n ≤ 1099511627776) (h2 : (len + n) * bytes ≤ 140737488355328) (hone : new.all Value.oneCell' = true)
  (g : ∀ a₂ cap₂ h' rd wr, (∀ i ∈ wr, i ∈ blk a) → (∀ i ∈ rd, i ∈ blk a ∨ i ∈ blk a') → Sv h' e sz a₂ (len + n) cap₂ (cs ++ new) → Keeps (blk a) h h' → (∀ i ∈ blk a₂, i ∈ blk a ∨ h.n ≤ i) → GoL P W q N ops (tr ++ [some ⟨h.n, h'.n, rd, wr, false, false⟩]) os k ((d, .slice a₂ (len + n) cap₂) :: ov) df h' Q) : GoL P W q N ops tr (o :: os) k ov df h Q := by
 obtain ⟨v, h', rd, wr, he, hwr, hrd, a₂, cap₂, rfl, h5, h6, h7⟩ := aAppend_of (P := P) (t := t) (t₂ := t₂) hS hT h1 h2 hone
 exact GoL.append ho hd hN hgd hx hy he (fun i hi => hw i (hwr i hi)) (g a₂ cap₂ h' rd wr hwr hrd h5 h6 h7)
theorem setL_sub {c : List Value} {o m kv : Nat} {l cs : List Value} (hc : (c.drop o).take m = cs) (hk : kv + l.length ≤ m) (ho : o + m ≤ c.length) : ((setL c (o + kv) l).drop o).take m = setL cs kv l := by
 subst hc
 unfold setL
 rw [List.append_assoc, List.drop_append_of_le_length (by simp; omega), List.drop_take, Nat.add_sub_cancel_left]
 have e1 : ((c.drop o).take kv).length = kv := by rw [List.length_take, List.length_drop]; omega
 rw [List.take_append, List.take_of_length_le (l := (c.drop o).take kv) (i := m) (by omega), e1, List.take_append, List.take_of_length_le (l := l) (i := m - kv) (by omega)]
 rw [List.take_take, Nat.min_eq_left (by omega), List.drop_take, List.drop_drop]
 simp only [List.append_assoc, Nat.sub_sub, Nat.add_assoc]
theorem GoR.storeV {t tt : TypeId} {x y : Operand} {kv n sz : Nat} {a : Option Addr} {len cap : Nat} {cs l : List Value} {v : Value} (ho : o.op = .store t x y) (hd : o.dst = none) (hgd : o.guard = none) (hx : evO ov x = some (ptA a kv)) (hy : evO ov y = some v) [hs : SZ P t n] (hl : cellsL v = l) (h1 : l.length = n) (h3 : l.all Value.oneCell' = true) (h4 : 0 < n)
  (hS : Sv h tt sz a len cap cs) (h2 : kv + n ≤ cs.length) (hw : ∀ i ∈ blk a, W i)
  (g : ∀ h', Sv h' tt sz a len cap (setL cs kv l) → Keeps (blk a) h h' → h'.n = h.n → GoR P W q N ops true os k ov df h' Q) : GoR P W q N ops true (o :: os) k ov df h Q := by
 have hlen := hS.length
 have hp := hS.pos (by omega)
 obtain ⟨b, o', c, rfl, hg, ho', hle, hc⟩ := hS.some hp
 have m : len * sz ≤ cap * sz := Nat.mul_le_mul_right _ hle
 have hx' : evO ov x = some (.pointer (some ⟨b, o' + kv, none⟩)) := hx
 refine GoR.store ho hd hgd hx' hy hg hl h1 (by omega) h3 rfl (hw b (by simp [blk])) (g _ ?_ ⟨Nat.le_refl _, fun i _ hn => AHeap.get_put_ne _ _ fun e => hn (by simp [blk, e])⟩ rfl)
 exact .mk (get_put_self hg) (by rw [setL_length (by omega)]; exact ho') hle (setL_sub hc (by omega) (by omega))
end
end Go.Proofs.YtncbbeghkpjpbaaDoor
namespace Go.Proofs.YtncbbeghkpjpbaaDoor
section
variable {P : Program} {t e : TypeId}
theorem IC.of {src dst : TypeId} {d : TypeDesc} {k : IntKind} (h1 : P.underlying src = some d) (h2 : P.underlying dst = some (.int k)) : IC P src dst k :=
 ⟨fun k' n => .inr fun w => by simp [convert, run_under h1, run_under h2, Conv.intToInt]⟩
theorem ST.of {z : Value} {fs : Array Field} {cs : List Value} {pl : List (Nat × Nat)} (hz : zeroT P t = some z) (hf : flatB z = true) (hu : P.underlying t = some (.struct fs)) (hp : placesOf P fs = some pl) (hc : cellsL z = cs) : ST P t cs pl :=
 ⟨fun ps c h => by subst hc; simp [aBuild, hz, hf, hu, hp, cellsL_eq, h]⟩
theorem BS.of {z : Value} {sz : Nat} (hu : P.underlying t = some (.slice e)) (hs : sizeT P e = some sz) (hz : zeroT P e = some z) (hf : flatB z = true) (hl : (cellsL z).length = sz) : BS P t e sz z :=
 ⟨fun len ps c hle h => by
  simp only [aBuildSlice, hu, hs, if_pos hle]
  have ez : aZeros P e sz len = some ((List.replicate len z.cells.toList).flatten) := by
   unfold aZeros
   by_cases h0 : len * sz = 0
   ·
    rw [if_pos h0]
    rcases Nat.mul_eq_zero.1 h0 with h1 | h1
    · subst h1; rfl
    ·
     rw [cellsL_eq]
     have : cellsL z = [] := List.length_eq_zero_iff.1 (by omega)
     rw [this]
     congr 1
     clear h h0 ps hle
     induction len with
     | zero => rfl
     | succ n ih => rw [List.replicate_succ, List.flatten_cons]; simp
   ·
    rw [if_neg h0]
    simp only [hz]
    rw [if_pos ⟨hf, by rw [cellsL_eq]; exact hl⟩]
    rfl
  simp only [ez, h, Option.map_some]⟩
theorem MK.of {inf : TypeInfo} {z : Value} {bytes : Nat} (hu : P.underlying t = some (.slice e)) (hi : P.info? e = some inf) (h1 : inf.size = 1) (h2 : inf.bytes = bytes) (hz : inf.zero = some z) (hf : flatB z = true) (hc : cellsL z = [z]) : MK P t e bytes z :=
 ⟨hu, ⟨inf, hi, h1, h2⟩, by simp [zeroT, hi, hz], ⟨hf, hc⟩⟩
theorem AP.of {inf : TypeInfo} {z : Value} {sz bytes : Nat} {t₂ e₂ : TypeId} (hu : P.underlying t = some (.slice e)) (hu2 : P.underlying t₂ = some (.slice e₂)) (hi : P.info? e = some inf) (h1 : inf.size = sz) (h2 : inf.bytes = bytes) (hz : inf.zero = some z) (h0 : 0 < sz) (hf : zOk z = true) (hc : (cellsL z).length = sz) : AP P t t₂ e sz bytes :=
 ⟨hu, by simp [sizeT, hi, h1], ⟨inf, z, hi, h1, h2, hz, h0, hf, by rw [cellsL_eq]; exact hc⟩, ⟨e₂, hu2⟩⟩
end
end Go.Proofs.YtncbbeghkpjpbaaDoor
namespace Go.Proofs.YtncbbeghkpjpbaaDoor
def quietOp : Op → Bool
 | .store .. | .mapUpdate .. | .insert .. | .mapEntry .. | .entryStore .. => false
 | .call ⟨.builtin .append, _, _⟩ | .call ⟨.builtin .copy, _, _⟩ | .call ⟨.builtin .delete, _, _⟩ | .call ⟨.builtin .clear, _, _⟩ => false
 | _ => true
theorem wrap_i64 {n : Int} (h0 : -9223372036854775808 ≤ n) (h1 : n ≤ 9223372036854775807) : IntKind.i64.wrap n = n := by
 have e : (2 : Int) ^ 64 = 18446744073709551616 := rfl
 have e2 : (2 : Int) ^ 63 = 9223372036854775808 := rfl
 simp only [IntKind.wrap, IntKind.signed, IntKind.bits, Bool.true_and, decide_eq_true_eq, Nat.reduceSub, e, e2]
 split <;> omega
theorem wrap_us (k : IntKind) (hk : k.signed = false) {n : Int} (h0 : 0 ≤ n) (h1 : n < 2 ^ k.bits) : k.wrap n = n := by
 simp only [IntKind.wrap, hk, Bool.false_and, Bool.false_eq_true, if_false]
 exact Int.emod_eq_of_lt h0 h1
def opK : Op → Nat
 | .move _ | .assign _ => 0
 | .load .. => 1
 | .store .. => 2
 | .fieldAddr .. | .indexAddr .. => 3
 | .binOp .. => 4
 | .call ⟨.builtin _, _, _⟩ => 5
 | .call _ => 6
 | .pick .. => 7
 | .box .. | .alloc _ => 8
 | .convert .. => 9
 | .makeSlice .. | .buildSlice .. | .slice .. | .build .. => 10
 | _ => 11
def codeK : Code → Nat
 | .seq .. => 0
 | .region _ _ false => 1
 | .region .. => 2
 | .cond .. => 3
 | .block .. => 4
 | _ => 5
def takeN : Nat → List Value → Option (List Value)
 | 0, _ => some []
 | _ + 1, [] => none
 | n + 1, a :: l => match takeN n l with
  | some r => some (a :: r)
  | none => none
theorem takeN_eq : ∀ {n : Nat} {l r : List Value}, takeN n l = some r → l.take n = r ∧ n ≤ l.length
 | 0, l, r, h => by simp only [takeN, Option.some.injEq] at h; subst h; exact ⟨rfl, Nat.zero_le _⟩
 | n + 1, [], r, h => by cases h
 | n + 1, a :: l, r, h => by
  unfold takeN at h
  split at h
  ·
   rename_i r' h1; cases h
   have := takeN_eq h1
   exact ⟨by simp [this.1], by simp [this.2]⟩
  · cases h
def cutL : Nat → Nat → List Value → Option (List Value)
 | 0, n, l => takeN n l
 | _ + 1, _, [] => none
 | k + 1, n, _ :: l => cutL k n l
theorem cutL_eq : ∀ {k n : Nat} {l r : List Value}, cutL k n l = some r → (l.drop k).take n = r ∧ k + n ≤ l.length
 | 0, n, l, r, h => by have := takeN_eq (n := n) (l := l) (r := r) (by cases l <;> exact h); simpa using this
 | k + 1, n, [], r, h => by cases h
 | k + 1, n, _ :: l, r, h => by
  have := cutL_eq (k := k) (n := n) (l := l) (r := r) h
  exact ⟨by simpa using this.1, by simp; omega⟩
section
variable {P : Program} {W : Nat → Prop} {q : Bool} {N : Nat} {k : List It} {ov : Ov} {df : List Nat} {h : AHeap} {Q : PQ} {id : Nat} {ops : Array Oper} {os : List Oper} {o : Oper} {d : Nat} {b₀ : Bool} {tr : List (Option LE)}
theorem Go.drawnQ (hq : ops.toList.all (fun o => quietOp o.op) = true) (hk : drawOk P ops = true) (ho : ops.toList = os) (g : GoR P W q N ops false os k ov df h Q) : Go P W q N (.code (.region id ops true) :: k) .normal ov df h Q := Go.drawn hk ho g
theorem GoR.lt {t t₂ : TypeId} {x y : Operand} {kd : IntKind} {i j : Int} (ho : o.op = .binOp .lss t x y t₂) (hd : o.dst = some d) (hN : dOk d N = true) (hgd : o.guard = none) (hx : evO ov x = some (.int kd i)) (hy : evO ov y = some (.int kd j)) (g : GoR P W q N ops b₀ os k ((d, .bool (decide (i < j))) :: ov) df h Q) : GoR P W q N ops b₀ (o :: os) k (ov) df h Q := GoR.bin ho hd hN hgd hx hy rfl g
theorem GoR.le {t t₂ : TypeId} {x y : Operand} {kd : IntKind} {i j : Int} (ho : o.op = .binOp .leq t x y t₂) (hd : o.dst = some d) (hN : dOk d N = true) (hgd : o.guard = none) (hx : evO ov x = some (.int kd i)) (hy : evO ov y = some (.int kd j)) (g : GoR P W q N ops b₀ os k ((d, .bool (decide (i ≤ j))) :: ov) df h Q) : GoR P W q N ops b₀ (o :: os) k (ov) df h Q := GoR.bin ho hd hN hgd hx hy rfl g
theorem GoR.gt {t t₂ : TypeId} {x y : Operand} {kd : IntKind} {i j : Int} (ho : o.op = .binOp .gtr t x y t₂) (hd : o.dst = some d) (hN : dOk d N = true) (hgd : o.guard = none) (hx : evO ov x = some (.int kd i)) (hy : evO ov y = some (.int kd j)) (g : GoR P W q N ops b₀ os k ((d, .bool (decide (j < i))) :: ov) df h Q) : GoR P W q N ops b₀ (o :: os) k (ov) df h Q := GoR.bin ho hd hN hgd hx hy rfl g
theorem GoR.ge {t t₂ : TypeId} {x y : Operand} {kd : IntKind} {i j : Int} (ho : o.op = .binOp .geq t x y t₂) (hd : o.dst = some d) (hN : dOk d N = true) (hgd : o.guard = none) (hx : evO ov x = some (.int kd i)) (hy : evO ov y = some (.int kd j)) (g : GoR P W q N ops b₀ os k ((d, .bool (decide (j ≤ i))) :: ov) df h Q) : GoR P W q N ops b₀ (o :: os) k (ov) df h Q := GoR.bin ho hd hN hgd hx hy rfl g
theorem GoR.eq {t t₂ : TypeId} {x y : Operand} {kd : IntKind} {i j : Int} (ho : o.op = .binOp .eql t x y t₂) (hd : o.dst = some d) (hN : dOk d N = true) (hgd : o.guard = none) (hx : evO ov x = some (.int kd i)) (hy : evO ov y = some (.int kd j)) (g : GoR P W q N ops b₀ os k ((d, .bool (decide (i = j))) :: ov) df h Q) : GoR P W q N ops b₀ (o :: os) k (ov) df h Q := GoR.bin ho hd hN hgd hx hy rfl g
theorem GoR.ne {t t₂ : TypeId} {x y : Operand} {kd : IntKind} {i j : Int} (ho : o.op = .binOp .neq t x y t₂) (hd : o.dst = some d) (hN : dOk d N = true) (hgd : o.guard = none) (hx : evO ov x = some (.int kd i)) (hy : evO ov y = some (.int kd j)) (g : GoR P W q N ops b₀ os k ((d, .bool (!decide (i = j))) :: ov) df h Q) : GoR P W q N ops b₀ (o :: os) k (ov) df h Q := GoR.bin ho hd hN hgd hx hy rfl g
theorem GoR.add {t t₂ : TypeId} {x y : Operand} {i j : Int} (ho : o.op = .binOp .add t x y t₂) (hd : o.dst = some d) (hN : dOk d N = true) (hgd : o.guard = none) (hx : evO ov x = some (.int .i64 i)) (hy : evO ov y = some (.int .i64 j)) (h0 : -9223372036854775808 ≤ i + j) (h1 : i + j ≤ 9223372036854775807) (g : GoR P W q N ops b₀ os k ((d, .int .i64 (i + j)) :: ov) df h Q) : GoR P W q N ops b₀ (o :: os) k (ov) df h Q := GoR.bin ho hd hN hgd hx hy (by simp only [iBin, wrap_i64 h0 h1]) g
theorem GoR.sub {t t₂ : TypeId} {x y : Operand} {i j : Int} (ho : o.op = .binOp .sub t x y t₂) (hd : o.dst = some d) (hN : dOk d N = true) (hgd : o.guard = none) (hx : evO ov x = some (.int .i64 i)) (hy : evO ov y = some (.int .i64 j)) (h0 : -9223372036854775808 ≤ i - j) (h1 : i - j ≤ 9223372036854775807) (g : GoR P W q N ops b₀ os k ((d, .int .i64 (i - j)) :: ov) df h Q) : GoR P W q N ops b₀ (o :: os) k (ov) df h Q := GoR.bin ho hd hN hgd hx hy (by simp only [iBin, wrap_i64 h0 h1]) g
theorem GoR.mul {t t₂ : TypeId} {x y : Operand} {i j : Int} (ho : o.op = .binOp .mul t x y t₂) (hd : o.dst = some d) (hN : dOk d N = true) (hgd : o.guard = none) (hx : evO ov x = some (.int .i64 i)) (hy : evO ov y = some (.int .i64 j)) (h0 : -9223372036854775808 ≤ i * j) (h1 : i * j ≤ 9223372036854775807) (g : GoR P W q N ops b₀ os k ((d, .int .i64 (i * j)) :: ov) df h Q) : GoR P W q N ops b₀ (o :: os) k (ov) df h Q := GoR.bin ho hd hN hgd hx hy (by simp only [iBin, wrap_i64 h0 h1]) g
theorem GoR.binE {op : BinOp} {t t₂ : TypeId} {x y : Operand} {kd : IntKind} {i j : Int} (v : Value) (ho : o.op = .binOp op t x y t₂) (hd : o.dst = some d) (hN : dOk d N = true) (hgd : o.guard = none) (hx : evO ov x = some (.int kd i)) (hy : evO ov y = some (.int kd j)) (hv : iBin op kd i j = some v) (g : GoR P W q N ops b₀ os k ((d, v) :: ov) df h Q) : GoR P W q N ops b₀ (o :: os) k (ov) df h Q := GoR.bin ho hd hN hgd hx hy hv g
theorem GoR.shiftE {op : BinOp} {t t₂ : TypeId} {x y : Operand} {kd kd' : IntKind} {i j : Int} (v : Value) (ho : o.op = .binOp op t x y t₂) (hd : o.dst = some d) (hN : dOk d N = true) (hgd : o.guard = none) (hx : evO ov x = some (.int kd i)) (hy : evO ov y = some (.int kd' j)) (hv : iSh op kd i j = some v) (g : GoR P W q N ops b₀ os k ((d, v) :: ov) df h Q) : GoR P W q N ops b₀ (o :: os) k (ov) df h Q := GoR.shift ho hd hN hgd hx hy hv g
theorem GoR.convE {t t₂ : TypeId} {x : Operand} {kd kd' : IntKind} {i : Int} (n : Int) (ho : o.op = .convert t t₂ x) (hd : o.dst = some d) (hN : dOk d N = true) (hgd : o.guard = none) (hx : evO ov x = some (.int kd' i)) [hc : IC P t t₂ kd] (hv : kd.wrap i = n) (g : GoR P W q N ops b₀ os k ((d, .int kd n) :: ov) df h Q) : GoR P W q N ops b₀ (o :: os) k (ov) df h Q := GoR.conv ho hd hN hgd hx (hv ▸ g)
theorem GoL.lt {t t₂ : TypeId} {x y : Operand} {kd : IntKind} {i j : Int} (ho : o.op = .binOp .lss t x y t₂) (hd : o.dst = some d) (hN : dOk d N = true) (hgd : o.guard = none) (hx : evO ov x = some (.int kd i)) (hy : evO ov y = some (.int kd j)) (g : GoL P W q N ops (tr ++ [none]) os k ((d, .bool (decide (i < j))) :: ov) df h Q) : GoL P W q N ops tr (o :: os) k (ov) df h Q := GoL.bin ho hd hN hgd hx hy rfl g
theorem GoL.le {t t₂ : TypeId} {x y : Operand} {kd : IntKind} {i j : Int} (ho : o.op = .binOp .leq t x y t₂) (hd : o.dst = some d) (hN : dOk d N = true) (hgd : o.guard = none) (hx : evO ov x = some (.int kd i)) (hy : evO ov y = some (.int kd j)) (g : GoL P W q N ops (tr ++ [none]) os k ((d, .bool (decide (i ≤ j))) :: ov) df h Q) : GoL P W q N ops tr (o :: os) k (ov) df h Q := GoL.bin ho hd hN hgd hx hy rfl g
theorem GoL.gt {t t₂ : TypeId} {x y : Operand} {kd : IntKind} {i j : Int} (ho : o.op = .binOp .gtr t x y t₂) (hd : o.dst = some d) (hN : dOk d N = true) (hgd : o.guard = none) (hx : evO ov x = some (.int kd i)) (hy : evO ov y = some (.int kd j)) (g : GoL P W q N ops (tr ++ [none]) os k ((d, .bool (decide (j < i))) :: ov) df h Q) : GoL P W q N ops tr (o :: os) k (ov) df h Q := GoL.bin ho hd hN hgd hx hy rfl g
theorem GoL.ge {t t₂ : TypeId} {x y : Operand} {kd : IntKind} {i j : Int} (ho : o.op = .binOp .geq t x y t₂) (hd : o.dst = some d) (hN : dOk d N = true) (hgd : o.guard = none) (hx : evO ov x = some (.int kd i)) (hy : evO ov y = some (.int kd j)) (g : GoL P W q N ops (tr ++ [none]) os k ((d, .bool (decide (j ≤ i))) :: ov) df h Q) : GoL P W q N ops tr (o :: os) k (ov) df h Q := GoL.bin ho hd hN hgd hx hy rfl g
theorem GoL.eq {t t₂ : TypeId} {x y : Operand} {kd : IntKind} {i j : Int} (ho : o.op = .binOp .eql t x y t₂) (hd : o.dst = some d) (hN : dOk d N = true) (hgd : o.guard = none) (hx : evO ov x = some (.int kd i)) (hy : evO ov y = some (.int kd j)) (g : GoL P W q N ops (tr ++ [none]) os k ((d, .bool (decide (i = j))) :: ov) df h Q) : GoL P W q N ops tr (o :: os) k (ov) df h Q := GoL.bin ho hd hN hgd hx hy rfl g
theorem GoL.ne {t t₂ : TypeId} {x y : Operand} {kd : IntKind} {i j : Int} (ho : o.op = .binOp .neq t x y t₂) (hd : o.dst = some d) (hN : dOk d N = true) (hgd : o.guard = none) (hx : evO ov x = some (.int kd i)) (hy : evO ov y = some (.int kd j)) (g : GoL P W q N ops (tr ++ [none]) os k ((d, .bool (!decide (i = j))) :: ov) df h Q) : GoL P W q N ops tr (o :: os) k (ov) df h Q := GoL.bin ho hd hN hgd hx hy rfl g
theorem GoL.add {t t₂ : TypeId} {x y : Operand} {i j : Int} (ho : o.op = .binOp .add t x y t₂) (hd : o.dst = some d) (hN : dOk d N = true) (hgd : o.guard = none) (hx : evO ov x = some (.int .i64 i)) (hy : evO ov y = some (.int .i64 j)) (h0 : -9223372036854775808 ≤ i + j) (h1 : i + j ≤ 9223372036854775807) (g : GoL P W q N ops (tr ++ [none]) os k ((d, .int .i64 (i + j)) :: ov) df h Q) : GoL P W q N ops tr (o :: os) k (ov) df h Q := GoL.bin ho hd hN hgd hx hy (by simp only [iBin, wrap_i64 h0 h1]) g
theorem GoL.sub {t t₂ : TypeId} {x y : Operand} {i j : Int} (ho : o.op = .binOp .sub t x y t₂) (hd : o.dst = some d) (hN : dOk d N = true) (hgd : o.guard = none) (hx : evO ov x = some (.int .i64 i)) (hy : evO ov y = some (.int .i64 j)) (h0 : -9223372036854775808 ≤ i - j) (h1 : i - j ≤ 9223372036854775807) (g : GoL P W q N ops (tr ++ [none]) os k ((d, .int .i64 (i - j)) :: ov) df h Q) : GoL P W q N ops tr (o :: os) k (ov) df h Q := GoL.bin ho hd hN hgd hx hy (by simp only [iBin, wrap_i64 h0 h1]) g
theorem GoL.mul {t t₂ : TypeId} {x y : Operand} {i j : Int} (ho : o.op = .binOp .mul t x y t₂) (hd : o.dst = some d) (hN : dOk d N = true) (hgd : o.guard = none) (hx : evO ov x = some (.int .i64 i)) (hy : evO ov y = some (.int .i64 j)) (h0 : -9223372036854775808 ≤ i * j) (h1 : i * j ≤ 9223372036854775807) (g : GoL P W q N ops (tr ++ [none]) os k ((d, .int .i64 (i * j)) :: ov) df h Q) : GoL P W q N ops tr (o :: os) k (ov) df h Q := GoL.bin ho hd hN hgd hx hy (by simp only [iBin, wrap_i64 h0 h1]) g
theorem GoL.binE {op : BinOp} {t t₂ : TypeId} {x y : Operand} {kd : IntKind} {i j : Int} (v : Value) (ho : o.op = .binOp op t x y t₂) (hd : o.dst = some d) (hN : dOk d N = true) (hgd : o.guard = none) (hx : evO ov x = some (.int kd i)) (hy : evO ov y = some (.int kd j)) (hv : iBin op kd i j = some v) (g : GoL P W q N ops (tr ++ [none]) os k ((d, v) :: ov) df h Q) : GoL P W q N ops tr (o :: os) k (ov) df h Q := GoL.bin ho hd hN hgd hx hy hv g
theorem GoL.shiftE {op : BinOp} {t t₂ : TypeId} {x y : Operand} {kd kd' : IntKind} {i j : Int} (v : Value) (ho : o.op = .binOp op t x y t₂) (hd : o.dst = some d) (hN : dOk d N = true) (hgd : o.guard = none) (hx : evO ov x = some (.int kd i)) (hy : evO ov y = some (.int kd' j)) (hv : iSh op kd i j = some v) (g : GoL P W q N ops (tr ++ [none]) os k ((d, v) :: ov) df h Q) : GoL P W q N ops tr (o :: os) k (ov) df h Q := GoL.shift ho hd hN hgd hx hy hv g
theorem GoL.convE {t t₂ : TypeId} {x : Operand} {kd kd' : IntKind} {i : Int} (n : Int) (ho : o.op = .convert t t₂ x) (hd : o.dst = some d) (hN : dOk d N = true) (hgd : o.guard = none) (hx : evO ov x = some (.int kd' i)) [hc : IC P t t₂ kd] (hv : kd.wrap i = n) (g : GoL P W q N ops (tr ++ [none]) os k ((d, .int kd n) :: ov) df h Q) : GoL P W q N ops tr (o :: os) k (ov) df h Q := GoL.conv ho hd hN hgd hx (hv ▸ g)
theorem CallS.of1 {f : FuncId} {fn : Func} {c : Code} {rs : List ResultVar} {wr : List Nat} {Q : Value → AHeap → Prop} {v0 : Value} (hf : P.funcs[f]? = some fn) (hb : fn.body = some c) (hN : fn.ntmps = N) (hrs : fn.results = ⟨rs⟩) (hle : Nat.ble 1 N = true) (g : Go P (fun i => i ∈ wr ∨ h.n ≤ i) false N [.code c] .normal [(0, v0)] [] h (Fin P rs h.n Q)) : CallS P wr f [v0] h Q := CallS.of hf hb hN (by rw [hrs]) (Nat.le_of_ble_eq_true hle) rfl g
theorem CallS.of2 {f : FuncId} {fn : Func} {c : Code} {rs : List ResultVar} {wr : List Nat} {Q : Value → AHeap → Prop} {v0 v1 : Value} (hf : P.funcs[f]? = some fn) (hb : fn.body = some c) (hN : fn.ntmps = N) (hrs : fn.results = ⟨rs⟩) (hle : Nat.ble 2 N = true) (g : Go P (fun i => i ∈ wr ∨ h.n ≤ i) false N [.code c] .normal [(0, v0), (1, v1)] [] h (Fin P rs h.n Q)) : CallS P wr f [v0, v1] h Q := CallS.of hf hb hN (by rw [hrs]) (Nat.le_of_ble_eq_true hle) rfl g
theorem CallS.of3 {f : FuncId} {fn : Func} {c : Code} {rs : List ResultVar} {wr : List Nat} {Q : Value → AHeap → Prop} {v0 v1 v2 : Value} (hf : P.funcs[f]? = some fn) (hb : fn.body = some c) (hN : fn.ntmps = N) (hrs : fn.results = ⟨rs⟩) (hle : Nat.ble 3 N = true) (g : Go P (fun i => i ∈ wr ∨ h.n ≤ i) false N [.code c] .normal [(0, v0), (1, v1), (2, v2)] [] h (Fin P rs h.n Q)) : CallS P wr f [v0, v1, v2] h Q := CallS.of hf hb hN (by rw [hrs]) (Nat.le_of_ble_eq_true hle) rfl g
theorem CallS.of4 {f : FuncId} {fn : Func} {c : Code} {rs : List ResultVar} {wr : List Nat} {Q : Value → AHeap → Prop} {v0 v1 v2 v3 : Value} (hf : P.funcs[f]? = some fn) (hb : fn.body = some c) (hN : fn.ntmps = N) (hrs : fn.results = ⟨rs⟩) (hle : Nat.ble 4 N = true) (g : Go P (fun i => i ∈ wr ∨ h.n ≤ i) false N [.code c] .normal [(0, v0), (1, v1), (2, v2), (3, v3)] [] h (Fin P rs h.n Q)) : CallS P wr f [v0, v1, v2, v3] h Q := CallS.of hf hb hN (by rw [hrs]) (Nat.le_of_ble_eq_true hle) rfl g
theorem CallS.of5 {f : FuncId} {fn : Func} {c : Code} {rs : List ResultVar} {wr : List Nat} {Q : Value → AHeap → Prop} {v0 v1 v2 v3 v4 : Value} (hf : P.funcs[f]? = some fn) (hb : fn.body = some c) (hN : fn.ntmps = N) (hrs : fn.results = ⟨rs⟩) (hle : Nat.ble 5 N = true) (g : Go P (fun i => i ∈ wr ∨ h.n ≤ i) false N [.code c] .normal [(0, v0), (1, v1), (2, v2), (3, v3), (4, v4)] [] h (Fin P rs h.n Q)) : CallS P wr f [v0, v1, v2, v3, v4] h Q := CallS.of hf hb hN (by rw [hrs]) (Nat.le_of_ble_eq_true hle) rfl g
theorem GoR.kk (n : Nat) (hk : Nat.beq (opK o.op) n = true) (g : GoR P W q N ops b₀ (o :: os) k ov df h Q) : GoR P W q N ops b₀ (o :: os) k ov df h Q := g
theorem GoR.gd (hg : o.guard.isSome = true) (g : GoR P W q N ops b₀ (o :: os) k ov df h Q) : GoR P W q N ops b₀ (o :: os) k ov df h Q := g
theorem GoR.boxA {t : TypeId} {x : Operand} {n : Nat} {l : List Value} (ho : o.op = .box t x) (hd : o.dst = some d) (hN : dOk d N = true) (hgd : o.guard = none) [hs : SZ P t n] (hx : evO ov x = some (.agg ⟨l⟩)) (g : GoR P W q N ops b₀ os k ((d, .pointer (some ⟨h.n, 0, none⟩)) :: ov) df (h.push (.cells l t)) Q) : GoR P W q N ops b₀ (o :: os) k ov df h Q := GoR.box ho hd hN hgd hx rfl g
theorem GoR.boxS {t : TypeId} {x : Operand} {n : Nat} {v : Value} (ho : o.op = .box t x) (hd : o.dst = some d) (hN : dOk d N = true) (hgd : o.guard = none) [hs : SZ P t n] (hx : evO ov x = some v) (hc : cellsL v = [v]) (g : GoR P W q N ops b₀ os k ((d, .pointer (some ⟨h.n, 0, none⟩)) :: ov) df (h.push (.cells [v] t)) Q) : GoR P W q N ops b₀ (o :: os) k ov df h Q := GoR.box ho hd hN hgd hx hc g
theorem GoR.loadA {t ct : TypeId} {x : Operand} {b off n : Nat} {c l : List Value} (ho : o.op = .load t x) (hd : o.dst = some d) (hN : dOk d N = true) (hgd : o.guard = none) (hx : evO ov x = some (.pointer (some ⟨b, off, none⟩))) [hc : CT P t (some n)] (hg : h.get b = some (.cells c ct)) (hv : cutL off n c = some l) (g : GoR P W q N ops b₀ os k ((d, .agg l.toArray) :: ov) df h Q) : GoR P W q N ops b₀ (o :: os) k ov df h Q := GoR.loadN ho hd hN hgd hx hg (cutL_eq hv).2 (cutL_eq hv).1 g
theorem GoL.kk (n : Nat) (hk : Nat.beq (opK o.op) n = true) (g : GoL P W q N ops tr (o :: os) k ov df h Q) : GoL P W q N ops tr (o :: os) k ov df h Q := g
theorem GoL.gd (hg : o.guard.isSome = true) (g : GoL P W q N ops tr (o :: os) k ov df h Q) : GoL P W q N ops tr (o :: os) k ov df h Q := g
theorem GoL.boxA {t : TypeId} {x : Operand} {n : Nat} {l : List Value} (ho : o.op = .box t x) (hd : o.dst = some d) (hN : dOk d N = true) (hgd : o.guard = none) [hs : SZ P t n] (hx : evO ov x = some (.agg ⟨l⟩)) (g : GoL P W q N ops (tr ++ [some ⟨h.n, h.n + 1, [], [], false, false⟩]) os k ((d, .pointer (some ⟨h.n, 0, none⟩)) :: ov) df (h.push (.cells l t)) Q) : GoL P W q N ops tr (o :: os) k ov df h Q := GoL.box ho hd hN hgd hx rfl g
theorem GoL.boxS {t : TypeId} {x : Operand} {n : Nat} {v : Value} (ho : o.op = .box t x) (hd : o.dst = some d) (hN : dOk d N = true) (hgd : o.guard = none) [hs : SZ P t n] (hx : evO ov x = some v) (hc : cellsL v = [v]) (g : GoL P W q N ops (tr ++ [some ⟨h.n, h.n + 1, [], [], false, false⟩]) os k ((d, .pointer (some ⟨h.n, 0, none⟩)) :: ov) df (h.push (.cells [v] t)) Q) : GoL P W q N ops tr (o :: os) k ov df h Q := GoL.box ho hd hN hgd hx hc g
theorem GoL.loadA {t ct : TypeId} {x : Operand} {b off n : Nat} {c l : List Value} (ho : o.op = .load t x) (hd : o.dst = some d) (hN : dOk d N = true) (hgd : o.guard = none) (hx : evO ov x = some (.pointer (some ⟨b, off, none⟩))) [hc : CT P t (some n)] (hg : h.get b = some (.cells c ct)) (hv : cutL off n c = some l) (g : GoL P W q N ops (tr ++ [some ⟨h.n, h.n, [b], [], false, true⟩]) os k ((d, .agg l.toArray) :: ov) df h Q) : GoL P W q N ops tr (o :: os) k ov df h Q := GoL.loadN ho hd hN hgd hx hg (cutL_eq hv).2 (cutL_eq hv).1 g
theorem Go.kk (n : Nat) {c : Code} (hk : Nat.beq (codeK c) n = true) (g : Go P W q N (.code c :: k) .normal ov df h Q) : Go P W q N (.code c :: k) .normal ov df h Q := g
theorem yielded_undef {tm : List Value} (hr : Rp ov tm) {j t : Nat} {oj : Oper} (hj : ops[j]? = some oj) (hd : oj.dst = some t) (hv : ov.find t = some undef) : yielded ops tm.toArray j = none := by
 have h1 := hr t _ hv
 rw [List.getD_eq_getElem?_getD] at h1
 cases hx : tm[t]? with
 | none => simp [yielded, hj, hd, hx]
 | some u =>
  rw [hx] at h1
  simp at h1
  subst h1
  simp [yielded, hj, hd, hx, undef]
theorem GoR.unwantedU {j t : Nat} {w : Bool} {oj : Oper} (hg : o.guard = some (j, w)) (hj : ops[j]? = some oj) (hdj : oj.dst = some t) (hv : ov.find t = some undef) (hd : o.dst = some d) (hN : dOk d N = true) (g : GoR P W q N ops b₀ os k ((d, undef) :: ov) df h Q) : GoR P W q N ops b₀ (o :: os) k ov df h Q := fun tm hN' hrp => by
 refine ⟨⟨undef, h, [], [], false, true⟩, .inr ⟨by simp [Region.wanted, hg, yielded_undef hrp hj hdj hv], rfl⟩, ?_⟩
 rw [hd]
 refine (g _ (by rw [putT_len]; exact hN') (hrp.put hN' hN _)).mono fun tm' h' l ⟨f, g'⟩ => ⟨?_, g'⟩
 cases b₀ with
 | true => trivial
 | false =>
       intro e he
       rcases List.mem_cons.1 he with rfl | he
       · rfl
       · exact f e he
theorem GoL.unwantedU {j t : Nat} {w : Bool} {oj : Oper} (hg : o.guard = some (j, w)) (hj : ops[j]? = some oj) (hdj : oj.dst = some t) (hv : ov.find t = some undef) (hd : o.dst = some d) (hN : dOk d N = true) (g : GoL P W q N ops (tr ++ [none]) os k ((d, undef) :: ov) df h Q) : GoL P W q N ops tr (o :: os) k ov df h Q := fun tm hN' hrp => by
 refine ⟨⟨undef, h, [], [], false, true⟩, .inr ⟨by simp [Region.wanted, hg, yielded_undef hrp hj hdj hv], rfl⟩, ?_⟩
 rw [hd]
 refine (g _ (by rw [putT_len]; exact hN') (hrp.put hN' hN _)).mono fun tm' h' l ⟨⟨tl, f1, f2⟩, g'⟩ => ⟨⟨none :: tl, ⟨⟨rfl, rfl, rfl, rfl, rfl⟩, f1⟩, by simpa using f2⟩, g'⟩
theorem GoR.guard {j t : Nat} {w B : Bool} {oj : Oper} (hg : o.guard = some (j, w)) (hj : ops[j]? = some oj) (hdj : oj.dst = some t) (hv : ov.find t = some (.bool B)) (hd : o.dst = some d) (hN : dOk d N = true) (g1 : B = w → GoR P W q N ops b₀ ({ o with guard := none } :: os) k ov df h Q) (g2 : B = !w → GoR P W q N ops b₀ os k ((d, undef) :: ov) df h Q) : GoR P W q N ops b₀ (o :: os) k ov df h Q := by
 by_cases e : B = w
 · exact GoR.wanted hg hj hdj hv e (g1 e)
 ·
  have e' : B = !w := by cases B <;> cases w <;> simp_all
  exact GoR.unwanted hg hj hdj hv e' hd hN (g2 e')
theorem GoR.pickB {c x y : Operand} {B p r : Bool} (ho : o.op = .pick c x y) (hd : o.dst = some d) (hN : dOk d N = true) (hgd : o.guard = none) (hc : evO ov c = some (.bool B)) (hx : evO ov x = some (.bool p)) (hy : evO ov y = some (.bool r)) (g : GoR P W q N ops b₀ os k ((d, .bool (if B then p else r)) :: ov) df h Q) : GoR P W q N ops b₀ (o :: os) k ov df h Q := by
 refine GoR.pick ho hd hN hgd hc hx hy ?_
 have e : (if B = true then (Value.bool p) else (Value.bool r)) = .bool (if B then p else r) := by cases B <;> rfl
 rw [e]; exact g
theorem GoR.pickE {c x y : Operand} {B : Bool} {u v : Value} (ho : o.op = .pick c x y) (hd : o.dst = some d) (hN : dOk d N = true) (hgd : o.guard = none) (hc : evO ov c = some (.bool B)) (hB : B = true) (hx : evO ov x = some u) (hy : evO ov y = some v) (g : GoR P W q N ops b₀ os k ((d, u) :: ov) df h Q) : GoR P W q N ops b₀ (o :: os) k ov df h Q := by subst hB; exact GoR.pick ho hd hN hgd hc hx hy g
theorem GoR.pickN {c x y : Operand} {B : Bool} {u v : Value} (ho : o.op = .pick c x y) (hd : o.dst = some d) (hN : dOk d N = true) (hgd : o.guard = none) (hc : evO ov c = some (.bool B)) (hB : B = false) (hx : evO ov x = some u) (hy : evO ov y = some v) (g : GoR P W q N ops b₀ os k ((d, v) :: ov) df h Q) : GoR P W q N ops b₀ (o :: os) k ov df h Q := by subst hB; exact GoR.pick ho hd hN hgd hc hx hy g
theorem GoL.pickE {c x y : Operand} {B : Bool} {u v : Value} (ho : o.op = .pick c x y) (hd : o.dst = some d) (hN : dOk d N = true) (hgd : o.guard = none) (hc : evO ov c = some (.bool B)) (hB : B = true) (hx : evO ov x = some u) (hy : evO ov y = some v) (g : GoL P W q N ops (tr ++ [none]) os k ((d, u) :: ov) df h Q) : GoL P W q N ops tr (o :: os) k ov df h Q := by subst hB; exact GoL.pick ho hd hN hgd hc hx hy g
theorem GoL.pickN {c x y : Operand} {B : Bool} {u v : Value} (ho : o.op = .pick c x y) (hd : o.dst = some d) (hN : dOk d N = true) (hgd : o.guard = none) (hc : evO ov c = some (.bool B)) (hB : B = false) (hx : evO ov x = some u) (hy : evO ov y = some v) (g : GoL P W q N ops (tr ++ [none]) os k ((d, v) :: ov) df h Q) : GoL P W q N ops tr (o :: os) k ov df h Q := by subst hB; exact GoL.pick ho hd hN hgd hc hx hy g
end
end Go.Proofs.YtncbbeghkpjpbaaDoor
namespace Go.Proofs.YtncbbeghkpjpbaaDoor
theorem ofInt_toNat {w x : Nat} (h : x < 2 ^ w) : (BitVec.ofInt w (x : Int)).toNat = x := by
 rw [BitVec.ofInt_natCast, BitVec.toNat_ofNat, Nat.mod_eq_of_lt h]
def Sm (k : IntKind) (x : Nat) : Prop := x < 2 ^ (k.bits - if k.signed then 1 else 0)
theorem Sm.lt {k : IntKind} {x : Nat} (h : Sm k x) : x < 2 ^ k.bits := by
 unfold Sm at h
 exact Nat.lt_of_lt_of_le h (Nat.pow_le_pow_right (by omega) (by omega))
theorem Sm.wrap {k : IntKind} {x : Nat} (h : Sm k x) : k.wrap (x : Int) = x := by
 unfold Sm at h
 cases hs : k.signed with
 | false =>
  rw [hs] at h
  exact wrap_us k hs (by omega) (by simpa using Int.ofNat_lt.2 h)
 | true =>
  rw [hs] at h
  have hb : k.bits = (k.bits - 1) + 1 := by cases k <;> rfl
  have e : (2 : Int) ^ k.bits = 2 * 2 ^ (k.bits - 1) := by rw [hb, Int.pow_succ]; simp; omega
  have h' : (x : Int) < 2 ^ (k.bits - 1) := by simpa using Int.ofNat_lt.2 h
  simp only [IntKind.wrap, hs, Bool.true_and, decide_eq_true_eq]
  rw [Int.emod_eq_of_lt (by omega) (by omega), if_neg (by omega)]
theorem iOr_nat {k : IntKind} {x y : Nat} (hx : Sm k x) (hy : Sm k y) : iBin .or k x y = some (.int k ((x ||| y : Nat) : Int)) := by
 have hz : Sm k (x ||| y) := Nat.or_lt_two_pow hx hy
 simp only [iBin, BitVec.toNat_or, ofInt_toNat hx.lt, ofInt_toNat hy.lt, hz.wrap]
theorem iShl_nat {k : IntKind} {x n : Nat} (hn : n ≤ k.bits) (hx : Sm k (x * 2 ^ n)) : iSh .shl k x n = some (.int k ((x * 2 ^ n : Nat) : Int)) := by
 have h0 : ¬ ((n : Int) < 0) := by omega
 have e : (x : Int) * 2 ^ n = ((x * 2 ^ n : Nat) : Int) := by simp
 simp only [iSh, if_neg h0, Int.toNat_natCast, Nat.min_eq_left hn, e, hx.wrap]
theorem iShr_nat {k : IntKind} {x n : Nat} (hn : n ≤ k.bits) : iSh .shr k x n = some (.int k ((x / 2 ^ n : Nat) : Int)) := by
 have h0 : ¬ ((n : Int) < 0) := by omega
 have e : (2 : Int) ^ n = ((2 ^ n : Nat) : Int) := by simp
 simp only [iSh, if_neg h0, Int.toNat_natCast, Nat.min_eq_left hn, e]
 rw [Int.fdiv_eq_ediv_of_nonneg _ (Int.natCast_nonneg _)]
 rfl
theorem wrap_u8 (x : Nat) : IntKind.u8.wrap (x : Int) = ((x % 256 : Nat) : Int) := by
 simp only [IntKind.wrap, IntKind.signed, IntKind.bits, Bool.false_and, Bool.false_eq_true, if_false]
 rfl
theorem wrap_u16 (x : Nat) : IntKind.u16.wrap (x : Int) = ((x % 65536 : Nat) : Int) := by
 simp only [IntKind.wrap, IntKind.signed, IntKind.bits, Bool.false_and, Bool.false_eq_true, if_false]
 rfl
theorem wrap_u32 (x : Nat) : IntKind.u32.wrap (x : Int) = ((x % 4294967296 : Nat) : Int) := by
 simp only [IntKind.wrap, IntKind.signed, IntKind.bits, Bool.false_and, Bool.false_eq_true, if_false]
 rfl
section
variable {P : Program} {W : Nat → Prop} {q : Bool} {N : Nat} {k : List It} {ov : Ov} {df : List Nat} {h : AHeap} {Q : PQ} {id : Nat} {ops : Array Oper} {os : List Oper} {o : Oper} {d : Nat} {b₀ : Bool} {tr : List (Option LE)}
theorem GoR.addN {t t₂ : TypeId} {x y : Operand} {i j : Nat} (ho : o.op = .binOp .add t x y t₂) (hd : o.dst = some d) (hN : dOk d N = true) (hgd : o.guard = none) (hx : evO ov x = some (.int .i64 (i : Int))) (hy : evO ov y = some (.int .i64 (j : Int))) (h1 : i + j ≤ 9223372036854775807) (g : GoR P W q N ops b₀ os k ((d, .int .i64 ((i + j : Nat) : Int)) :: ov) df h Q) : GoR P W q N ops b₀ (o :: os) k ov df h Q := GoR.add ho hd hN hgd hx hy (by omega) (by omega) (by have e : ((i + j : Nat) : Int) = (i : Int) + (j : Int) := (by omega); rw [← e]; exact g)
theorem GoR.subN {t t₂ : TypeId} {x y : Operand} {i j : Nat} (ho : o.op = .binOp .sub t x y t₂) (hd : o.dst = some d) (hN : dOk d N = true) (hgd : o.guard = none) (hx : evO ov x = some (.int .i64 (i : Int))) (hy : evO ov y = some (.int .i64 (j : Int))) (h1 : j ≤ i) (h2 : i ≤ 9223372036854775807) (g : GoR P W q N ops b₀ os k ((d, .int .i64 ((i - j : Nat) : Int)) :: ov) df h Q) : GoR P W q N ops b₀ (o :: os) k ov df h Q := GoR.sub ho hd hN hgd hx hy (by omega) (by omega) (by have e : ((i - j : Nat) : Int) = (i : Int) - (j : Int) := (by omega); rw [← e]; exact g)
theorem GoR.addM {t t₂ : TypeId} {x y : Operand} {kd : IntKind} {i j : Nat} (ho : o.op = .binOp .add t x y t₂) (hd : o.dst = some d) (hN : dOk d N = true) (hgd : o.guard = none) (hx : evO ov x = some (.int kd (i : Int))) (hy : evO ov y = some (.int kd (j : Int))) (h1 : i + j < 2 ^ (kd.bits - if kd.signed then 1 else 0)) (g : GoR P W q N ops b₀ os k ((d, .int kd ((i + j : Nat) : Int)) :: ov) df h Q) : GoR P W q N ops b₀ (o :: os) k ov df h Q := GoR.binE _ ho hd hN hgd hx hy (show iBin .add kd (i : Int) (j : Int) = _ from by have e : ((i + j : Nat) : Int) = (i : Int) + (j : Int) := (rfl); simp only [iBin]; rw [← e, Sm.wrap (k := kd) (x := i + j) h1]) g
theorem GoR.subM {t t₂ : TypeId} {x y : Operand} {kd : IntKind} {i j : Nat} (ho : o.op = .binOp .sub t x y t₂) (hd : o.dst = some d) (hN : dOk d N = true) (hgd : o.guard = none) (hx : evO ov x = some (.int kd (i : Int))) (hy : evO ov y = some (.int kd (j : Int))) (h0 : j ≤ i) (h1 : i < 2 ^ (kd.bits - if kd.signed then 1 else 0)) (g : GoR P W q N ops b₀ os k ((d, .int kd ((i - j : Nat) : Int)) :: ov) df h Q) : GoR P W q N ops b₀ (o :: os) k ov df h Q := GoR.binE _ ho hd hN hgd hx hy (show iBin .sub kd (i : Int) (j : Int) = _ from by have e : ((i - j : Nat) : Int) = (i : Int) - (j : Int) := (by omega); simp only [iBin]; rw [← e, Sm.wrap (k := kd) (x := i - j) (Nat.lt_of_le_of_lt (Nat.sub_le i j) h1)]) g
theorem GoR.mulM {t t₂ : TypeId} {x y : Operand} {kd : IntKind} {i j : Nat} (ho : o.op = .binOp .mul t x y t₂) (hd : o.dst = some d) (hN : dOk d N = true) (hgd : o.guard = none) (hx : evO ov x = some (.int kd (i : Int))) (hy : evO ov y = some (.int kd (j : Int))) (h1 : i * j < 2 ^ (kd.bits - if kd.signed then 1 else 0)) (g : GoR P W q N ops b₀ os k ((d, .int kd ((i * j : Nat) : Int)) :: ov) df h Q) : GoR P W q N ops b₀ (o :: os) k ov df h Q := GoR.binE _ ho hd hN hgd hx hy (show iBin .mul kd (i : Int) (j : Int) = _ from by have e : ((i * j : Nat) : Int) = (i : Int) * (j : Int) := (rfl); simp only [iBin]; rw [← e, Sm.wrap (k := kd) (x := i * j) h1]) g
theorem GoL.addM {t t₂ : TypeId} {x y : Operand} {kd : IntKind} {i j : Nat} (ho : o.op = .binOp .add t x y t₂) (hd : o.dst = some d) (hN : dOk d N = true) (hgd : o.guard = none) (hx : evO ov x = some (.int kd (i : Int))) (hy : evO ov y = some (.int kd (j : Int))) (h1 : i + j < 2 ^ (kd.bits - if kd.signed then 1 else 0)) (g : GoL P W q N ops (tr ++ [none]) os k ((d, .int kd ((i + j : Nat) : Int)) :: ov) df h Q) : GoL P W q N ops tr (o :: os) k ov df h Q := GoL.binE _ ho hd hN hgd hx hy (show iBin .add kd (i : Int) (j : Int) = _ from by have e : ((i + j : Nat) : Int) = (i : Int) + (j : Int) := (rfl); simp only [iBin]; rw [← e, Sm.wrap (k := kd) (x := i + j) h1]) g
theorem GoL.subM {t t₂ : TypeId} {x y : Operand} {kd : IntKind} {i j : Nat} (ho : o.op = .binOp .sub t x y t₂) (hd : o.dst = some d) (hN : dOk d N = true) (hgd : o.guard = none) (hx : evO ov x = some (.int kd (i : Int))) (hy : evO ov y = some (.int kd (j : Int))) (h0 : j ≤ i) (h1 : i < 2 ^ (kd.bits - if kd.signed then 1 else 0)) (g : GoL P W q N ops (tr ++ [none]) os k ((d, .int kd ((i - j : Nat) : Int)) :: ov) df h Q) : GoL P W q N ops tr (o :: os) k ov df h Q := GoL.binE _ ho hd hN hgd hx hy (show iBin .sub kd (i : Int) (j : Int) = _ from by have e : ((i - j : Nat) : Int) = (i : Int) - (j : Int) := (by omega); simp only [iBin]; rw [← e, Sm.wrap (k := kd) (x := i - j) (Nat.lt_of_le_of_lt (Nat.sub_le i j) h1)]) g
theorem GoL.mulM {t t₂ : TypeId} {x y : Operand} {kd : IntKind} {i j : Nat} (ho : o.op = .binOp .mul t x y t₂) (hd : o.dst = some d) (hN : dOk d N = true) (hgd : o.guard = none) (hx : evO ov x = some (.int kd (i : Int))) (hy : evO ov y = some (.int kd (j : Int))) (h1 : i * j < 2 ^ (kd.bits - if kd.signed then 1 else 0)) (g : GoL P W q N ops (tr ++ [none]) os k ((d, .int kd ((i * j : Nat) : Int)) :: ov) df h Q) : GoL P W q N ops tr (o :: os) k ov df h Q := GoL.binE _ ho hd hN hgd hx hy (show iBin .mul kd (i : Int) (j : Int) = _ from by have e : ((i * j : Nat) : Int) = (i : Int) * (j : Int) := (rfl); simp only [iBin]; rw [← e, Sm.wrap (k := kd) (x := i * j) h1]) g
theorem GoR.shrN {t t₂ : TypeId} {x y : Operand} {kd kd' : IntKind} {i j : Nat} (ho : o.op = .binOp .shr t x y t₂) (hd : o.dst = some d) (hN : dOk d N = true) (hgd : o.guard = none) (hx : evO ov x = some (.int kd (i : Int))) (hy : evO ov y = some (.int kd' (j : Int))) (h1 : Nat.ble j kd.bits = true) (g : GoR P W q N ops b₀ os k ((d, .int kd ((i / 2 ^ j : Nat) : Int)) :: ov) df h Q) : GoR P W q N ops b₀ (o :: os) k ov df h Q := GoR.shiftE _ ho hd hN hgd hx hy (iShr_nat (Nat.le_of_ble_eq_true h1)) g
theorem GoR.shlN {t t₂ : TypeId} {x y : Operand} {kd kd' : IntKind} {i j : Nat} (ho : o.op = .binOp .shl t x y t₂) (hd : o.dst = some d) (hN : dOk d N = true) (hgd : o.guard = none) (hx : evO ov x = some (.int kd (i : Int))) (hy : evO ov y = some (.int kd' (j : Int))) (h1 : Nat.ble j kd.bits = true) (h2 : i * 2 ^ j < 2 ^ (kd.bits - if kd.signed then 1 else 0)) (g : GoR P W q N ops b₀ os k ((d, .int kd ((i * 2 ^ j : Nat) : Int)) :: ov) df h Q) : GoR P W q N ops b₀ (o :: os) k ov df h Q := GoR.shiftE _ ho hd hN hgd hx hy (iShl_nat (Nat.le_of_ble_eq_true h1) h2) g
theorem GoR.orN {t t₂ : TypeId} {x y : Operand} {kd : IntKind} {i j : Nat} (ho : o.op = .binOp .or t x y t₂) (hd : o.dst = some d) (hN : dOk d N = true) (hgd : o.guard = none) (hx : evO ov x = some (.int kd (i : Int))) (hy : evO ov y = some (.int kd (j : Int))) (h1 : i < 2 ^ (kd.bits - if kd.signed then 1 else 0)) (h2 : j < 2 ^ (kd.bits - if kd.signed then 1 else 0)) (g : GoR P W q N ops b₀ os k ((d, .int kd ((i ||| j : Nat) : Int)) :: ov) df h Q) : GoR P W q N ops b₀ (o :: os) k ov df h Q := GoR.binE _ ho hd hN hgd hx hy (iOr_nat h1 h2) g
theorem GoR.conv_u8 {t t₂ : TypeId} {x : Operand} {kd' : IntKind} {i : Nat} (ho : o.op = .convert t t₂ x) (hd : o.dst = some d) (hN : dOk d N = true) (hgd : o.guard = none) (hx : evO ov x = some (.int kd' (i : Int))) [hc : IC P t t₂ .u8] (g : GoR P W q N ops b₀ os k ((d, .int .u8 ((i % 256 : Nat) : Int)) :: ov) df h Q) : GoR P W q N ops b₀ (o :: os) k ov df h Q := GoR.convE _ ho hd hN hgd hx (wrap_u8 i) g
theorem GoR.conv_u16 {t t₂ : TypeId} {x : Operand} {kd' : IntKind} {i : Nat} (ho : o.op = .convert t t₂ x) (hd : o.dst = some d) (hN : dOk d N = true) (hgd : o.guard = none) (hx : evO ov x = some (.int kd' (i : Int))) [hc : IC P t t₂ .u16] (g : GoR P W q N ops b₀ os k ((d, .int .u16 ((i % 65536 : Nat) : Int)) :: ov) df h Q) : GoR P W q N ops b₀ (o :: os) k ov df h Q := GoR.convE _ ho hd hN hgd hx (wrap_u16 i) g
theorem GoR.conv_u32 {t t₂ : TypeId} {x : Operand} {kd' : IntKind} {i : Nat} (ho : o.op = .convert t t₂ x) (hd : o.dst = some d) (hN : dOk d N = true) (hgd : o.guard = none) (hx : evO ov x = some (.int kd' (i : Int))) [hc : IC P t t₂ .u32] (g : GoR P W q N ops b₀ os k ((d, .int .u32 ((i % 4294967296 : Nat) : Int)) :: ov) df h Q) : GoR P W q N ops b₀ (o :: os) k ov df h Q := GoR.convE _ ho hd hN hgd hx (wrap_u32 i) g
theorem GoR.convW {t t₂ : TypeId} {x : Operand} {kd kd' : IntKind} {i : Nat} (ho : o.op = .convert t t₂ x) (hd : o.dst = some d) (hN : dOk d N = true) (hgd : o.guard = none) (hx : evO ov x = some (.int kd' (i : Int))) [hc : IC P t t₂ kd] (hs : i < 2 ^ (kd.bits - if kd.signed then 1 else 0)) (g : GoR P W q N ops b₀ os k ((d, .int kd (i : Int)) :: ov) df h Q) : GoR P W q N ops b₀ (o :: os) k ov df h Q := GoR.convE _ ho hd hN hgd hx (Sm.wrap (k := kd) hs) g
theorem GoR.indexN {t : TypeId} {x y : Operand} {kk : IntKind} {i : Nat} {a : Option Addr} {len cap : Nat} {cs : List Value} (ho : o.op = .indexAddr t x y) (hd : o.dst = some d) (hN : dOk d N = true) (hgd : o.guard = none) (hx : evO ov x = some (.slice a len cap)) (hy : evO ov y = some (.int kk (i : Int))) [he : EL P t (none, 1)] (hS : Rv P h 1 a len cap cs) (h1 : i < len) (g : GoR P W q N ops b₀ os k ((d, ptA a i) :: ov) df h Q) : GoR P W q N ops b₀ (o :: os) k ov df h Q := GoR.indexV ho hd hN hgd hx hy hS (by omega) (by omega) (by have e : (i : Int).toNat * 1 = i := (by omega); rw [e]; exact g)
theorem GoR.indexNs {t : TypeId} {x y : Operand} {kk : IntKind} {i : Nat} {sz : Nat} {a : Option Addr} {len cap : Nat} {cs : List Value} (ho : o.op = .indexAddr t x y) (hd : o.dst = some d) (hN : dOk d N = true) (hgd : o.guard = none) (hx : evO ov x = some (.slice a len cap)) (hy : evO ov y = some (.int kk (i : Int))) [he : EL P t (none, sz)] (hS : Rv P h sz a len cap cs) (h1 : i < len) (g : GoR P W q N ops b₀ os k ((d, ptA a (i * sz)) :: ov) df h Q) : GoR P W q N ops b₀ (o :: os) k ov df h Q := GoR.indexV ho hd hN hgd hx hy hS (by omega) (by omega) (by have e : (i : Int).toNat = i := (by omega); rw [e]; exact g)
theorem GoR.makeN {t e : TypeId} {bytes : Nat} {z : Value} {x y : Operand} {kd kd' : IntKind} {l c : Nat} (ho : o.op = .makeSlice t x y) (hd : o.dst = some d) (hN : dOk d N = true) (hgd : o.guard = none) (hx : evO ov x = some (.int kd (l : Int))) (hy : evO ov y = some (.int kd' (c : Int))) [hM : MK P t e bytes z] (h1 : l ≤ c) (h2 : c ≤ 1099511627776) (h3 : bytes * c ≤ 281474976710656) (g : GoR P W q N ops b₀ os k ((d, .slice (some ⟨h.n, 0, none⟩) l c) :: ov) df (h.push (.cells (List.replicate c z) e)) Q) : GoR P W q N ops b₀ (o :: os) k ov df h Q := GoR.makeV ho hd hN hgd hx hy (by omega) (by omega) (by omega) (by have : (bytes : Int) * (c : Int) = ((bytes * c : Nat) : Int) := (by simp); omega) g
theorem GoL.addN {t t₂ : TypeId} {x y : Operand} {i j : Nat} (ho : o.op = .binOp .add t x y t₂) (hd : o.dst = some d) (hN : dOk d N = true) (hgd : o.guard = none) (hx : evO ov x = some (.int .i64 (i : Int))) (hy : evO ov y = some (.int .i64 (j : Int))) (h1 : i + j ≤ 9223372036854775807) (g : GoL P W q N ops (tr ++ [none]) os k ((d, .int .i64 ((i + j : Nat) : Int)) :: ov) df h Q) : GoL P W q N ops tr (o :: os) k ov df h Q := GoL.add ho hd hN hgd hx hy (by omega) (by omega) (by have e : ((i + j : Nat) : Int) = (i : Int) + (j : Int) := (by omega); rw [← e]; exact g)
theorem GoL.subN {t t₂ : TypeId} {x y : Operand} {i j : Nat} (ho : o.op = .binOp .sub t x y t₂) (hd : o.dst = some d) (hN : dOk d N = true) (hgd : o.guard = none) (hx : evO ov x = some (.int .i64 (i : Int))) (hy : evO ov y = some (.int .i64 (j : Int))) (h1 : j ≤ i) (h2 : i ≤ 9223372036854775807) (g : GoL P W q N ops (tr ++ [none]) os k ((d, .int .i64 ((i - j : Nat) : Int)) :: ov) df h Q) : GoL P W q N ops tr (o :: os) k ov df h Q := GoL.sub ho hd hN hgd hx hy (by omega) (by omega) (by have e : ((i - j : Nat) : Int) = (i : Int) - (j : Int) := (by omega); rw [← e]; exact g)
theorem GoL.shrN {t t₂ : TypeId} {x y : Operand} {kd kd' : IntKind} {i j : Nat} (ho : o.op = .binOp .shr t x y t₂) (hd : o.dst = some d) (hN : dOk d N = true) (hgd : o.guard = none) (hx : evO ov x = some (.int kd (i : Int))) (hy : evO ov y = some (.int kd' (j : Int))) (h1 : Nat.ble j kd.bits = true) (g : GoL P W q N ops (tr ++ [none]) os k ((d, .int kd ((i / 2 ^ j : Nat) : Int)) :: ov) df h Q) : GoL P W q N ops tr (o :: os) k ov df h Q := GoL.shiftE _ ho hd hN hgd hx hy (iShr_nat (Nat.le_of_ble_eq_true h1)) g
theorem GoL.shlN {t t₂ : TypeId} {x y : Operand} {kd kd' : IntKind} {i j : Nat} (ho : o.op = .binOp .shl t x y t₂) (hd : o.dst = some d) (hN : dOk d N = true) (hgd : o.guard = none) (hx : evO ov x = some (.int kd (i : Int))) (hy : evO ov y = some (.int kd' (j : Int))) (h1 : Nat.ble j kd.bits = true) (h2 : i * 2 ^ j < 2 ^ (kd.bits - if kd.signed then 1 else 0)) (g : GoL P W q N ops (tr ++ [none]) os k ((d, .int kd ((i * 2 ^ j : Nat) : Int)) :: ov) df h Q) : GoL P W q N ops tr (o :: os) k ov df h Q := GoL.shiftE _ ho hd hN hgd hx hy (iShl_nat (Nat.le_of_ble_eq_true h1) h2) g
theorem GoL.orN {t t₂ : TypeId} {x y : Operand} {kd : IntKind} {i j : Nat} (ho : o.op = .binOp .or t x y t₂) (hd : o.dst = some d) (hN : dOk d N = true) (hgd : o.guard = none) (hx : evO ov x = some (.int kd (i : Int))) (hy : evO ov y = some (.int kd (j : Int))) (h1 : i < 2 ^ (kd.bits - if kd.signed then 1 else 0)) (h2 : j < 2 ^ (kd.bits - if kd.signed then 1 else 0)) (g : GoL P W q N ops (tr ++ [none]) os k ((d, .int kd ((i ||| j : Nat) : Int)) :: ov) df h Q) : GoL P W q N ops tr (o :: os) k ov df h Q := GoL.binE _ ho hd hN hgd hx hy (iOr_nat h1 h2) g
theorem GoL.conv_u8 {t t₂ : TypeId} {x : Operand} {kd' : IntKind} {i : Nat} (ho : o.op = .convert t t₂ x) (hd : o.dst = some d) (hN : dOk d N = true) (hgd : o.guard = none) (hx : evO ov x = some (.int kd' (i : Int))) [hc : IC P t t₂ .u8] (g : GoL P W q N ops (tr ++ [none]) os k ((d, .int .u8 ((i % 256 : Nat) : Int)) :: ov) df h Q) : GoL P W q N ops tr (o :: os) k ov df h Q := GoL.convE _ ho hd hN hgd hx (wrap_u8 i) g
theorem GoL.conv_u16 {t t₂ : TypeId} {x : Operand} {kd' : IntKind} {i : Nat} (ho : o.op = .convert t t₂ x) (hd : o.dst = some d) (hN : dOk d N = true) (hgd : o.guard = none) (hx : evO ov x = some (.int kd' (i : Int))) [hc : IC P t t₂ .u16] (g : GoL P W q N ops (tr ++ [none]) os k ((d, .int .u16 ((i % 65536 : Nat) : Int)) :: ov) df h Q) : GoL P W q N ops tr (o :: os) k ov df h Q := GoL.convE _ ho hd hN hgd hx (wrap_u16 i) g
theorem GoL.conv_u32 {t t₂ : TypeId} {x : Operand} {kd' : IntKind} {i : Nat} (ho : o.op = .convert t t₂ x) (hd : o.dst = some d) (hN : dOk d N = true) (hgd : o.guard = none) (hx : evO ov x = some (.int kd' (i : Int))) [hc : IC P t t₂ .u32] (g : GoL P W q N ops (tr ++ [none]) os k ((d, .int .u32 ((i % 4294967296 : Nat) : Int)) :: ov) df h Q) : GoL P W q N ops tr (o :: os) k ov df h Q := GoL.convE _ ho hd hN hgd hx (wrap_u32 i) g
theorem GoL.convW {t t₂ : TypeId} {x : Operand} {kd kd' : IntKind} {i : Nat} (ho : o.op = .convert t t₂ x) (hd : o.dst = some d) (hN : dOk d N = true) (hgd : o.guard = none) (hx : evO ov x = some (.int kd' (i : Int))) [hc : IC P t t₂ kd] (hs : i < 2 ^ (kd.bits - if kd.signed then 1 else 0)) (g : GoL P W q N ops (tr ++ [none]) os k ((d, .int kd (i : Int)) :: ov) df h Q) : GoL P W q N ops tr (o :: os) k ov df h Q := GoL.convE _ ho hd hN hgd hx (Sm.wrap (k := kd) hs) g
theorem GoL.indexN {t : TypeId} {x y : Operand} {kk : IntKind} {i : Nat} {a : Option Addr} {len cap : Nat} {cs : List Value} (ho : o.op = .indexAddr t x y) (hd : o.dst = some d) (hN : dOk d N = true) (hgd : o.guard = none) (hx : evO ov x = some (.slice a len cap)) (hy : evO ov y = some (.int kk (i : Int))) [he : EL P t (none, 1)] (hS : Rv P h 1 a len cap cs) (h1 : i < len) (g : GoL P W q N ops (tr ++ [none]) os k ((d, ptA a i) :: ov) df h Q) : GoL P W q N ops tr (o :: os) k ov df h Q := GoL.indexV ho hd hN hgd hx hy hS (by omega) (by omega) (by have e : (i : Int).toNat * 1 = i := (by omega); rw [e]; exact g)
theorem GoL.indexNs {t : TypeId} {x y : Operand} {kk : IntKind} {i : Nat} {sz : Nat} {a : Option Addr} {len cap : Nat} {cs : List Value} (ho : o.op = .indexAddr t x y) (hd : o.dst = some d) (hN : dOk d N = true) (hgd : o.guard = none) (hx : evO ov x = some (.slice a len cap)) (hy : evO ov y = some (.int kk (i : Int))) [he : EL P t (none, sz)] (hS : Rv P h sz a len cap cs) (h1 : i < len) (g : GoL P W q N ops (tr ++ [none]) os k ((d, ptA a (i * sz)) :: ov) df h Q) : GoL P W q N ops tr (o :: os) k ov df h Q := GoL.indexV ho hd hN hgd hx hy hS (by omega) (by omega) (by have e : (i : Int).toNat = i := (by omega); rw [e]; exact g)
theorem GoL.makeN {t e : TypeId} {bytes : Nat} {z : Value} {x y : Operand} {kd kd' : IntKind} {l c : Nat} (ho : o.op = .makeSlice t x y) (hd : o.dst = some d) (hN : dOk d N = true) (hgd : o.guard = none) (hx : evO ov x = some (.int kd (l : Int))) (hy : evO ov y = some (.int kd' (c : Int))) [hM : MK P t e bytes z] (h1 : l ≤ c) (h2 : c ≤ 1099511627776) (h3 : bytes * c ≤ 281474976710656) (g : GoL P W q N ops (tr ++ [some ⟨h.n, h.n + 1, [], [], false, false⟩]) os k ((d, .slice (some ⟨h.n, 0, none⟩) l c) :: ov) df (h.push (.cells (List.replicate c z) e)) Q) : GoL P W q N ops tr (o :: os) k ov df h Q := GoL.makeV ho hd hN hgd hx hy (by omega) (by omega) (by omega) (by have : (bytes : Int) * (c : Int) = ((bytes * c : Nat) : Int) := (by simp); omega) g
end
theorem Own.out {n i : Nat} {a : Option Addr} (h : Own n a) (hi : i ∈ blk a) : n ≤ i := h i hi
theorem Keeps.get {wr : List Nat} {h h' : AHeap} (k : Keeps wr h h') {i : Nat} {o : AObj} (e : h.get i = some o) (hn : i ∉ wr) : h'.get i = some o := by rw [k.2 i (AHeap.lt e) hn]; exact e
section
variable {ops : Array Oper} {all es : List (Option LE)} {i j : Nat} {w : List Nat} {e : LE}
theorem loudP.nil : loudP ops all [] i := trivial
theorem loudP.none (k : loudP ops all es (i + 1)) : loudP ops all (none :: es) i := k
theorem loudP.new (hw : ∀ b ∈ e.wr, e.n ≤ b) (k : loudP ops all es (i + 1)) : loudP ops all (some e :: es) i := ⟨.inl hw, k⟩
theorem loudP.row (hr : loudRowP ops e.wr i all 0) (k : loudP ops all es (i + 1)) : loudP ops all (some e :: es) i := ⟨.inr hr, k⟩
theorem loudRowP.nil : loudRowP ops w i [] j := trivial
theorem loudRowP.none (k : loudRowP ops w i es (j + 1)) : loudRowP ops w i (none :: es) j := ⟨trivial, k⟩
theorem loudRowP.bef (h : (i == j || bef ops i j || bef ops j i) = true) (k : loudRowP ops w i es (j + 1)) : loudRowP ops w i (some e :: es) j := ⟨.inl h, k⟩
theorem loudRowP.apart (h1 : e.same = true ∨ ∀ b ∈ e.wr, e.n ≤ b) (h2 : e.all = false) (h3 : ∀ b ∈ w, b ∉ e.rd ∧ b ∉ e.wr ∧ (b < e.n ∨ e.n' ≤ b)) (k : loudRowP ops w i es (j + 1)) : loudRowP ops w i (some e :: es) j := ⟨.inr ⟨h1, h2, h3⟩, k⟩
end
theorem Same.own {wr : List Nat} {h₀ h h' : AHeap} (s : Same h₀ h) (k : Keeps wr h h') (ho : ∀ i ∈ wr, h₀.n ≤ i) : Same h₀ h' :=
 ⟨Nat.le_trans s.1 k.1, fun i hi => (k.2 i (Nat.lt_of_lt_of_le hi s.1) fun hw => by have := ho i hw; omega).trans (s.2 i hi)⟩
theorem Own.ok {n n₀ : Nat} {a : Option Addr} {wr : List Nat} (h : Own n a) (hle : n₀ ≤ n) : ∀ i ∈ blk a, i ∈ wr ∨ n₀ ≤ i := fun i hi => .inr (Nat.le_trans hle (h i hi))
section
variable {P : Program} {W : Nat → Prop} {q : Bool} {N : Nat} {k : List It} {ov : Ov} {df : List Nat} {h : AHeap} {Q : PQ} {id : Nat} {ops : Array Oper} {os : List Oper} {o : Oper} {d : Nat} {b₀ : Bool} {tr : List (Option LE)}
theorem GoL.storeV {t tt : TypeId} {x y : Operand} {kv n sz : Nat} {a : Option Addr} {len cap : Nat} {cs l : List Value} {v : Value} (ho : o.op = .store t x y) (hd : o.dst = none) (hgd : o.guard = none) (hx : evO ov x = some (ptA a kv)) (hy : evO ov y = some v) [hs : SZ P t n] (hl : cellsL v = l) (h1 : l.length = n) (h3 : l.all Value.oneCell' = true) (h4 : 0 < n)
  (hS : Sv h tt sz a len cap cs) (h2 : kv + n ≤ cs.length) (hw : ∀ i ∈ blk a, W i)
  (g : ∀ h', Sv h' tt sz a len cap (setL cs kv l) → Keeps (blk a) h h' → h'.n = h.n → GoL P W q N ops (tr ++ [some ⟨h.n, h'.n, blk a, blk a, false, false⟩]) os k ov df h' Q) : GoL P W q N ops tr (o :: os) k ov df h Q := by
 have hlen := hS.length
 have hp := hS.pos (by omega)
 obtain ⟨b, o', c, rfl, hg, ho', hle, hc⟩ := hS.some hp
 have m : len * sz ≤ cap * sz := Nat.mul_le_mul_right _ hle
 have hx' : evO ov x = some (.pointer (some ⟨b, o' + kv, none⟩)) := hx
 refine GoL.store ho hd hgd hx' hy hg hl h1 (by omega) h3 rfl (hw b (by simp [blk])) (g _ ?_ ⟨Nat.le_refl _, fun i _ hn => AHeap.get_put_ne _ _ fun e => hn (by simp [blk, e])⟩ rfl)
 exact .mk (get_put_self hg) (by rw [setL_length (by omega)]; exact ho') hle (setL_sub hc (by omega) (by omega))
theorem cells_one {v : Value} (h : v.oneCell' = true) : cellsL v = [v] := by cases v <;> first | rfl | cases h
theorem setL_one {cs : List Value} {kv : Nat} {v : Value} (h : kv < cs.length) : setL cs kv [v] = cs.set kv v := by
 rw [List.set_eq_take_append_cons_drop, if_pos h]
 simp [setL]
theorem GoL.store1 {t tt : TypeId} {x y : Operand} {kv sz : Nat} {a : Option Addr} {len cap : Nat} {cs : List Value} {v : Value} (ho : o.op = .store t x y) (hd : o.dst = none) (hgd : o.guard = none) (hx : evO ov x = some (ptA a kv)) (hy : evO ov y = some v) [hs : SZ P t 1] (h1 : v.oneCell' = true)
  (hS : Sv h tt sz a len cap cs) (h2 : kv < cs.length) (hw : ∀ i ∈ blk a, W i)
  (g : ∀ h', Sv h' tt sz a len cap (cs.set kv v) → Keeps (blk a) h h' → h'.n = h.n → GoL P W q N ops (tr ++ [some ⟨h.n, h'.n, blk a, blk a, false, false⟩]) os k ov df h' Q) : GoL P W q N ops tr (o :: os) k ov df h Q :=
 GoL.storeV ho hd hgd hx hy (cells_one h1) rfl (by simp [h1]) (Nat.succ_pos 0) hS h2 hw fun h' a1 a2 a3 => g h' (by rw [← setL_one h2]; exact a1) a2 a3
theorem GoR.store1 {t tt : TypeId} {x y : Operand} {kv sz : Nat} {a : Option Addr} {len cap : Nat} {cs : List Value} {v : Value} (ho : o.op = .store t x y) (hd : o.dst = none) (hgd : o.guard = none) (hx : evO ov x = some (ptA a kv)) (hy : evO ov y = some v) [hs : SZ P t 1] (h1 : v.oneCell' = true)
  (hS : Sv h tt sz a len cap cs) (h2 : kv < cs.length) (hw : ∀ i ∈ blk a, W i)
  (g : ∀ h', Sv h' tt sz a len cap (cs.set kv v) → Keeps (blk a) h h' → h'.n = h.n → GoR P W q N ops true os k ov df h' Q) : GoR P W q N ops true (o :: os) k ov df h Q :=
 GoR.storeV ho hd hgd hx hy (cells_one h1) rfl (by simp [h1]) (Nat.succ_pos 0) hS h2 hw fun h' a1 a2 a3 => g h' (by rw [← setL_one h2]; exact a1) a2 a3
end
end Go.Proofs.YtncbbeghkpjpbaaDoor
namespace Go.Proofs.YtncbbeghkpjpbaaDoor
open Go.RowKit
def tileB (P : Program) : List Field → Nat → Nat → Bool
 | [], off, total => Nat.beq off total
 | f :: r, off, total => Nat.beq f.offset off && tileB P r (off + P.cellsOf f.type) total
def plainB (P : Program) : Nat → TypeId → Bool
 | 0, _ => false
 | f + 1, t => match P.underlying t with
  | some .bool | some (.int _) | some .string => Nat.beq (P.cellsOf t) 1
  | some (.slice e) => Nat.beq (P.cellsOf t) 1 && Nat.ble 1 (P.cellsOf e) && plainB P f e
  | some (.struct fs) => tileB P fs.toList 0 (P.cellsOf t) && fs.toList.all fun x => plainB P f x.type
  | _ => false
inductive ARd (P : Program) (h : AHeap) {H : Type} : TypeId → List Value → DataW H → Prop
 | bool {t : TypeId} {b : Bool} (hu : P.underlying t = some .bool) : ARd P h t [.bool b] (.lit (.bool b))
 | int {t : TypeId} {k : IntKind} {n : Int} (hu : P.underlying t = some (.int k)) (hw : (Lit.int k n).wf = true) : ARd P h t [.int k n] (.lit (.int k n))
 | str {t : TypeId} {s : ByteArray} (hu : P.underlying t = some .string) (hm : s.size ≤ maxLen) : ARd P h t [.string s] (.lit (.string s.data.toList))
 | snil {t e : TypeId} (hu : P.underlying t = some (.slice e)) : ARd P h t [.slice none 0 0] .nil
 | slice {t e : TypeId} {a : Addr} {len cap : Nat} {c : List Value} {ds rest : List (DataW H)} (hu : P.underlying t = some (.slice e)) (hR : Rv P h (P.cellsOf e) (some a) len cap c) (hm : cap ≤ maxLen) (hl : ds.length = len) (he : ∀ (i : Nat) (d : DataW H), ds[i]? = some d → ARd P h e ((c.drop (i * P.cellsOf e)).take (P.cellsOf e)) d) : ARd P h t [.slice (some a) len cap] (.slice ds rest)
 | struct {t : TypeId} {fs : Array Field} {cs : List Value} {xs : List (DataW H)} (hu : P.underlying t = some (.struct fs)) (hl : cs.length = P.cellsOf t) (hx : xs.length = fs.size) (hf : ∀ (i : Nat) (f : Field) (d : DataW H), fs[i]? = some f → xs[i]? = some d → ARd P h f.type ((cs.drop f.offset).take (P.cellsOf f.type)) d) : ARd P h t cs (.agg xs)
theorem ARd.same {P : Program} {h h' : AHeap} {H : Type} {t : TypeId} {cs : List Value} {d : DataW H} (k : ARd P h t cs d) (s : Same h h') : ARd P h' t cs d := by
 induction k with
 | bool hu => exact .bool hu
 | int hu hw => exact .int hu hw
 | str hu hm => exact .str hu hm
 | snil hu => exact .snil hu
 | slice hu hR hm hl _ ih => exact .slice hu (hR.same s) hm hl ih
 | struct hu hl hx _ ih => exact .struct hu hl hx ih
structure Im (P : Program) (W : World) (m : Mp) (h : AHeap) : Prop where
 rel : HRel P m Ev h W
 dom : ∀ i, h.n ≤ i → m i = none
 dead : ∀ i, ¬ h.live i
theorem Im.empty (P : Program) (W : World) : Im P W (fun _ => none) emptyH := ⟨hrel_empty P Ev W, fun _ _ => rfl, fun i ⟨o, e, _⟩ => by have := AHeap.lt e; exact absurd this (Nat.not_lt_zero i)⟩
theorem not_live_ro {h : AHeap} (hd : ∀ i, ¬ h.live i) (c : List Value) : ∀ i, ¬ (h.push (.ro c)).live i := fun i ⟨o, e, ho⟩ => by
 rw [AHeap.get_push] at e
 split at e
 · cases e; cases ho
 · exact hd i ⟨o, e, ho⟩
section
variable {P : Program} {W : World} {m : Mp} {h : AHeap}
theorem Im.add (I : Im P W m h) {l : Loc} {c : List Value} {c' : Array Value} {t : TypeId} {fz : Nat × Nat} (hs : l.slk = 0) (hw : W.heap[l.b]? = some (.cells c' t fz)) (hc : ∀ (i : Nat) v, c[i]? = some v → ∃ v', c'[i + l.sh]? = some v' ∧ VRel m v v') : Im P W (upd m h.n l) (h.push (.ro c)) := by
 have hn : m h.n = none := I.dom _ (Nat.le_refl _)
 have hlb : l.b < W.heap.size := (Array.getElem?_eq_some_iff.1 hw).1
 refine ⟨⟨fun i k e => ?_, fun i k d u e g => ?_, fun i j l₁ l₂ e₁ e₂ g₁ g₂ _ => absurd g₂ (not_live_ro I.dead c j), fun i k d e g => ?_, fun i k o _ e g => ?_⟩, fun i hi => ?_, not_live_ro I.dead c⟩
 ·
  by_cases hi : i = h.n
  · subst hi; rw [upd_same] at e; cases e; exact hlb
  · rw [upd_ne m l hi] at e; exact I.rel.lt i k e
 ·
  rw [AHeap.get_push] at g
  split at g
  · cases g
  · exact absurd ⟨_, g, rfl⟩ (I.dead i)
 ·
  by_cases hi : i = h.n
  · subst hi; rw [upd_same] at e; cases e; exact hs
  · rw [upd_ne m l hi] at e; rw [AHeap.get_push_ne _ _ (Ne.symm hi)] at g; exact I.rel.roS i k d e g
 ·
  by_cases hi : i = h.n
  ·
   subst hi; rw [upd_same] at e; cases e; rw [AHeap.get_push_same] at g; cases g
   exact ⟨_, hw, .ro hs fun i v hv => let ⟨v', a, b⟩ := hc i v hv; ⟨v', a, b.mono (upd_le hn)⟩⟩
  ·
   rw [upd_ne m l hi] at e; rw [AHeap.get_push_ne _ _ (Ne.symm hi)] at g
   obtain ⟨o', a, b⟩ := I.rel.obj i k o trivial e g
   exact ⟨o', a, b.mono (upd_le hn)⟩
 ·
  simp at hi
  rw [upd_ne m l (by omega)]; exact I.dom i (by omega)
theorem Im.add0 (I : Im P W m h) (c : List Value) : Im P W m (h.push (.ro c)) := by
 have hn : m h.n = none := I.dom _ (Nat.le_refl _)
 have hne : ∀ i k, m i = some k → i ≠ h.n := fun i k e hi => by subst hi; rw [hn] at e; cases e
 refine ⟨⟨I.rel.lt, fun i k d u e g => ?_, fun i j l₁ l₂ e₁ e₂ g₁ g₂ _ => absurd g₂ (not_live_ro I.dead c j), fun i k d e g => ?_, fun i k o _ e g => ?_⟩, fun i hi => ?_, not_live_ro I.dead c⟩
 · rw [AHeap.get_push_ne _ _ (Ne.symm (hne i k e))] at g; exact I.rel.typ i k d u e g
 · rw [AHeap.get_push_ne _ _ (Ne.symm (hne i k e))] at g; exact I.rel.roS i k d e g
 · rw [AHeap.get_push_ne _ _ (Ne.symm (hne i k e))] at g; exact I.rel.obj i k o trivial e g
 ·
  simp at hi
  exact I.dom i (by omega)
theorem ARel.single {m : Mp} {v v' : Value} (h : VRel m v v') : ARel m [v].toArray [v'].toArray := ⟨rfl, fun i u u' e e' => by
 cases i with
 | zero => simp at e e'; subst e e'; exact h
 | succ i => simp at e⟩
theorem block_of_cell {W : World} {b off : Nat} {v : Value} (h : W.cell? ⟨b, off, none⟩ = some v) : ∃ c' t fz, W.heap[b]? = some (.cells c' t fz) ∧ ∀ k u, W.cell? ⟨b, k, none⟩ = some u → c'[k]? = some u := by
 unfold World.cell? at h
 split at h
 ·
  rename_i c t fz hc
  exact ⟨c, t, fz, hc, fun k u hk => by simpa [World.cell?, hc] using hk⟩
 · cases h
theorem ARel.cat {m : Mp} {a b a' b' : List Value} (h : ARel m a.toArray a'.toArray) (k : ARel m b.toArray b'.toArray) : ARel m (a ++ b).toArray (a' ++ b').toArray := by
 have := h.append k
 simpa using this
theorem ARel.len {m : Mp} {a a' : List Value} (h : ARel m a.toArray a'.toArray) : a.length = a'.length := by simpa using h.1
theorem imp {H : Type} {enc : TypeId × Value → H} : ∀ (f fuel : Nat) (t : TypeId) (cs' : List Value) (d : DataW H) (ps : List MemPlace), plainB P f t = true → DataW.trod enc P W 0 (fun _ => true) true fuel t cs' = some (d, ps) → ∀ (m : Mp) (h : AHeap), Im P W m h →
  ∃ m' h' cs, Im P W m' h' ∧ m.le m' ∧ Same h h' ∧ ARel m' cs.toArray cs'.toArray ∧ ARd P h' t cs d ∧ cs.length = P.cellsOf t
 | 0, fuel, t, cs', d, ps, hp, hd => by cases hp
 | f + 1, fuel, t, cs', d, ps, hp, hd => fun m h I => by
  unfold plainB at hp
  split at hp
  ·
   rename_i hu
   obtain ⟨b, rfl, e⟩ := DataW.trod_bool hu hd
   cases e
   exact ⟨m, h, _, I, .refl m, .refl h, .single (.bool b), .bool hu, (Nat.eq_of_beq_eq_true hp).symm⟩
  ·
   rename_i k hu
   obtain ⟨n, rfl, e, hw⟩ := DataW.trod_int hu hd
   cases e
   exact ⟨m, h, _, I, .refl m, .refl h, .single (.int k n), .int hu hw, (Nat.eq_of_beq_eq_true hp).symm⟩
  ·
   rename_i hu
   obtain ⟨s, rfl, e, hm⟩ := DataW.trod_string hu hd
   cases e
   exact ⟨m, h, _, I, .refl m, .refl h, .single (.string s), .str hu hm, (Nat.eq_of_beq_eq_true hp).symm⟩
  ·
   rename_i e hu
   simp only [Bool.and_eq_true] at hp
   obtain ⟨⟨hp1, hp2⟩, hp3⟩ := hp
   have hsz : 1 ≤ P.cellsOf e := Nat.le_of_ble_eq_true hp2
   have h1 : 1 = P.cellsOf t := (Nat.eq_of_beq_eq_true hp1).symm
   rcases Go.Deep.open_slice hu hd with ⟨rfl, ex⟩ | ⟨a, len, cap, mm, n, D, Pl, rfl, _, hl, hm, hmm, ex, hi⟩
   ·
    cases ex
    exact ⟨m, h, _, I, .refl m, .refl h, .single .snil, .snil hu, h1⟩
   ·
    simp only [if_true] at hmm
    rw [hmm] at ex hi
    cases ex
    have elems : ∀ k, k ≤ len → ∃ (m' : Mp) (h' : AHeap) (c : List Value), Im P W m' h' ∧ m.le m' ∧ Same h h' ∧ c.length = k * P.cellsOf e ∧ (∀ (q : Nat) v, c[q]? = some v → ∃ v', W.cell? (a.add q) = some v' ∧ VRel m' v v') ∧ ∀ i, i < k → ARd P h' e ((c.drop (i * P.cellsOf e)).take (P.cellsOf e)) (D i) := by
     intro k
     induction k with
     | zero => exact fun _ => ⟨m, h, [], I, .refl m, .refl h, by simp, fun q v e => by simp at e, fun i hi => by omega⟩
     | succ k ih =>
      intro hk
      obtain ⟨m₁, h₁, c₁, I₁, l₁, s₁, n₁, r₁, a₁⟩ := ih (by omega)
      obtain ⟨cs₂, hc, ht⟩ := hi k (by omega)
      obtain ⟨_, hlen, hat⟩ := World.cells?_some hc
      obtain ⟨m₂, h₂, c₂, I₂, l₂, s₂, r₂, a₂, n₂⟩ := imp f n e cs₂ (D k) (Pl k) hp3 ht m₁ h₁ I₁
      refine ⟨m₂, h₂, c₁ ++ c₂, I₂, l₁.trans l₂, s₁.trans s₂, by rw [List.length_append, n₁, n₂, Nat.add_mul, Nat.one_mul], fun q v hq => ?_, fun i hik => ?_⟩
      ·
       rw [List.getElem?_append] at hq
       split at hq
       ·
        obtain ⟨v', x, y⟩ := r₁ q v hq
        exact ⟨v', x, y.mono l₂⟩
       ·
        rename_i hge
        obtain ⟨v', x, y⟩ := r₂.get (i := q - c₁.length) (v := v) (by simpa using hq)
        have hlt : q - c₁.length < P.cellsOf e := by rw [← n₂]; exact (List.getElem?_eq_some_iff.1 hq).1
        refine ⟨v', ?_, y⟩
        have := hat _ hlt
        rw [n₁] at this hge x
        rw [Addr.add_add] at this
        rw [show k * P.cellsOf e + (q - k * P.cellsOf e) = q from by omega] at this
        rw [this]
        simpa using x
      ·
       rcases Nat.lt_or_ge i k with hlt | hge
       ·
        have m1 : (i + 1) * P.cellsOf e ≤ k * P.cellsOf e := Nat.mul_le_mul_right _ hlt
        rw [Nat.add_mul, Nat.one_mul] at m1
        rw [List.drop_append_of_le_length (by omega), List.take_append_of_le_length (by simp; omega)]
        exact (a₁ i hlt).same s₂
       ·
        have : i = k := by omega
        subst this
        rw [← n₁, List.drop_left, ← n₂, List.take_length]
        exact a₂
    obtain ⟨m₁, h₁, c, I₁, l₁, s₁, n₁, r₁, a₁⟩ := elems len (Nat.le_refl _)
    have fin : ∀ (h₂ : AHeap) (m₂ : Mp) (a' : Addr), Im P W m₂ h₂ → m₁.le m₂ → Same h₁ h₂ → VRel m₂ (.slice (some a') len cap) (.slice (some a) len cap) → Rv P h₂ (P.cellsOf e) (some a') len cap c → ∃ (m' : Mp) (h' : AHeap) (cs : List Value), Im P W m' h' ∧ m.le m' ∧ Same h h' ∧ ARel m' cs.toArray [Value.slice (some a) len cap].toArray ∧ ARd P h' t cs (.slice ((List.range len).map D) ((List.range (cap - len)).map fun j => D (len + j))) ∧ cs.length = P.cellsOf t := fun h₂ m₂ a' I₂ l₂ s₂ hv hR =>
     ⟨m₂, h₂, [.slice (some a') len cap], I₂, l₁.trans l₂, s₁.trans s₂, .single hv, .slice hu hR hm (by simp) (fun i d hd => by
      simp only [List.getElem?_map, Option.map_eq_some_iff] at hd
      obtain ⟨j, hj, rfl⟩ := hd
      have hlt : i < len := by
       rcases Nat.lt_or_ge i len with h | h
       · exact h
       · rw [List.getElem?_eq_none (by simpa using h)] at hj; cases hj
      have : j = i := by simpa [hlt] using hj.symm
      subst this
      exact (a₁ j hlt).same s₂), h1⟩
    by_cases hcap : cap = 0
    ·
     subst hcap
     have hl0 : len = 0 := by omega
     subst hl0
     have hc0 : c = [] := List.length_eq_zero_iff.1 (by simpa using n₁)
     subst hc0
     exact fin (h₁.push (.ro [])) m₁ ⟨h₁.n, 0, none⟩ (I₁.add0 []) (.refl _) ((Same.refl _).push _) (.slice0 _ _ _) (.mk (.inr (AHeap.get_push_same _ _)) (by simp) (Nat.le_refl _) (by simp))
    ·
     obtain ⟨cs₀, hc₀, _⟩ := hi 0 (by omega)
     obtain ⟨_, hlen₀, hat₀⟩ := World.cells?_some hc₀
     have hx := hat₀ 0 (by omega)
     rw [List.getElem?_eq_getElem (by omega)] at hx
     obtain ⟨b, off, spot⟩ := a
     have hspot : spot = none := by simpa [Addr.add] using World.cell?_spot hx
     subst hspot
     rw [addr_add, addr_add] at hx
     obtain ⟨c', ty, fz, hw, hcell⟩ := block_of_cell hx
     have I₂ := I₁.add (l := ⟨b, off, P.cellsOf e, c.length, 0⟩) (c := c) rfl hw (fun i v hv => by
      obtain ⟨v', x, y⟩ := r₁ i v hv
      rw [addr_add] at x
      exact ⟨v', by rw [Nat.add_comm]; exact hcell _ _ x, y⟩)
     have hup := upd_le (l := (⟨b, off, P.cellsOf e, c.length, 0⟩ : Loc)) (I₁.dom h₁.n (Nat.le_refl _))
     refine fin (h₁.push (.ro c)) _ ⟨h₁.n, 0, none⟩ I₂ hup ((Same.refl _).push _) ?_ (.mk (.inr (AHeap.get_push_same _ _)) (by omega) hl (by rw [List.drop_zero, ← n₁, List.take_length]))
     have := VRel.slice (m := upd m₁ h₁.n ⟨b, off, P.cellsOf e, c.length, 0⟩) (o := 0) (len := len) (cap := cap) (upd_same m₁ h₁.n _) (.inl rfl)
     simpa using this
  ·
   rename_i fs hu
   simp only [Bool.and_eq_true] at hp
   obtain ⟨hp1, hp2⟩ := hp
   obtain ⟨xs, n, _, ex, hcl, hxl, hxs⟩ := DataW.trod_struct hu hd
   cases ex
   have fields : ∀ (l : List Field) (k off : Nat) (m₁ : Mp) (h₁ : AHeap) (c₁ : List Value), fs.toList.drop k = l → tileB P l off (P.cellsOf t) = true → Im P W m₁ h₁ → m.le m₁ → Same h h₁ → c₁.length = off → off ≤ cs'.length → ARel m₁ c₁.toArray (cs'.take off).toArray →
     (∀ (i : Nat) (g : Field) (d : DataW H), i < k → fs[i]? = some g → (xs.map (·.1))[i]? = some d → g.offset + P.cellsOf g.type ≤ off ∧ ARd P h₁ g.type ((c₁.drop g.offset).take (P.cellsOf g.type)) d) →
     ∃ (m' : Mp) (h' : AHeap) (cs : List Value), Im P W m' h' ∧ m.le m' ∧ Same h h' ∧ ARel m' cs.toArray cs'.toArray ∧ cs.length = P.cellsOf t ∧ ∀ (i : Nat) (g : Field) (d : DataW H), fs[i]? = some g → (xs.map (·.1))[i]? = some d → ARd P h' g.type ((cs.drop g.offset).take (P.cellsOf g.type)) d := by
    intro l
    induction l with
    | nil =>
     intro k off m₁ h₁ c₁ hl ht I₁ l₁ s₁ n₁ hle r₁ a₁
     have hoff : off = P.cellsOf t := Nat.eq_of_beq_eq_true ht
     have hk : fs.size ≤ k := by
      have := congrArg List.length hl
      simp at this; omega
     refine ⟨m₁, h₁, c₁, I₁, l₁, s₁, ?_, by omega, fun i g d hg hd => (a₁ i g d ?_ hg hd).2⟩
     · rw [List.take_of_length_le (by omega)] at r₁; exact r₁
     · have := (Array.getElem?_eq_some_iff.1 hg).1; omega
    | cons g l ih =>
     intro k off m₁ h₁ c₁ hl ht I₁ l₁ s₁ n₁ hle r₁ a₁
     unfold tileB at ht
     simp only [Bool.and_eq_true] at ht
     obtain ⟨ht1, ht2⟩ := ht
     have hgo : g.offset = off := Nat.eq_of_beq_eq_true ht1
     have hg : fs[k]? = some g := by
      have : (fs.toList.drop k)[0]? = some g := by rw [hl]; rfl
      simpa using this
     have hl' : fs.toList.drop (k + 1) = l := by rw [← List.drop_drop, hl]; rfl
     have htr := hxs k g hg
     have hkx : k < xs.length := by rw [hxl]; exact (Array.getElem?_eq_some_iff.1 hg).1
     rw [List.getElem?_eq_getElem hkx] at htr
     have hpg : plainB P f g.type = true := List.all_eq_true.1 hp2 g (by simpa using Array.mem_of_getElem? hg)
     obtain ⟨m₂, h₂, c₂, I₂, l₂, s₂, r₂, a₂, n₂⟩ := imp f n g.type _ xs[k].1 xs[k].2 hpg htr m₁ h₁ I₁
     have hlen2 := r₂.len
     rw [n₂, hgo] at hlen2
     have hfit : off + P.cellsOf g.type ≤ cs'.length := by
      simp at hlen2; omega
     refine ih (k + 1) (off + P.cellsOf g.type) m₂ h₂ (c₁ ++ c₂) hl' ht2 I₂ (l₁.trans l₂) (s₁.trans s₂) (by simp [n₁, n₂]) hfit ?_ ?_
     ·
      rw [List.take_add]
      rw [hgo] at r₂
      exact (r₁.mono l₂).cat r₂
     ·
      intro i g' d hi hg' hd
      rcases Nat.lt_or_ge i k with hlt | hge
      ·
       obtain ⟨b1, b2⟩ := a₁ i g' d hlt hg' hd
       refine ⟨by omega, ?_⟩
       rw [List.drop_append_of_le_length (by omega), List.take_append_of_le_length (by simp; omega)]
       exact b2.same s₂
      ·
       have : i = k := by omega
       subst this
       rw [hg] at hg'; cases hg'
       refine ⟨by omega, ?_⟩
       rw [hgo, ← n₁, List.drop_left, ← n₂, List.take_length]
       simp only [List.getElem?_map, List.getElem?_eq_getElem hkx, Option.map_some, Option.some.injEq] at hd
       subst hd
       exact a₂
   obtain ⟨m', h', cs, g1, g2, g3, g4, g5, g6⟩ := fields fs.toList 0 0 m h [] (by simp) hp1 I (.refl m) (.refl h) rfl (Nat.zero_le _) (by simpa using ARel.empty m) (fun i _ _ hi => by omega)
   exact ⟨m', h', cs, g1, g2, g3, g4, .struct hu g5 (by simp [hxl]) g6, g5⟩
  · cases hp
end
end Go.Proofs.YtncbbeghkpjpbaaDoor
namespace Go.Proofs.YtncbbeghkpjpbaaDoor
open Go.RowKit
def bv (z : UInt8) : Value := .int .u8 z.toNat
section
variable {P : Program} {W : World} {m : Mp} {h : AHeap} {H : Type} {enc : TypeId × Value → H}
theorem ARd.int_inv {t : TypeId} {k : IntKind} {cs : List Value} {d : DataW H} (r : ARd P h t cs d) (hu : P.underlying t = some (.int k)) : ∃ n : Int, cs = [.int k n] ∧ (Lit.int k n).wf = true := by
 cases r with
 | int hu' hw => rw [hu] at hu'; cases hu'; exact ⟨_, rfl, hw⟩
 | bool hu' => rw [hu] at hu'; cases hu'
 | str hu' => rw [hu] at hu'; cases hu'
 | snil hu' => rw [hu] at hu'; cases hu'
 | slice hu' => rw [hu] at hu'; cases hu'
 | struct hu' => rw [hu] at hu'; cases hu'
theorem ARd.u_inv {t : TypeId} {k : IntKind} (hk : k.signed = false) {cs : List Value} {d : DataW H} (r : ARd P h t cs d) (hu : P.underlying t = some (.int k)) : ∃ n : Nat, cs = [.int k n] ∧ n < 2 ^ k.bits := by
 obtain ⟨n, rfl, hw⟩ := r.int_inv hu
 have hb : 0 ≤ n ∧ n ≤ 2 ^ k.bits - 1 := by simpa [Lit.wf, IntKind.min, IntKind.max, hk] using hw
 have e : ((n.toNat : Nat) : Int) = n := by omega
 refine ⟨n.toNat, by rw [e], ?_⟩
 have : ((n.toNat : Nat) : Int) < ((2 ^ k.bits : Nat) : Int) := by rw [e]; simp; omega
 exact Int.ofNat_lt.1 this
theorem ARd.field {t : TypeId} {fs : Array Field} {cs : List Value} {d : DataW H} (r : ARd P h t cs d) (hu : P.underlying t = some (.struct fs)) : cs.length = P.cellsOf t ∧ ∀ (i ty off sz : Nat), (fs[i]?).map (fun f => (f.type, f.offset)) = some (ty, off) → P.cellsOf ty = sz → ∃ d', ARd (H := H) P h ty ((cs.drop off).take sz) d' := by
 cases r with
 | struct hu' hl hx hf =>
  rw [hu] at hu'; cases hu'
  refine ⟨hl, fun i ty off sz e hs => ?_⟩
  subst hs
  cases hq : fs[i]? with
  | none => simp [hq] at e
  | some f =>
   simp only [hq, Option.map_some, Option.some.injEq, Prod.mk.injEq] at e
   obtain ⟨rfl, rfl⟩ := e
   have hi := (Array.getElem?_eq_some_iff.1 hq).1
   rename_i xs
   exact ⟨_, hf i f xs[i] hq (List.getElem?_eq_getElem (by omega))⟩
 | bool hu' => rw [hu] at hu'; cases hu'
 | int hu' hw => rw [hu] at hu'; cases hu'
 | str hu' => rw [hu] at hu'; cases hu'
 | snil hu' => rw [hu] at hu'; cases hu'
 | slice hu' => rw [hu] at hu'; cases hu'
theorem ARd.slice_inv {t e : TypeId} {cs : List Value} {d : DataW H} (r : ARd P h t cs d) (hu : P.underlying t = some (.slice e)) : ∃ a len cap c, cs = [.slice a len cap] ∧ Rv P h (P.cellsOf e) a len cap c ∧ cap ≤ maxLen ∧ ∀ i, i < len → ∃ d', ARd (H := H) P h e ((c.drop (i * P.cellsOf e)).take (P.cellsOf e)) d' := by
 cases r with
 | snil hu' => exact ⟨none, 0, 0, [], rfl, .nil, Nat.zero_le _, fun i hi => by omega⟩
 | slice hu' hR hm hl he =>
  rw [hu] at hu'; cases hu'
  rename_i ds rest
  exact ⟨_, _, _, _, rfl, hR, hm, fun i hi => ⟨ds[i]'(by omega), he i _ (List.getElem?_eq_getElem (by omega))⟩⟩
 | bool hu' => rw [hu] at hu'; cases hu'
 | int hu' hw => rw [hu] at hu'; cases hu'
 | str hu' => rw [hu] at hu'; cases hu'
 | struct hu' => rw [hu] at hu'; cases hu'
theorem ARd.bytes {t e : TypeId} {cs : List Value} {d : DataW H} (r : ARd P h t cs d) (hu : P.underlying t = some (.slice e)) (he : P.underlying e = some (.int .u8)) (hc : P.cellsOf e = 1) : ∃ a cap, ∃ zs : List UInt8, cs = [.slice a zs.length cap] ∧ Rv P h 1 a zs.length cap (zs.map bv) ∧ cap ≤ maxLen := by
 obtain ⟨a, len, cap, c, rfl, hR, hm, hel⟩ := r.slice_inv hu
 rw [hc] at hR hel
 have hl := hR.length
 rw [Nat.mul_one] at hl
 have each : ∀ i, i < c.length → ∃ z : UInt8, c[i]? = some (bv z) := fun i hi => by
  obtain ⟨d', hd⟩ := hel i (by omega)
  obtain ⟨n, h1, h2⟩ := hd.u_inv rfl he
  rw [Nat.mul_one] at h1
  refine ⟨UInt8.ofNat n, ?_⟩
  have h3 : ((c.drop i).take 1)[0]? = some (.int .u8 n) := by rw [h1]; rfl
  rw [List.getElem?_take_of_lt (by omega), List.getElem?_drop, Nat.add_zero] at h3
  rw [h3]
  have : n < 256 := h2
  simp only [bv, UInt8.toNat_ofNat', Option.some.injEq, Value.int.injEq, true_and]
  omega
 obtain ⟨zs, hz⟩ : ∃ zs : List UInt8, c = zs.map bv := by
  clear hR hel hl
  induction c with
  | nil => exact ⟨[], rfl⟩
  | cons x c ih =>
   obtain ⟨z, hz⟩ := each 0 (by simp)
   simp at hz
   obtain ⟨zs, rfl⟩ := ih fun i hi => by
    have := each (i + 1) (by simpa using hi)
    simpa using this
   exact ⟨z :: zs, by simp [hz]⟩
 subst hz
 simp at hl
 subst hl
 exact ⟨a, cap, zs, rfl, hR, hm⟩
end
end Go.Proofs.YtncbbeghkpjpbaaDoor
namespace Go.Proofs.YtncbbeghkpjpbaaDoor
theorem ba_size (a : List UInt8) : (⟨a.toArray⟩ : ByteArray).size = a.length := by
 show a.toArray.size = a.length
 simp
theorem iRem_nat {k : IntKind} {x y : Nat} (hy : 0 < y) : iBin .rem k x y = some (.int k ((x % y : Nat) : Int)) := by
 have h0 : ¬ ((y : Int) = 0) := by omega
 simp only [iBin, if_neg h0]
 rfl
theorem iQuo_nat {k : IntKind} {x y : Nat} (hy : 0 < y) (hx : Sm k x) : iBin .quo k x y = some (.int k ((x / y : Nat) : Int)) := by
 have h0 : ¬ ((y : Int) = 0) := by omega
 have hs : Sm k (x / y) := Nat.lt_of_le_of_lt (Nat.div_le_self _ _) hx
 have e : (x : Int).tdiv (y : Int) = ((x / y : Nat) : Int) := rfl
 simp only [iBin, if_neg h0, e, hs.wrap]
theorem u8s_bv : ∀ zs : List UInt8, u8s (zs.map bv) = some (zs.map fun z => (z.toNat : Int))
 | [] => rfl
 | z :: zs => by simp [u8s, bv, u8s_bv zs]
theorem strOf_bv (zs : List UInt8) : strOf (zs.map fun z => (z.toNat : Int)) = ⟨zs.toArray⟩ := by
 unfold strOf
 congr 1
 simp only [List.map_map]
 have : ((fun n : Int => UInt8.ofNat n.toNat) ∘ fun z : UInt8 => (z.toNat : Int)) = id := by funext z; simp
 rw [this, List.map_id]
section
variable {P : Program} {h : AHeap}
theorem aStr_of {t t₂ e : TypeId} (hu : P.underlying t = some (.slice e)) (hd : P.underlying t₂ = some .string) (he : P.underlying e = some (.int .u8)) {a : Option Addr} {len cap : Nat} {zs : List UInt8} (hS : Rv P h 1 a len cap (zs.map bv)) : ∃ rd, aStr P h t t₂ (.slice a len cap) = some (⟨zs.toArray⟩, rd) ∧ ∀ i ∈ rd, i ∈ blk a := by
 have hl := hS.length
 simp only [List.length_map, Nat.mul_one] at hl
 rcases Nat.eq_zero_or_pos len with h0 | h0
 ·
  subst h0
  have hz : zs = [] := List.length_eq_zero_iff.1 hl
  subst hz
  generalize hm : ([] : List UInt8).map bv = l at hS
  cases hS with
  | nil => exact ⟨[], by simp [aStr, hu, hd, he], fun i hi => by cases hi⟩
  | mk hg ho hle hc => exact ⟨[], by simp [aStr, hu, hd, he], fun i hi => by cases hi⟩
 ·
  obtain ⟨b, o, c, rfl, hg, ho, hle, hc⟩ := hS.some h0
  rw [Nat.mul_one] at ho hc
  refine ⟨[b], ?_, fun i hi => by simpa [blk] using hi⟩
  simp only [aStr, hu, hd, he]
  rw [if_neg (by omega)]
  simp only [hg]
  rw [if_pos ho, hc, u8s_bv]
  simp [strOf_bv]
end
class BY (P : Program) (t t₂ : TypeId) : Prop where
 h : ∃ e, P.underlying t = some (.slice e) ∧ P.underlying e = some (.int .u8)
 s : P.underlying t₂ = some .string
theorem strEq_run {P : Program} {o : Oper} {t t₂ : TypeId} {x y : Operand} {op : BinOp} (hop : op = .eql ∨ op = .neq) (ho : o.op = .binOp op t x y t₂) (a b : List UInt8) (ρ : Operand → Value) (hx : ρ x = .string ⟨a.toArray⟩) (hy : ρ y = .string ⟨b.toArray⟩) : calm P (execOp ρ o) = some (.value (.bool (if op = .eql then decide (a = b) else !decide (a = b)))) := by
 have e1 : (ByteArray.mk a.toArray).toList = a := ByteArray.toList_mk a
 have e2 : (ByteArray.mk b.toArray).toList = b := ByteArray.toList_mk b
 rcases hop with rfl | rfl
 ·
  simp only [execOp, ho, hx, hy]
  have eg : eqGuard .eql t x y (.string ⟨a.toArray⟩) (.string ⟨b.toArray⟩) = Sem.pure () := by unfold eqGuard; split <;> rfl
  have eb : binOp .eql t (.string ⟨a.toArray⟩) (.string ⟨b.toArray⟩) = Sem.pure (.bool (a == b)) := by
   show Op.stringOp .eql _ _ = _
   simp only [Op.stringOp, e1, e2]; rfl
  rw [eg, eb]
  have : (a == b) = decide (a = b) := by rw [Bool.eq_iff_iff]; simp
  rw [this]; rfl
 ·
  simp only [execOp, ho, hx, hy]
  have eg : eqGuard .neq t x y (.string ⟨a.toArray⟩) (.string ⟨b.toArray⟩) = Sem.pure () := by unfold eqGuard; split <;> rfl
  have eb : binOp .neq t (.string ⟨a.toArray⟩) (.string ⟨b.toArray⟩) = Sem.pure (.bool (!(a == b))) := by
   show Op.stringOp .neq _ _ = _
   simp only [Op.stringOp, e1, e2]; rfl
  rw [eg, eb]
  have : (a == b) = decide (a = b) := by rw [Bool.eq_iff_iff]; simp
  rw [this]; rfl
section
variable {P : Program} {W : Nat → Prop} {q : Bool} {N : Nat} {k : List It} {ov : Ov} {df : List Nat} {h : AHeap} {Q : PQ} {id : Nat} {ops : Array Oper} {os : List Oper} {o : Oper} {d : Nat} {b₀ : Bool} {tr : List (Option LE)}
theorem GoR.remN {t t₂ : TypeId} {x y : Operand} {kd : IntKind} {i j : Nat} (ho : o.op = .binOp .rem t x y t₂) (hd : o.dst = some d) (hN : dOk d N = true) (hgd : o.guard = none) (hx : evO ov x = some (.int kd (i : Int))) (hy : evO ov y = some (.int kd (j : Int))) (h1 : 0 < j) (g : GoR P W q N ops b₀ os k ((d, .int kd ((i % j : Nat) : Int)) :: ov) df h Q) : GoR P W q N ops b₀ (o :: os) k ov df h Q := GoR.binE _ ho hd hN hgd hx hy (iRem_nat h1) g
theorem GoR.quoN {t t₂ : TypeId} {x y : Operand} {kd : IntKind} {i j : Nat} (ho : o.op = .binOp .quo t x y t₂) (hd : o.dst = some d) (hN : dOk d N = true) (hgd : o.guard = none) (hx : evO ov x = some (.int kd (i : Int))) (hy : evO ov y = some (.int kd (j : Int))) (h1 : 0 < j) (h2 : i < 2 ^ (kd.bits - if kd.signed then 1 else 0)) (g : GoR P W q N ops b₀ os k ((d, .int kd ((i / j : Nat) : Int)) :: ov) df h Q) : GoR P W q N ops b₀ (o :: os) k ov df h Q := GoR.binE _ ho hd hN hgd hx hy (iQuo_nat h1 h2) g
theorem GoR.strV {t t₂ : TypeId} {x : Operand} {a : Option Addr} {len cap : Nat} {zs : List UInt8} (ho : o.op = .convert t t₂ x) (hd : o.dst = some d) (hN : dOk d N = true) (hgd : o.guard = none) (hx : evO ov x = some (.slice a len cap)) [hB : BY P t t₂] (hS : Rv P h 1 a len cap (zs.map bv)) (g : GoR P W q N ops b₀ os k ((d, .string ⟨zs.toArray⟩) :: ov) df h Q) : GoR P W q N ops b₀ (o :: os) k ov df h Q := by
 obtain ⟨e, h1, h2⟩ := hB.h
 obtain ⟨rd, h3, h4⟩ := aStr_of (P := P) (h := h) h1 hB.s h2 hS
 exact GoR.convStr ho hd hN hgd hx h3 g
theorem GoR.lenZ {x : Operand} {t : TypeId} {zs : List UInt8} (ho : o.op = .call ⟨.builtin .len, #[x], #[t]⟩) (hd : o.dst = some d) (hN : dOk d N = true) (hgd : o.guard = none) (hx : evO ov x = some (.string ⟨zs.toArray⟩)) [hu : UN P t .string] (g : GoR P W q N ops b₀ os k ((d, (.int .i64 (zs.length : Nat))) :: ov) df h Q) : GoR P W q N ops b₀ (o :: os) k ov df h Q := GoR.lenStr ho hd hN hgd hx (by rw [ba_size]; exact g)
theorem GoL.lenZ {x : Operand} {t : TypeId} {zs : List UInt8} (ho : o.op = .call ⟨.builtin .len, #[x], #[t]⟩) (hd : o.dst = some d) (hN : dOk d N = true) (hgd : o.guard = none) (hx : evO ov x = some (.string ⟨zs.toArray⟩)) [hu : UN P t .string] (g : GoL P W q N ops (tr ++ [none]) os k ((d, (.int .i64 (zs.length : Nat))) :: ov) df h Q) : GoL P W q N ops tr (o :: os) k ov df h Q := GoL.lenStr ho hd hN hgd hx (by rw [ba_size]; exact g)
theorem GoR.strEq {t t₂ : TypeId} {x y : Operand} {a b : List UInt8} (ho : o.op = .binOp .eql t x y t₂) (hd : o.dst = some d) (hN : dOk d N = true) (hgd : o.guard = none) (hx : evO ov x = some (.string ⟨a.toArray⟩)) (hy : evO ov y = some (.string ⟨b.toArray⟩)) (g : GoR P W q N ops b₀ os k ((d, .bool (decide (a = b))) :: ov) df h Q) : GoR P W q N ops b₀ (o :: os) k ov df h Q := by
 refine GoR.calm (u := .bool (decide (a = b))) (l := [.string ⟨a.toArray⟩, .string ⟨b.toArray⟩]) hd hN hgd (by simp [ho, Op.operands, evOs, hx, hy]) (by simp [ho]) (by simp [ho]) rfl rfl (fun ρ hρ => ?_) g
 simp only [ho, Op.operands, List.map_cons, List.map_nil, List.cons.injEq, and_true] at hρ
 exact strEq_run (.inl rfl) ho a b ρ hρ.1 hρ.2
theorem GoR.strNe {t t₂ : TypeId} {x y : Operand} {a b : List UInt8} (ho : o.op = .binOp .neq t x y t₂) (hd : o.dst = some d) (hN : dOk d N = true) (hgd : o.guard = none) (hx : evO ov x = some (.string ⟨a.toArray⟩)) (hy : evO ov y = some (.string ⟨b.toArray⟩)) (g : GoR P W q N ops b₀ os k ((d, .bool (!decide (a = b))) :: ov) df h Q) : GoR P W q N ops b₀ (o :: os) k ov df h Q := by
 refine GoR.calm (u := .bool (!decide (a = b))) (l := [.string ⟨a.toArray⟩, .string ⟨b.toArray⟩]) hd hN hgd (by simp [ho, Op.operands, evOs, hx, hy]) (by simp [ho]) (by simp [ho]) rfl rfl (fun ρ hρ => ?_) g
 simp only [ho, Op.operands, List.map_cons, List.map_nil, List.cons.injEq, and_true] at hρ
 exact strEq_run (.inr rfl) ho a b ρ hρ.1 hρ.2
theorem GoL.remN {t t₂ : TypeId} {x y : Operand} {kd : IntKind} {i j : Nat} (ho : o.op = .binOp .rem t x y t₂) (hd : o.dst = some d) (hN : dOk d N = true) (hgd : o.guard = none) (hx : evO ov x = some (.int kd (i : Int))) (hy : evO ov y = some (.int kd (j : Int))) (h1 : 0 < j) (g : GoL P W q N ops (tr ++ [none]) os k ((d, .int kd ((i % j : Nat) : Int)) :: ov) df h Q) : GoL P W q N ops tr (o :: os) k ov df h Q := GoL.binE _ ho hd hN hgd hx hy (iRem_nat h1) g
theorem GoL.quoN {t t₂ : TypeId} {x y : Operand} {kd : IntKind} {i j : Nat} (ho : o.op = .binOp .quo t x y t₂) (hd : o.dst = some d) (hN : dOk d N = true) (hgd : o.guard = none) (hx : evO ov x = some (.int kd (i : Int))) (hy : evO ov y = some (.int kd (j : Int))) (h1 : 0 < j) (h2 : i < 2 ^ (kd.bits - if kd.signed then 1 else 0)) (g : GoL P W q N ops (tr ++ [none]) os k ((d, .int kd ((i / j : Nat) : Int)) :: ov) df h Q) : GoL P W q N ops tr (o :: os) k ov df h Q := GoL.binE _ ho hd hN hgd hx hy (iQuo_nat h1 h2) g
theorem GoL.strV {t t₂ : TypeId} {x : Operand} {a : Option Addr} {len cap : Nat} {zs : List UInt8} (ho : o.op = .convert t t₂ x) (hd : o.dst = some d) (hN : dOk d N = true) (hgd : o.guard = none) (hx : evO ov x = some (.slice a len cap)) [hB : BY P t t₂] (hS : Rv P h 1 a len cap (zs.map bv)) (g : ∀ rd, (∀ i ∈ rd, i ∈ blk a) → GoL P W q N ops (tr ++ [some ⟨h.n, h.n, rd, [], false, true⟩]) os k ((d, .string ⟨zs.toArray⟩) :: ov) df h Q) : GoL P W q N ops tr (o :: os) k ov df h Q := by
 obtain ⟨e, h1, h2⟩ := hB.h
 obtain ⟨rd, h3, h4⟩ := aStr_of (P := P) (h := h) h1 hB.s h2 hS
 exact GoL.convStr ho hd hN hgd hx h3 (g rd h4)
theorem GoL.strEq {t t₂ : TypeId} {x y : Operand} {a b : List UInt8} (ho : o.op = .binOp .eql t x y t₂) (hd : o.dst = some d) (hN : dOk d N = true) (hgd : o.guard = none) (hx : evO ov x = some (.string ⟨a.toArray⟩)) (hy : evO ov y = some (.string ⟨b.toArray⟩)) (g : GoL P W q N ops (tr ++ [none]) os k ((d, .bool (decide (a = b))) :: ov) df h Q) : GoL P W q N ops tr (o :: os) k ov df h Q := by
 refine GoL.calm (u := .bool (decide (a = b))) (l := [.string ⟨a.toArray⟩, .string ⟨b.toArray⟩]) hd hN hgd (by simp [ho, Op.operands, evOs, hx, hy]) (by simp [ho]) (by simp [ho]) rfl rfl (fun ρ hρ => ?_) g
 simp only [ho, Op.operands, List.map_cons, List.map_nil, List.cons.injEq, and_true] at hρ
 exact strEq_run (.inl rfl) ho a b ρ hρ.1 hρ.2
theorem GoL.strNe {t t₂ : TypeId} {x y : Operand} {a b : List UInt8} (ho : o.op = .binOp .neq t x y t₂) (hd : o.dst = some d) (hN : dOk d N = true) (hgd : o.guard = none) (hx : evO ov x = some (.string ⟨a.toArray⟩)) (hy : evO ov y = some (.string ⟨b.toArray⟩)) (g : GoL P W q N ops (tr ++ [none]) os k ((d, .bool (!decide (a = b))) :: ov) df h Q) : GoL P W q N ops tr (o :: os) k ov df h Q := by
 refine GoL.calm (u := .bool (!decide (a = b))) (l := [.string ⟨a.toArray⟩, .string ⟨b.toArray⟩]) hd hN hgd (by simp [ho, Op.operands, evOs, hx, hy]) (by simp [ho]) (by simp [ho]) rfl rfl (fun ρ hρ => ?_) g
 simp only [ho, Op.operands, List.map_cons, List.map_nil, List.cons.injEq, and_true] at hρ
 exact strEq_run (.inr rfl) ho a b ρ hρ.1 hρ.2
theorem subA_blk (a : Option Addr) (k : Nat) : blk (subA a k) = blk a := by
 cases a with
 | none => rfl
 | some x => cases x; rfl
end
end Go.Proofs.YtncbbeghkpjpbaaDoor
namespace Go.Proofs.YtncbbeghkpjpbaaDoor
section
variable {P : Program} {m : Mp} {D W : Nat → Prop} {h : AHeap} {w : World}
theorem HRel.allocRo (H : HRel P m D h w) (hf : m h.n = none) {c : List Value} {o' : Obj} {l : Loc} (hb : l.b = w.heap.size) (hs : l.slk = 0) (ho : ORel P (upd m h.n l) l (.ro c) o') : HRel P (upd m h.n l) D (h.push (.ro c)) (w.alloc o') where
 lt i k e := by
  by_cases hi : i = h.n
  · subst hi; rw [upd_same] at e; cases e; rw [alloc_size]; omega
  · rw [upd_ne m l hi] at e; have := H.lt i k e; rw [alloc_size]; omega
 typ i k c t e g := by
  by_cases hn : i = h.n
  · subst hn; rw [h.get_push_same] at g; cases g
  ·
   rw [upd_ne m l hn] at e; rw [h.get_push_ne _ (Ne.symm hn)] at g
   exact H.typ i k c t e g
 inj i j l₁ l₂ e₁ e₂ g₁ g₂ e := by
  by_cases hi : i = h.n
  ·
   by_cases hj : j = h.n
   · omega
   · subst hi; rw [upd_same] at e₁; cases e₁; rw [upd_ne m l hj] at e₂; have := H.lt j _ e₂; omega
  ·
   by_cases hj : j = h.n
   · subst hj; rw [upd_same] at e₂; cases e₂; rw [upd_ne m l hi] at e₁; have := H.lt i _ e₁; omega
   ·
    rw [upd_ne m l hi] at e₁; rw [upd_ne m l hj] at e₂
    rw [h.get_push_ne _ (Ne.symm hi)] at g₁
    exact H.inj i j _ _ e₁ e₂ g₁ (AHeap.live_eq (h.get_push_ne _ (Ne.symm hj)) g₂) e
 roS i k c e g := by
  by_cases hn : i = h.n
  · subst hn; rw [upd_same] at e; cases e; exact hs
  · rw [upd_ne m l hn] at e; rw [h.get_push_ne _ (Ne.symm hn)] at g; exact H.roS i k c e g
 obj i k x hd e g := by
  by_cases hi : i = h.n
  ·
   subst hi; rw [upd_same] at e; cases e; rw [h.get_push_same] at g; cases g
   exact ⟨o', by rw [alloc_get, if_pos hb], ho⟩
  ·
   rw [upd_ne m l hi] at e; rw [h.get_push_ne _ (Ne.symm hi)] at g
   obtain ⟨x', a, b⟩ := H.obj i k x hd e g
   have hlt := H.lt i k e
   exact ⟨x', by rw [alloc_get, if_neg (by omega)]; exact a, b.mono (upd_le hf)⟩
theorem OpRun.buildRo {o : Oper} {tm : List Value} {t : TypeId} {len : Nat} {ps : Array (Nat × Operand)} {c₀ : List Value} {e₀ : TypeId} (ho : o.op = .buildSlice t len ps) (he : aBuildSlice P t len (ps.toList.map fun p => (p.1, evalT tm p.2)) = some (.cells c₀ e₀)) : OpRun P D W o tm h (.slice (some ⟨h.n, 0, none⟩) len len) (h.push (.ro c₀)) :=
 .ofNew (by simp [ho]) fun m w A hm hf hx H => by
  have hp := parts_rel (m := m) (A := A) (tm := tm) (ps := ps) (by simpa [ho, Op.operands] using hx)
  unfold aBuildSlice at he
  split at he
  ·
   rename_i e hu
   split at he
   ·
    rename_i size hs
    split at he
    ·
     rename_i hle
     split at he
     ·
      rename_i z hz
      simp only [Option.map_eq_some_iff] at he
      obtain ⟨c, hc, he⟩ := he
      cases he
      obtain ⟨hzr, hzs⟩ := aZeros_rel hz m
      obtain ⟨c', e1, e2⟩ := fill_rel _ _ _ _ _ _ hp.1 hp.2 hzr hc
      have e3 : (ps.map fun x => (x.1, A.eval x.2)).toList = ps.toList.map fun p => (p.1, A.eval p.2) := by simp
      refine ⟨.slice (some ⟨w.heap.size, 0, none⟩) len len, .cells c' e₀ (0, 0), locNew w size c₀.length 0, w, rfl, rfl, rfl, rfl, rfl, ?_, H.allocRo hf rfl rfl (.ro rfl fun i v ei => ?_), ?_⟩
      · exact .slice (l := locNew w size c₀.length 0) (upd_same _ _ _) (.inl rfl)
      ·
       obtain ⟨v', a, b⟩ := e2.get (v := v) (by simpa using ei)
       exact ⟨v', by simpa [locNew] using a, b.mono (upd_le hf)⟩
      ·
       have hle' : ¬ len * size > 2 ^ 24 := by omega
       simp only [execOp, ho, Instr.buildSlice, Sem.run_bind, run_under hu, Result.andThen_ok, run_sizeOf hs, e3, if_neg hle', Sem.run_pure]
       rcases aZeros_run hz w with ⟨h0, rfl⟩ | ⟨h0, z', hz1, hz2⟩
       ·
        have e4 : Instr.fill (fun i => some (i * size, size)) #[] (ps.toList.map fun p => (p.1, A.eval p.2)) = some c' := e1
        simp [h0, e4, newRow, World.alloc_eq, map_range0]
       · simp [h0, hz1, hz2, e1, newRow, World.alloc_eq]
     · cases he
    · cases he
   · cases he
  · cases he
end
def Ro (h : AHeap) (a : Option Addr) : Prop := ∃ b o c, a = some ⟨b, o, none⟩ ∧ h.get b = some (.ro c)
theorem Ro.same {h h' : AHeap} {a : Option Addr} (k : Ro h a) (s : Same h h') : Ro h' a := let ⟨b, o, c, e, g⟩ := k; ⟨b, o, c, e, s.get g⟩
section
variable {P : Program} {W : Nat → Prop} {q : Bool} {N : Nat} {k : List It} {ov : Ov} {df : List Nat} {h : AHeap} {Q : PQ} {ops : Array Oper} {os : List Oper} {o : Oper} {d : Nat} {b₀ : Bool} {tr : List (Option LE)}
theorem S.buildRo {t e : TypeId} {len sz : Nat} {z : Value} {ps : Array (Nat × Operand)} {vs : List (Nat × Value)} {c : List Value} (ho : o.op = .buildSlice t len ps) [hs : BS P t e sz z] (hp : evPs ov ps.toList = some vs) (hl : len * sz ≤ 16777216) (hf : fillL (fun i => some (i * sz, sz)) ((List.replicate len (Value.cells z).toList).flatten) vs = some c) : ∀ tm, Rp ov tm → OpOk P o tm h ⟨(.slice (some ⟨h.n, 0, none⟩) len len), (h.push (.ro c)), [], [], false, false⟩ := fun tm hr => .new fun D W => OpRun.buildRo ho (by rw [evPs_eq hr hp]; exact hs.h _ _ _ hl hf)
theorem Rv.newRo (P : Program) (h : AHeap) (c : List Value) {sz len : Nat} (hc : c.length = len * sz) : Rv P (h.push (.ro c)) sz (Option.some ⟨h.n, 0, none⟩) len len c := Rv.mk (.inr (AHeap.get_push_same h _)) (by simp [hc]) (Nat.le_refl _) (by simp [← hc])
theorem GoR.buildRo {t e : TypeId} {len sz : Nat} {z : Value} {ps : Array (Nat × Operand)} {vs : List (Nat × Value)} {c : List Value} (ho : o.op = .buildSlice t len ps) (hd : o.dst = some d) (hN : dOk d N = true) (hgd : o.guard = none) [hs : BS P t e sz z] (hp : evPs ov ps.toList = some vs) (hl : len * sz ≤ 16777216) (hf : fillL (fun i => some (i * sz, sz)) ((List.replicate len (Value.cells z).toList).flatten) vs = some c) (hc : c.length = len * sz)
  (g : ∀ a h', Rv P h' sz a len len c → Ro h' a → Own h.n a → Same h h' → h'.n = h.n + 1 → GoR P W q N ops b₀ os k ((d, .slice a len len) :: ov) df h' Q) : GoR P W q N ops b₀ (o :: os) k ov df h Q :=
 GoR.step (r := ⟨_, _, [], [], false, false⟩) hgd hd hN (S.buildRo ho hp hl hf) (.inr rfl) (fun i hi => by cases hi) (g _ _ (Rv.newRo P h c hc) ⟨_, _, _, rfl, AHeap.get_push_same h _⟩ (Own.mk (Nat.le_refl _)) ((Same.refl h).push _) rfl)
theorem GoL.buildRo {t e : TypeId} {len sz : Nat} {z : Value} {ps : Array (Nat × Operand)} {vs : List (Nat × Value)} {c : List Value} (ho : o.op = .buildSlice t len ps) (hd : o.dst = some d) (hN : dOk d N = true) (hgd : o.guard = none) [hs : BS P t e sz z] (hp : evPs ov ps.toList = some vs) (hl : len * sz ≤ 16777216) (hf : fillL (fun i => some (i * sz, sz)) ((List.replicate len (Value.cells z).toList).flatten) vs = some c) (hc : c.length = len * sz)
  (g : ∀ a h', Rv P h' sz a len len c → Ro h' a → Own h.n a → Same h h' → h'.n = h.n + 1 → GoL P W q N ops (tr ++ [some ⟨h.n, h.n + 1, [], [], false, false⟩]) os k ((d, .slice a len len) :: ov) df h' Q) : GoL P W q N ops tr (o :: os) k ov df h Q :=
 GoL.step (r := ⟨_, _, [], [], false, false⟩) (some ⟨h.n, h.n + 1, [], [], false, false⟩) ⟨rfl, rfl, rfl, rfl, rfl, rfl⟩ hgd hd hN (S.buildRo ho hp hl hf) (fun i hi => by cases hi) (g _ _ (Rv.newRo P h c hc) ⟨_, _, _, rfl, AHeap.get_push_same h _⟩ (Own.mk (Nat.le_refl _)) ((Same.refl h).push _) rfl)
end
end Go.Proofs.YtncbbeghkpjpbaaDoor
namespace Go.Proofs.YtncbbeghkpjpbaaDoor
section
variable {P : Program}
def eqFieldsB (P : Program) (xs ys : Array Value) : List Field → Option Bool
 | [] => some true
 | f :: fs => match decide (f.name = "_") with
  | true => eqFieldsB P xs ys fs
  | false => match aPart P f.type xs f.offset, aPart P f.type ys f.offset, P.underlying f.type with
   | some a, some b, some d => match Instr.sameNow d a b, eqFieldsB P xs ys fs with
    | some r, some rs => some (r && rs)
    | _, _ => none
   | _, _, _ => none
theorem eqFieldsB_run {xs ys : Array Value} (hx : flatB (.agg xs) = true) (hy : flatB (.agg ys) = true) (w : World) (d : Nat) : ∀ {fs : List Field} {b : Bool}, eqFieldsB P xs ys fs = some b → (Op.eqFields (d + 1) xs ys fs).run P w = .ok b w
 | [], b, h => by
  simp only [eqFieldsB, Option.some.injEq] at h
  subst h
  simp [Op.eqFields]
 | f :: fs, b, h => by
  simp only [eqFieldsB] at h
  simp only [Op.eqFields]
  split at h
  ·
   rename_i hn
   have hn' : f.name = "_" := of_decide_eq_true hn
   rw [if_neg (by simp [hn'])]
   exact eqFieldsB_run hx hy w d h
  ·
   rename_i hn
   have hn' : f.name ≠ "_" := of_decide_eq_false hn
   rw [if_pos hn']
   split at h
   ·
    rename_i a c dd ha hc hd
    split at h
    ·
     rename_i r rs hr hrs
     cases h
     have ih := eqFieldsB_run hx hy w d hrs
     have fx : ∀ (cs : Array Value), flatB (.agg cs) = true → ARel (fun _ => none) cs cs := fun cs hc => ⟨rfl, fun i v v' e e' => by
      rw [e] at e'; cases e'
      have := VRel.flat (fun _ => none) hc
      cases this with
      | agg h1 h3 => exact h3 i _ _ e e⟩
     obtain ⟨a', ra, va⟩ := aPart_run ha (fx xs hx) w
     obtain ⟨c', rc, vc⟩ := aPart_run hc (fx ys hy) w
     have key : (Op.equalIn (d + 1) f.type a' c').run P w = .ok r w := by
      cases dd <;> cases a <;> cases c <;> simp [Instr.sameNow] at hr <;> cases va <;> cases vc <;> simp_all [Op.equalIn, run_under hd]
     simp only [Sem.run_bind, ra, rc, key, Result.andThen_ok]
     cases r with
     | true => simpa using ih
     | false => simp
    · cases h
   · cases h
def aStructEq (P : Program) (t : TypeId) (xs ys : Array Value) : Option Bool := match P.stoodInHeld t, P.eqGuardType P.depth t, P.underlying t with
 | false, false, some (.struct fs) => eqFieldsB P xs ys fs.toList
 | _, _, _ => none
class SEq (P : Program) (t : TypeId) (xs ys : List Value) (b : outParam Bool) : Prop where h : aStructEq P t xs.toArray ys.toArray = some b
theorem OpRun.structEq {D W : Nat → Prop} {o : Oper} {tm : List Value} {h : AHeap} {op : BinOp} {t t₂ : TypeId} {x y : Operand} {xs ys : Array Value} {b : Bool} (ho : o.op = .binOp op t x y t₂) (hop : op = .eql ∨ op = .neq) (ex : evalT tm x = .agg xs) (ey : evalT tm y = .agg ys) (fx : flatB (.agg xs) = true) (fy : flatB (.agg ys) = true) (he : aStructEq P t xs ys = some b) : OpRun P D W o tm h (.bool (if op = .eql then b else !b)) h :=
 .ofPure (by simp [ho]) fun m w A hm hx H => by
  have h1 := hx x (by simp [ho, Op.operands])
  have h2 := hx y (by simp [ho, Op.operands])
  rw [ex] at h1
  rw [ey] at h2
  have e1 := VRel.eq_of_flat h1 fx
  have e2 := VRel.eq_of_flat h2 fy
  unfold aStructEq at he
  split at he
  ·
   rename_i fs hs hg hu
   have hf : P.fieldsOf t = fs := by simp [Program.fieldsOf, hu]
   have hr := eqFieldsB_run fx fy w 9998 he
   rw [← hf] at hr
   have hq := (run_equalIn_agg (P := P) w 9999 t xs ys (by rw [hf]; exact hu) hs).trans hr
   refine ⟨_, .bool _, ?_⟩
   simp only [execOp, ho, e1, e2]
   rcases hop with rfl | rfl
   · simp [run_eqGuard_agg w .eql t x y xs ys hg, run_eql_struct w t xs ys, hq]
   · simp [run_eqGuard_agg w .neq t x y xs ys hg, run_neq_struct w t xs ys, hq]
  · cases he
variable {W : Nat → Prop} {q : Bool} {N : Nat} {k : List It} {ov : Ov} {df : List Nat} {h : AHeap} {Q : PQ} {ops : Array Oper} {os : List Oper} {o : Oper} {d : Nat} {b₀ : Bool} {tr : List (Option LE)}
theorem S.structEq {op : BinOp} {t t₂ : TypeId} {x y : Operand} {xs ys : List Value} {b : Bool} (ho : o.op = .binOp op t x y t₂) (hop : op = .eql ∨ op = .neq) (hx : evO ov x = some (.agg xs.toArray)) (hy : evO ov y = some (.agg ys.toArray)) [he : SEq P t xs ys b] (fx : flatB (.agg xs.toArray) = true) (fy : flatB (.agg ys.toArray) = true) : ∀ tm, Rp ov tm → OpOk P o tm h ⟨.bool (if op = .eql then b else !b), h, [], [], false, true⟩ := fun tm hr => OpOk.pure fun D W => OpRun.structEq ho hop (evO_eq hr hx) (evO_eq hr hy) fx fy he.h
theorem GoR.structEq {t t₂ : TypeId} {x y : Operand} {xs ys : List Value} {b : Bool} (ho : o.op = .binOp .eql t x y t₂) (hd : o.dst = some d) (hN : dOk d N = true) (hgd : o.guard = none) (hx : evO ov x = some (.agg xs.toArray)) (hy : evO ov y = some (.agg ys.toArray)) [he : SEq P t xs ys b] (fx : flatB (.agg xs.toArray) = true) (fy : flatB (.agg ys.toArray) = true) (g : GoR P W q N ops b₀ os k ((d, .bool b) :: ov) df h Q) : GoR P W q N ops b₀ (o :: os) k ov df h Q :=
 GoR.step (r := ⟨.bool b, h, [], [], false, true⟩) hgd hd hN (S.structEq (b := b) ho (.inl rfl) hx hy fx fy) (.inr rfl) (fun i hi => by cases hi) g
theorem GoR.structNe {t t₂ : TypeId} {x y : Operand} {xs ys : List Value} {b : Bool} (ho : o.op = .binOp .neq t x y t₂) (hd : o.dst = some d) (hN : dOk d N = true) (hgd : o.guard = none) (hx : evO ov x = some (.agg xs.toArray)) (hy : evO ov y = some (.agg ys.toArray)) [he : SEq P t xs ys b] (fx : flatB (.agg xs.toArray) = true) (fy : flatB (.agg ys.toArray) = true) (g : GoR P W q N ops b₀ os k ((d, .bool (!b)) :: ov) df h Q) : GoR P W q N ops b₀ (o :: os) k ov df h Q :=
 GoR.step (r := ⟨.bool (!b), h, [], [], false, true⟩) hgd hd hN (S.structEq (b := b) ho (.inr rfl) hx hy fx fy) (.inr rfl) (fun i hi => by cases hi) g
end
end Go.Proofs.YtncbbeghkpjpbaaDoor