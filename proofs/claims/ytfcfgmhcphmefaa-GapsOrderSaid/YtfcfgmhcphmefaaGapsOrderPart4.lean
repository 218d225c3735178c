/- What the law leans on, part 4. No conditions. -/
import Derived.Laws.StructEq
import Derived.Maps.RangeRun
import Derived.SizedLaws
import Derived.Laws.Externs
import GoSem.Extern.MapsClone
import Derived.Laws.Small
import Derived.Test.YtfcfgmhcphmefaaGapsOrderPart3
set_option linter.unusedVariables false
set_option linter.unusedSimpArgs false
namespace Go.Proofs.Ytfcfgmhcphmefaa
section
variable {P : Program}
def eqFieldsB (P : Program) (xs ys : Array Value) : List Field → Option Bool
  | [] => some true
  | f :: fs => match decide (f.name = "_") with
    | true => eqFieldsB P xs ys fs
    | false => match aPart P f.type xs f.offset, aPart P f.type ys f.offset, P.underlying f.type with
      | some a, some b, some d => match Instr.sameNow d a b, eqFieldsB P xs ys fs with
        | some r, some rs => some (r && rs)
        | _, _ => none
      | _, _, _ => none
theorem eqFieldsB_run {xs ys : Array Value} (hx : flatB (.agg xs) = true) (hy : flatB (.agg ys) = true) (w : World) (d : Nat) : ∀ {fs : List Field} {b : Bool}, eqFieldsB P xs ys fs = some b → (Op.eqFields (d + 1) xs ys fs).run P w = .ok b w
  | [], b, h => by
    simp only [eqFieldsB, Option.some.injEq] at h
    subst h
    simp [Op.eqFields]
  | f :: fs, b, h => by
    simp only [eqFieldsB] at h
    simp only [Op.eqFields]
    split at h
    · rename_i hn
      have hn' : f.name = "_" := of_decide_eq_true hn
      rw [if_neg (by simp [hn'])]
      exact eqFieldsB_run hx hy w d h
    · rename_i hn
      have hn' : f.name ≠ "_" := of_decide_eq_false hn
      rw [if_pos hn']
      split at h
      · rename_i a c dd ha hc hd
        split at h
        · rename_i r rs hr hrs
          cases h
          have ih := eqFieldsB_run hx hy w d hrs
          have fx : ∀ (cs : Array Value), flatB (.agg cs) = true → ARel (fun _ => none) cs cs := fun cs hc => ⟨rfl, fun i v v' e e' => by
            rw [e] at e'; cases e'
            have := VRel.flat (fun _ => none) hc
            cases this with
            | agg h1 h3 => exact h3 i _ _ e e⟩
          obtain ⟨a', ra, va⟩ := aPart_run ha (fx xs hx) w
          obtain ⟨c', rc, vc⟩ := aPart_run hc (fx ys hy) w
          have key : (Op.equalIn (d + 1) f.type a' c').run P w = .ok r w := by
            cases dd <;> cases a <;> cases c <;> simp [Instr.sameNow] at hr <;> cases va <;> cases vc <;> simp_all [Op.equalIn, run_under hd]
          simp only [Sem.run_bind, ra, rc, key, Result.andThen_ok]
          cases r with
          | true => simpa using ih
          | false => simp
        · cases h
      · cases h
def aStructEq (P : Program) (t : TypeId) (xs ys : Array Value) : Option Bool := match P.stoodInHeld t, P.eqGuardType P.depth t, P.underlying t with
  | false, false, some (.struct fs) => eqFieldsB P xs ys fs.toList
  | _, _, _ => none
class SEq (P : Program) (t : TypeId) (xs ys : List Value) (b : outParam Bool) : Prop where h : aStructEq P t xs.toArray ys.toArray = some b
theorem OpRun.structEq {D W : Nat → Prop} {o : Oper} {tm : List Value} {h : AHeap} {op : BinOp} {t t₂ : TypeId} {x y : Operand} {xs ys : Array Value} {b : Bool} (ho : o.op = .binOp op t x y t₂) (hop : op = .eql ∨ op = .neq) (ex : evalT tm x = .agg xs) (ey : evalT tm y = .agg ys) (fx : flatB (.agg xs) = true) (fy : flatB (.agg ys) = true) (he : aStructEq P t xs ys = some b) : OpRun P D W o tm h (.bool (if op = .eql then b else !b)) h :=
  .ofPure (by simp [ho]) fun m w A hm hx H => by
    have h1 := hx x (by simp [ho, Op.operands])
    have h2 := hx y (by simp [ho, Op.operands])
    rw [ex] at h1
    rw [ey] at h2
    have e1 := VRel.eq_of_flat h1 fx
    have e2 := VRel.eq_of_flat h2 fy
    unfold aStructEq at he
    split at he
    · rename_i fs hs hg hu
      have hf : P.fieldsOf t = fs := by simp [Program.fieldsOf, hu]
      have hr := eqFieldsB_run fx fy w 9998 he
      rw [← hf] at hr
      have hq := (run_equalIn_agg (P := P) w 9999 t xs ys (by rw [hf]; exact hu) hs).trans hr
      refine ⟨_, .bool _, ?_⟩
      simp only [execOp, ho, e1, e2]
      rcases hop with rfl | rfl
      · simp [run_eqGuard_agg w .eql t x y xs ys hg, run_eql_struct w t xs ys, hq]
      · simp [run_eqGuard_agg w .neq t x y xs ys hg, run_neq_struct w t xs ys, hq]
    · cases he
variable {W : Nat → Prop} {q : Bool} {N : Nat} {k : List It} {ov : Ov} {df : List Nat} {h : AHeap} {Q : PQ} {ops : Array Oper} {os : List Oper} {o : Oper} {d : Nat} {b₀ : Bool} {tr : List (Option LE)}
theorem S.structEq {op : BinOp} {t t₂ : TypeId} {x y : Operand} {xs ys : List Value} {b : Bool} (ho : o.op = .binOp op t x y t₂) (hop : op = .eql ∨ op = .neq) (hx : evO ov x = some (.agg xs.toArray)) (hy : evO ov y = some (.agg ys.toArray)) [he : SEq P t xs ys b] (fx : flatB (.agg xs.toArray) = true) (fy : flatB (.agg ys.toArray) = true) : ∀ tm, Rp ov tm → OpOk P o tm h ⟨.bool (if op = .eql then b else !b), h, [], [], false, true⟩ := fun tm hr => OpOk.pure fun D W => OpRun.structEq ho hop (evO_eq hr hx) (evO_eq hr hy) fx fy he.h
theorem GoR.structEq {t t₂ : TypeId} {x y : Operand} {xs ys : List Value} {b : Bool} (ho : o.op = .binOp .eql t x y t₂) (hd : o.dst = some d) (hN : dOk d N = true) (hgd : o.guard = none) (hx : evO ov x = some (.agg xs.toArray)) (hy : evO ov y = some (.agg ys.toArray)) [he : SEq P t xs ys b] (fx : flatB (.agg xs.toArray) = true) (fy : flatB (.agg ys.toArray) = true) (g : GoR P W q N ops b₀ os k ((d, .bool b) :: ov) df h Q) : GoR P W q N ops b₀ (o :: os) k ov df h Q :=
  GoR.step (r := ⟨.bool b, h, [], [], false, true⟩) hgd hd hN (S.structEq (b := b) ho (.inl rfl) hx hy fx fy) (.inr rfl) (fun i hi => by cases hi) g
theorem GoR.structNe {t t₂ : TypeId} {x y : Operand} {xs ys : List Value} {b : Bool} (ho : o.op = .binOp .neq t x y t₂) (hd : o.dst = some d) (hN : dOk d N = true) (hgd : o.guard = none) (hx : evO ov x = some (.agg xs.toArray)) (hy : evO ov y = some (.agg ys.toArray)) [he : SEq P t xs ys b] (fx : flatB (.agg xs.toArray) = true) (fy : flatB (.agg ys.toArray) = true) (g : GoR P W q N ops b₀ os k ((d, .bool (!b)) :: ov) df h Q) : GoR P W q N ops b₀ (o :: os) k ov df h Q :=
  GoR.step (r := ⟨.bool (!b), h, [], [], false, true⟩) hgd hd hN (S.structEq (b := b) ho (.inr rfl) hx hy fx fy) (.inr rfl) (fun i hi => by cases hi) g
end
end Go.Proofs.Ytfcfgmhcphmefaa
namespace Go.Proofs.Ytfcfgmhcphmefaa
theorem Rv.pushPut {P : Program} {h : AHeap} {sz len cap : Nat} {a : Option Addr} {cs : List Value} (k : Rv P h sz a len cap cs) (A : AObj) (B : Option AObj) : Rv P ((h.push A).put h.n B) sz a len cap cs := k.same (((Same.refl h).push A).put (Nat.le_refl _) B)
section
variable {P : Program} {W : Nat → Prop} {q : Bool} {N : Nat} {k : List It} {ov : Ov} {df : List Nat} {h : AHeap} {Q : PQ} {id : Nat} {ops : Array Oper} {os : List Oper} {o : Oper} {d : Nat} {b₀ : Bool} {tr : List (Option LE)}
theorem GoR.wanted' {j t : Nat} {w B : Bool} {oj : Oper} (hg : o.guard = some (j, w)) (hj : ops[j]? = some oj) (hdj : oj.dst = some t) (hv : ov.find t = some (.bool B)) (hB : B = w := by first | with_reducible rfl | with_reducible assumption | (with_reducible refine @decide_eq_true _ _ ?_; first | with_reducible rfl | omega) | (with_reducible refine @decide_eq_false _ _ ?_; omega) | with_reducible exact Bool.not_false | with_reducible exact Bool.not_true | (simp; fail_if_success focus skip) | (simp; omega)) (g : GoR P W q N ops b₀ ({ o with guard := none } :: os) k ov df h Q) : GoR P W q N ops b₀ (o :: os) k ov df h Q := GoR.wanted hg hj hdj hv hB g
theorem GoL.wanted' {j t : Nat} {w B : Bool} {oj : Oper} (hg : o.guard = some (j, w)) (hj : ops[j]? = some oj) (hdj : oj.dst = some t) (hv : ov.find t = some (.bool B)) (hB : B = w := by first | with_reducible rfl | with_reducible assumption | (with_reducible refine @decide_eq_true _ _ ?_; first | with_reducible rfl | omega) | (with_reducible refine @decide_eq_false _ _ ?_; omega) | with_reducible exact Bool.not_false | with_reducible exact Bool.not_true | (simp; fail_if_success focus skip) | (simp; omega)) (g : GoL P W q N ops tr ({ o with guard := none } :: os) k ov df h Q) : GoL P W q N ops tr (o :: os) k ov df h Q := GoL.wanted hg hj hdj hv hB g
theorem GoR.unwanted' {b : Bool} {j t : Nat} {w B : Bool} {oj : Oper} (hg : o.guard = some (j, w)) (hj : ops[j]? = some oj) (hdj : oj.dst = some t) (hv : ov.find t = some (.bool B)) (hB : B = !w := by first | with_reducible rfl | with_reducible assumption | (with_reducible refine @decide_eq_true _ _ ?_; first | with_reducible rfl | omega) | (with_reducible refine @decide_eq_false _ _ ?_; omega) | with_reducible exact Bool.not_false | with_reducible exact Bool.not_true | (simp; fail_if_success focus skip) | (simp; omega)) (hd : o.dst = some d) (hN : dOk d N = true) (g : GoR P W q N ops b os k ((d, undef) :: ov) df h Q) : GoR P W q N ops b (o :: os) k ov df h Q := GoR.unwanted hg hj hdj hv hB hd hN g
theorem GoL.unwanted' {tr : List (Option LE)} {j t : Nat} {w B : Bool} {oj : Oper} (hg : o.guard = some (j, w)) (hj : ops[j]? = some oj) (hdj : oj.dst = some t) (hv : ov.find t = some (.bool B)) (hB : B = !w := by first | with_reducible rfl | with_reducible assumption | (with_reducible refine @decide_eq_true _ _ ?_; first | with_reducible rfl | omega) | (with_reducible refine @decide_eq_false _ _ ?_; omega) | with_reducible exact Bool.not_false | with_reducible exact Bool.not_true | (simp; fail_if_success focus skip) | (simp; omega)) (hd : o.dst = some d) (hN : dOk d N = true) (g : GoL P W q N ops (tr ++ [none]) os k ((d, undef) :: ov) df h Q) : GoL P W q N ops tr (o :: os) k ov df h Q := GoL.unwanted hg hj hdj hv hB hd hN g
theorem GoR.pickE' {c x y : Operand} {B : Bool} {u v : Value} (ho : o.op = .pick c x y) (hd : o.dst = some d) (hN : dOk d N = true) (hgd : o.guard = none) (hc : evO ov c = some (.bool B)) (hB : B = true := by first | with_reducible rfl | with_reducible assumption | (with_reducible refine @decide_eq_true _ _ ?_; first | with_reducible rfl | omega) | (with_reducible refine @decide_eq_false _ _ ?_; omega) | with_reducible exact Bool.not_false | with_reducible exact Bool.not_true | (simp; fail_if_success focus skip) | (simp; omega)) (hx : evO ov x = some u) (hy : evO ov y = some v) (g : GoR P W q N ops b₀ os k ((d, u) :: ov) df h Q) : GoR P W q N ops b₀ (o :: os) k ov df h Q := GoR.pickE ho hd hN hgd hc hB hx hy g
theorem GoL.pickE' {c x y : Operand} {B : Bool} {u v : Value} (ho : o.op = .pick c x y) (hd : o.dst = some d) (hN : dOk d N = true) (hgd : o.guard = none) (hc : evO ov c = some (.bool B)) (hB : B = true := by first | with_reducible rfl | with_reducible assumption | (with_reducible refine @decide_eq_true _ _ ?_; first | with_reducible rfl | omega) | (with_reducible refine @decide_eq_false _ _ ?_; omega) | with_reducible exact Bool.not_false | with_reducible exact Bool.not_true | (simp; fail_if_success focus skip) | (simp; omega)) (hx : evO ov x = some u) (hy : evO ov y = some v) (g : GoL P W q N ops (tr ++ [none]) os k ((d, u) :: ov) df h Q) : GoL P W q N ops tr (o :: os) k ov df h Q := GoL.pickE ho hd hN hgd hc hB hx hy g
theorem GoR.pickN' {c x y : Operand} {B : Bool} {u v : Value} (ho : o.op = .pick c x y) (hd : o.dst = some d) (hN : dOk d N = true) (hgd : o.guard = none) (hc : evO ov c = some (.bool B)) (hB : B = false := by first | with_reducible rfl | with_reducible assumption | (with_reducible refine @decide_eq_true _ _ ?_; first | with_reducible rfl | omega) | (with_reducible refine @decide_eq_false _ _ ?_; omega) | with_reducible exact Bool.not_false | with_reducible exact Bool.not_true | (simp; fail_if_success focus skip) | (simp; omega)) (hx : evO ov x = some u) (hy : evO ov y = some v) (g : GoR P W q N ops b₀ os k ((d, v) :: ov) df h Q) : GoR P W q N ops b₀ (o :: os) k ov df h Q := GoR.pickN ho hd hN hgd hc hB hx hy g
theorem GoL.pickN' {c x y : Operand} {B : Bool} {u v : Value} (ho : o.op = .pick c x y) (hd : o.dst = some d) (hN : dOk d N = true) (hgd : o.guard = none) (hc : evO ov c = some (.bool B)) (hB : B = false := by first | with_reducible rfl | with_reducible assumption | (with_reducible refine @decide_eq_true _ _ ?_; first | with_reducible rfl | omega) | (with_reducible refine @decide_eq_false _ _ ?_; omega) | with_reducible exact Bool.not_false | with_reducible exact Bool.not_true | (simp; fail_if_success focus skip) | (simp; omega)) (hx : evO ov x = some u) (hy : evO ov y = some v) (g : GoL P W q N ops (tr ++ [none]) os k ((d, v) :: ov) df h Q) : GoL P W q N ops tr (o :: os) k ov df h Q := GoL.pickN ho hd hN hgd hc hB hx hy g
theorem GoR.load' {t ct : TypeId} {x : Operand} {b off : Nat} {c : List Value} {v : Value} (ho : o.op = .load t x) (hd : o.dst = some d) (hN : dOk d N = true) (hgd : o.guard = none) (hx : evO ov x = some (.pointer (some ⟨b, off, none⟩))) [hc : CT P t none] (hg : h.get b = some (.cells c ct) := by (first | assumption | exact AHeap.get_push_same _ _ | ((repeat first | exact AHeap.get_push_same _ _ | assumption | refine get_push_lt ?_ | exact AHeap.get_put_same _ (by first | omega | (simp only [AHeap.n_push, AHeap.n_put]; omega)) _ | exact get_put_self (by assumption) | apply get_put_self | refine get_put_other (by first | omega | (simp only [AHeap.n_push, AHeap.n_put]; omega)) ?_ | refine Same.get (by assumption) ?_ | refine Keeps.get (by assumption) ?_ (fun hi => by have hx := Own.out (by assumption) hi; omega)) ; fail_if_success focus skip) | fail)) (hv : c[off]? = some v := by (first | rfl | assumption | (simp only [List.getElem?_cons_zero, List.getElem?_cons_succ, Int.toNat_natCast, Nat.mul_one, Nat.add_zero, Nat.zero_add]; first | rfl | assumption))) (g : GoR P W q N ops b₀ os k ((d, v) :: ov) df h Q) : GoR P W q N ops b₀ (o :: os) k ov df h Q := GoR.load ho hd hN hgd hx hg hv g
theorem GoL.load' {t ct : TypeId} {x : Operand} {b off : Nat} {c : List Value} {v : Value} (ho : o.op = .load t x) (hd : o.dst = some d) (hN : dOk d N = true) (hgd : o.guard = none) (hx : evO ov x = some (.pointer (some ⟨b, off, none⟩))) [hc : CT P t none] (hg : h.get b = some (.cells c ct) := by (first | assumption | exact AHeap.get_push_same _ _ | ((repeat first | exact AHeap.get_push_same _ _ | assumption | refine get_push_lt ?_ | exact AHeap.get_put_same _ (by first | omega | (simp only [AHeap.n_push, AHeap.n_put]; omega)) _ | exact get_put_self (by assumption) | apply get_put_self | refine get_put_other (by first | omega | (simp only [AHeap.n_push, AHeap.n_put]; omega)) ?_ | refine Same.get (by assumption) ?_ | refine Keeps.get (by assumption) ?_ (fun hi => by have hx := Own.out (by assumption) hi; omega)) ; fail_if_success focus skip) | fail)) (hv : c[off]? = some v := by (first | rfl | assumption | (simp only [List.getElem?_cons_zero, List.getElem?_cons_succ, Int.toNat_natCast, Nat.mul_one, Nat.add_zero, Nat.zero_add]; first | rfl | assumption))) (g : GoL P W q N ops (tr ++ [(some ⟨h.n, h.n, [b], [], false, true⟩)]) os k ((d, v) :: ov) df h Q) : GoL P W q N ops tr (o :: os) k ov df h Q := GoL.load ho hd hN hgd hx hg hv g
theorem GoR.loadA' {t ct : TypeId} {x : Operand} {b off n : Nat} {c l : List Value} (ho : o.op = .load t x) (hd : o.dst = some d) (hN : dOk d N = true) (hgd : o.guard = none) (hx : evO ov x = some (.pointer (some ⟨b, off, none⟩))) [hc : CT P t (some n)] (hg : h.get b = some (.cells c ct) := by (first | assumption | exact AHeap.get_push_same _ _ | ((repeat first | exact AHeap.get_push_same _ _ | assumption | refine get_push_lt ?_ | exact AHeap.get_put_same _ (by first | omega | (simp only [AHeap.n_push, AHeap.n_put]; omega)) _ | exact get_put_self (by assumption) | apply get_put_self | refine get_put_other (by first | omega | (simp only [AHeap.n_push, AHeap.n_put]; omega)) ?_ | refine Same.get (by assumption) ?_ | refine Keeps.get (by assumption) ?_ (fun hi => by have hx := Own.out (by assumption) hi; omega)) ; fail_if_success focus skip) | fail)) (hv : cutL off n c = some l) (g : GoR P W q N ops b₀ os k ((d, .agg l.toArray) :: ov) df h Q) : GoR P W q N ops b₀ (o :: os) k ov df h Q := GoR.loadA ho hd hN hgd hx hg hv g
theorem GoL.loadA' {t ct : TypeId} {x : Operand} {b off n : Nat} {c l : List Value} (ho : o.op = .load t x) (hd : o.dst = some d) (hN : dOk d N = true) (hgd : o.guard = none) (hx : evO ov x = some (.pointer (some ⟨b, off, none⟩))) [hc : CT P t (some n)] (hg : h.get b = some (.cells c ct) := by (first | assumption | exact AHeap.get_push_same _ _ | ((repeat first | exact AHeap.get_push_same _ _ | assumption | refine get_push_lt ?_ | exact AHeap.get_put_same _ (by first | omega | (simp only [AHeap.n_push, AHeap.n_put]; omega)) _ | exact get_put_self (by assumption) | apply get_put_self | refine get_put_other (by first | omega | (simp only [AHeap.n_push, AHeap.n_put]; omega)) ?_ | refine Same.get (by assumption) ?_ | refine Keeps.get (by assumption) ?_ (fun hi => by have hx := Own.out (by assumption) hi; omega)) ; fail_if_success focus skip) | fail)) (hv : cutL off n c = some l) (g : GoL P W q N ops (tr ++ [some ⟨h.n, h.n, [b], [], false, true⟩]) os k ((d, .agg l.toArray) :: ov) df h Q) : GoL P W q N ops tr (o :: os) k ov df h Q := GoL.loadA ho hd hN hgd hx hg hv g
theorem GoR.loadV' {t : TypeId} {x : Operand} {kv : Nat} {v : Value} {sz : Nat} {a : Option Addr} {len cap : Nat} {cs : List Value} (ho : o.op = .load t x) (hd : o.dst = some d) (hN : dOk d N = true) (hgd : o.guard = none) (hx : evO ov x = some (ptA a kv)) [hc : CT P t none] (hS : Rv P h sz a len cap cs := by first | assumption | exact Rv.pushPut (by assumption) _ _ | exact Rv.pushPut (Sv.rv (by assumption)) _ _ | exact Rv.same (h := h) (by assumption) (by assumption) | exact Sv.rv (by assumption) | ((repeat first | assumption | refine Rv.pushPut ?_ _ _ | refine Rv.push ?_ _ | refine Rv.same ?_ (by assumption) | exact Sv.rv (by assumption)) ; fail_if_success focus skip) | fail) (hv : cs[kv]? = some v := by (first | rfl | assumption | (simp only [List.getElem?_cons_zero, List.getElem?_cons_succ, Int.toNat_natCast, Nat.mul_one, Nat.add_zero, Nat.zero_add]; first | rfl | assumption))) (g : GoR P W q N ops b₀ os k ((d, v) :: ov) df h Q) : GoR P W q N ops b₀ (o :: os) k ov df h Q := GoR.loadV ho hd hN hgd hx hS hv g
theorem GoL.loadV' {t : TypeId} {x : Operand} {kv : Nat} {v : Value} {sz : Nat} {a : Option Addr} {len cap : Nat} {cs : List Value} (ho : o.op = .load t x) (hd : o.dst = some d) (hN : dOk d N = true) (hgd : o.guard = none) (hx : evO ov x = some (ptA a kv)) [hc : CT P t none] (hS : Rv P h sz a len cap cs := by first | assumption | exact Rv.pushPut (by assumption) _ _ | exact Rv.pushPut (Sv.rv (by assumption)) _ _ | exact Rv.same (h := h) (by assumption) (by assumption) | exact Sv.rv (by assumption) | ((repeat first | assumption | refine Rv.pushPut ?_ _ _ | refine Rv.push ?_ _ | refine Rv.same ?_ (by assumption) | exact Sv.rv (by assumption)) ; fail_if_success focus skip) | fail) (hv : cs[kv]? = some v := by (first | rfl | assumption | (simp only [List.getElem?_cons_zero, List.getElem?_cons_succ, Int.toNat_natCast, Nat.mul_one, Nat.add_zero, Nat.zero_add]; first | rfl | assumption))) (g : GoL P W q N ops (tr ++ [(some ⟨h.n, h.n, (blk a), [], false, true⟩)]) os k ((d, v) :: ov) df h Q) : GoL P W q N ops tr (o :: os) k ov df h Q := GoL.loadV ho hd hN hgd hx hS hv g
theorem GoR.fieldV' {s : TypeId} {f kk kv : Nat} {x : Operand} {sz : Nat} {a : Option Addr} {len cap : Nat} {cs : List Value} (ho : o.op = .fieldAddr s x f) (hd : o.dst = some d) (hN : dOk d N = true) (hgd : o.guard = none) (hx : evO ov x = some (ptA a kv)) [hf : FO P s f kk] (hS : Rv P h sz a len cap cs := by first | assumption | exact Rv.pushPut (by assumption) _ _ | exact Rv.pushPut (Sv.rv (by assumption)) _ _ | exact Rv.same (h := h) (by assumption) (by assumption) | exact Sv.rv (by assumption) | ((repeat first | assumption | refine Rv.pushPut ?_ _ _ | refine Rv.push ?_ _ | refine Rv.same ?_ (by assumption) | exact Sv.rv (by assumption)) ; fail_if_success focus skip) | fail) (hl : kv < cs.length := by assumption) (g : GoR P W q N ops b₀ os k ((d, (ptA a (kv + kk))) :: ov) df h Q) : GoR P W q N ops b₀ (o :: os) k ov df h Q := GoR.fieldV ho hd hN hgd hx hS hl g
theorem GoL.fieldV' {s : TypeId} {f kk kv : Nat} {x : Operand} {sz : Nat} {a : Option Addr} {len cap : Nat} {cs : List Value} (ho : o.op = .fieldAddr s x f) (hd : o.dst = some d) (hN : dOk d N = true) (hgd : o.guard = none) (hx : evO ov x = some (ptA a kv)) [hf : FO P s f kk] (hS : Rv P h sz a len cap cs := by first | assumption | exact Rv.pushPut (by assumption) _ _ | exact Rv.pushPut (Sv.rv (by assumption)) _ _ | exact Rv.same (h := h) (by assumption) (by assumption) | exact Sv.rv (by assumption) | ((repeat first | assumption | refine Rv.pushPut ?_ _ _ | refine Rv.push ?_ _ | refine Rv.same ?_ (by assumption) | exact Sv.rv (by assumption)) ; fail_if_success focus skip) | fail) (hl : kv < cs.length := by assumption) (g : GoL P W q N ops (tr ++ [none]) os k ((d, (ptA a (kv + kk))) :: ov) df h Q) : GoL P W q N ops tr (o :: os) k ov df h Q := GoL.fieldV ho hd hN hgd hx hS hl g
theorem GoR.loadVN' {t : TypeId} {x : Operand} {kv n : Nat} {l : List Value} {sz : Nat} {a : Option Addr} {len cap : Nat} {cs : List Value} (ho : o.op = .load t x) (hd : o.dst = some d) (hN : dOk d N = true) (hgd : o.guard = none) (hx : evO ov x = some (ptA a kv)) [hc : CT P t (some n)] (hS : Rv P h sz a len cap cs := by first | assumption | exact Rv.pushPut (by assumption) _ _ | exact Rv.pushPut (Sv.rv (by assumption)) _ _ | exact Rv.same (h := h) (by assumption) (by assumption) | exact Sv.rv (by assumption) | ((repeat first | assumption | refine Rv.pushPut ?_ _ _ | refine Rv.push ?_ _ | refine Rv.same ?_ (by assumption) | exact Sv.rv (by assumption)) ; fail_if_success focus skip) | fail) (hl : kv + n ≤ cs.length := by assumption) (hn : 0 < n := by decide) (hv : (cs.drop kv).take n = l := by assumption) (g : GoR P W q N ops b₀ os k ((d, (.agg l.toArray)) :: ov) df h Q) : GoR P W q N ops b₀ (o :: os) k ov df h Q := GoR.loadVN ho hd hN hgd hx hS hl hn hv g
theorem GoL.loadVN' {t : TypeId} {x : Operand} {kv n : Nat} {l : List Value} {sz : Nat} {a : Option Addr} {len cap : Nat} {cs : List Value} (ho : o.op = .load t x) (hd : o.dst = some d) (hN : dOk d N = true) (hgd : o.guard = none) (hx : evO ov x = some (ptA a kv)) [hc : CT P t (some n)] (hS : Rv P h sz a len cap cs := by first | assumption | exact Rv.pushPut (by assumption) _ _ | exact Rv.pushPut (Sv.rv (by assumption)) _ _ | exact Rv.same (h := h) (by assumption) (by assumption) | exact Sv.rv (by assumption) | ((repeat first | assumption | refine Rv.pushPut ?_ _ _ | refine Rv.push ?_ _ | refine Rv.same ?_ (by assumption) | exact Sv.rv (by assumption)) ; fail_if_success focus skip) | fail) (hl : kv + n ≤ cs.length := by assumption) (hn : 0 < n := by decide) (hv : (cs.drop kv).take n = l := by assumption) (g : GoL P W q N ops (tr ++ [(some ⟨h.n, h.n, (blk a), [], false, true⟩)]) os k ((d, (.agg l.toArray)) :: ov) df h Q) : GoL P W q N ops tr (o :: os) k ov df h Q := GoL.loadVN ho hd hN hgd hx hS hl hn hv g
theorem GoR.indexN' {t : TypeId} {x y : Operand} {kk : IntKind} {i : Nat} {a : Option Addr} {len cap : Nat} {cs : List Value} (ho : o.op = .indexAddr t x y) (hd : o.dst = some d) (hN : dOk d N = true) (hgd : o.guard = none) (hx : evO ov x = some (.slice a len cap)) (hy : evO ov y = some (.int kk (i : Int))) [he : EL P t (none, 1)] (hS : Rv P h 1 a len cap cs := by first | assumption | exact Rv.pushPut (by assumption) _ _ | exact Rv.pushPut (Sv.rv (by assumption)) _ _ | exact Rv.same (h := h) (by assumption) (by assumption) | exact Sv.rv (by assumption) | ((repeat first | assumption | refine Rv.pushPut ?_ _ _ | refine Rv.push ?_ _ | refine Rv.same ?_ (by assumption) | exact Sv.rv (by assumption)) ; fail_if_success focus skip) | fail) (h1 : i < len := by first | omega | (simp only [Int.toNat_natCast] at *; omega)) (g : GoR P W q N ops b₀ os k ((d, ptA a i) :: ov) df h Q) : GoR P W q N ops b₀ (o :: os) k ov df h Q := GoR.indexN ho hd hN hgd hx hy hS h1 g
theorem GoL.indexN' {t : TypeId} {x y : Operand} {kk : IntKind} {i : Nat} {a : Option Addr} {len cap : Nat} {cs : List Value} (ho : o.op = .indexAddr t x y) (hd : o.dst = some d) (hN : dOk d N = true) (hgd : o.guard = none) (hx : evO ov x = some (.slice a len cap)) (hy : evO ov y = some (.int kk (i : Int))) [he : EL P t (none, 1)] (hS : Rv P h 1 a len cap cs := by first | assumption | exact Rv.pushPut (by assumption) _ _ | exact Rv.pushPut (Sv.rv (by assumption)) _ _ | exact Rv.same (h := h) (by assumption) (by assumption) | exact Sv.rv (by assumption) | ((repeat first | assumption | refine Rv.pushPut ?_ _ _ | refine Rv.push ?_ _ | refine Rv.same ?_ (by assumption) | exact Sv.rv (by assumption)) ; fail_if_success focus skip) | fail) (h1 : i < len := by first | omega | (simp only [Int.toNat_natCast] at *; omega)) (g : GoL P W q N ops (tr ++ [none]) os k ((d, ptA a i) :: ov) df h Q) : GoL P W q N ops tr (o :: os) k ov df h Q := GoL.indexN ho hd hN hgd hx hy hS h1 g
theorem GoR.indexNs' {t : TypeId} {x y : Operand} {kk : IntKind} {i : Nat} {sz : Nat} {a : Option Addr} {len cap : Nat} {cs : List Value} (ho : o.op = .indexAddr t x y) (hd : o.dst = some d) (hN : dOk d N = true) (hgd : o.guard = none) (hx : evO ov x = some (.slice a len cap)) (hy : evO ov y = some (.int kk (i : Int))) [he : EL P t (none, sz)] (hS : Rv P h sz a len cap cs := by first | assumption | exact Rv.pushPut (by assumption) _ _ | exact Rv.pushPut (Sv.rv (by assumption)) _ _ | exact Rv.same (h := h) (by assumption) (by assumption) | exact Sv.rv (by assumption) | ((repeat first | assumption | refine Rv.pushPut ?_ _ _ | refine Rv.push ?_ _ | refine Rv.same ?_ (by assumption) | exact Sv.rv (by assumption)) ; fail_if_success focus skip) | fail) (h1 : i < len := by first | omega | (simp only [Int.toNat_natCast] at *; omega)) (g : GoR P W q N ops b₀ os k ((d, ptA a (i * sz)) :: ov) df h Q) : GoR P W q N ops b₀ (o :: os) k ov df h Q := GoR.indexNs ho hd hN hgd hx hy hS h1 g
theorem GoL.indexNs' {t : TypeId} {x y : Operand} {kk : IntKind} {i : Nat} {sz : Nat} {a : Option Addr} {len cap : Nat} {cs : List Value} (ho : o.op = .indexAddr t x y) (hd : o.dst = some d) (hN : dOk d N = true) (hgd : o.guard = none) (hx : evO ov x = some (.slice a len cap)) (hy : evO ov y = some (.int kk (i : Int))) [he : EL P t (none, sz)] (hS : Rv P h sz a len cap cs := by first | assumption | exact Rv.pushPut (by assumption) _ _ | exact Rv.pushPut (Sv.rv (by assumption)) _ _ | exact Rv.same (h := h) (by assumption) (by assumption) | exact Sv.rv (by assumption) | ((repeat first | assumption | refine Rv.pushPut ?_ _ _ | refine Rv.push ?_ _ | refine Rv.same ?_ (by assumption) | exact Sv.rv (by assumption)) ; fail_if_success focus skip) | fail) (h1 : i < len := by first | omega | (simp only [Int.toNat_natCast] at *; omega)) (g : GoL P W q N ops (tr ++ [none]) os k ((d, ptA a (i * sz)) :: ov) df h Q) : GoL P W q N ops tr (o :: os) k ov df h Q := GoL.indexNs ho hd hN hgd hx hy hS h1 g
theorem GoR.indexV' {t : TypeId} {x y : Operand} {kk : IntKind} {i : Int} {sz : Nat} {a : Option Addr} {len cap : Nat} {cs : List Value} (ho : o.op = .indexAddr t x y) (hd : o.dst = some d) (hN : dOk d N = true) (hgd : o.guard = none) (hx : evO ov x = some (.slice a len cap)) (hy : evO ov y = some (.int kk i)) [he : EL P t (none, sz)] (hS : Rv P h sz a len cap cs := by first | assumption | exact Rv.pushPut (by assumption) _ _ | exact Rv.pushPut (Sv.rv (by assumption)) _ _ | exact Rv.same (h := h) (by assumption) (by assumption) | exact Sv.rv (by assumption) | ((repeat first | assumption | refine Rv.pushPut ?_ _ _ | refine Rv.push ?_ _ | refine Rv.same ?_ (by assumption) | exact Sv.rv (by assumption)) ; fail_if_success focus skip) | fail) (h0 : 0 ≤ i := by first | omega | (simp only [Int.toNat_natCast] at *; omega)) (h1 : i < (len : Int) := by first | omega | (simp only [Int.toNat_natCast] at *; omega)) (g : GoR P W q N ops b₀ os k ((d, (ptA a (i.toNat * sz))) :: ov) df h Q) : GoR P W q N ops b₀ (o :: os) k ov df h Q := GoR.indexV ho hd hN hgd hx hy hS h0 h1 g
theorem GoL.indexV' {t : TypeId} {x y : Operand} {kk : IntKind} {i : Int} {sz : Nat} {a : Option Addr} {len cap : Nat} {cs : List Value} (ho : o.op = .indexAddr t x y) (hd : o.dst = some d) (hN : dOk d N = true) (hgd : o.guard = none) (hx : evO ov x = some (.slice a len cap)) (hy : evO ov y = some (.int kk i)) [he : EL P t (none, sz)] (hS : Rv P h sz a len cap cs := by first | assumption | exact Rv.pushPut (by assumption) _ _ | exact Rv.pushPut (Sv.rv (by assumption)) _ _ | exact Rv.same (h := h) (by assumption) (by assumption) | exact Sv.rv (by assumption) | ((repeat first | assumption | refine Rv.pushPut ?_ _ _ | refine Rv.push ?_ _ | refine Rv.same ?_ (by assumption) | exact Sv.rv (by assumption)) ; fail_if_success focus skip) | fail) (h0 : 0 ≤ i := by first | omega | (simp only [Int.toNat_natCast] at *; omega)) (h1 : i < (len : Int) := by first | omega | (simp only [Int.toNat_natCast] at *; omega)) (g : GoL P W q N ops (tr ++ [none]) os k ((d, (ptA a (i.toNat * sz))) :: ov) df h Q) : GoL P W q N ops tr (o :: os) k ov df h Q := GoL.indexV ho hd hN hgd hx hy hS h0 h1 g
theorem GoR.indexA' {t : TypeId} {n len : Nat} {x y : Operand} {b off : Nat} {kk : IntKind} {i : Int} (ho : o.op = .indexAddr t x y) (hd : o.dst = some d) (hN : dOk d N = true) (hgd : o.guard = none) (hx : evO ov x = some (.pointer (some ⟨b, off, none⟩))) (hy : evO ov y = some (.int kk i)) [he : EL P t (some len, n)] (h0 : 0 ≤ i := by first | omega | (simp only [Int.toNat_natCast] at *; omega)) (h1 : i < (len : Int) := by first | omega | (simp only [Int.toNat_natCast] at *; omega)) (g : GoR P W q N ops b₀ os k ((d, (.pointer (some ⟨b, off + i.toNat * n, none⟩))) :: ov) df h Q) : GoR P W q N ops b₀ (o :: os) k ov df h Q := GoR.indexA ho hd hN hgd hx hy h0 h1 g
theorem GoL.indexA' {t : TypeId} {n len : Nat} {x y : Operand} {b off : Nat} {kk : IntKind} {i : Int} (ho : o.op = .indexAddr t x y) (hd : o.dst = some d) (hN : dOk d N = true) (hgd : o.guard = none) (hx : evO ov x = some (.pointer (some ⟨b, off, none⟩))) (hy : evO ov y = some (.int kk i)) [he : EL P t (some len, n)] (h0 : 0 ≤ i := by first | omega | (simp only [Int.toNat_natCast] at *; omega)) (h1 : i < (len : Int) := by first | omega | (simp only [Int.toNat_natCast] at *; omega)) (g : GoL P W q N ops (tr ++ [none]) os k ((d, (.pointer (some ⟨b, off + i.toNat * n, none⟩))) :: ov) df h Q) : GoL P W q N ops tr (o :: os) k ov df h Q := GoL.indexA ho hd hN hgd hx hy h0 h1 g
theorem GoR.addN' {t t₂ : TypeId} {x y : Operand} {i j : Nat} (ho : o.op = .binOp .add t x y t₂) (hd : o.dst = some d) (hN : dOk d N = true) (hgd : o.guard = none) (hx : evO ov x = some (.int .i64 (i : Int))) (hy : evO ov y = some (.int .i64 (j : Int))) (h1 : i + j ≤ 9223372036854775807 := by first | omega | (simp only [Int.toNat_natCast] at *; omega)) (g : GoR P W q N ops b₀ os k ((d, .int .i64 ((i + j : Nat) : Int)) :: ov) df h Q) : GoR P W q N ops b₀ (o :: os) k ov df h Q := GoR.addN ho hd hN hgd hx hy h1 g
theorem GoL.addN' {t t₂ : TypeId} {x y : Operand} {i j : Nat} (ho : o.op = .binOp .add t x y t₂) (hd : o.dst = some d) (hN : dOk d N = true) (hgd : o.guard = none) (hx : evO ov x = some (.int .i64 (i : Int))) (hy : evO ov y = some (.int .i64 (j : Int))) (h1 : i + j ≤ 9223372036854775807 := by first | omega | (simp only [Int.toNat_natCast] at *; omega)) (g : GoL P W q N ops (tr ++ [none]) os k ((d, .int .i64 ((i + j : Nat) : Int)) :: ov) df h Q) : GoL P W q N ops tr (o :: os) k ov df h Q := GoL.addN ho hd hN hgd hx hy h1 g
theorem GoR.subN' {t t₂ : TypeId} {x y : Operand} {i j : Nat} (ho : o.op = .binOp .sub t x y t₂) (hd : o.dst = some d) (hN : dOk d N = true) (hgd : o.guard = none) (hx : evO ov x = some (.int .i64 (i : Int))) (hy : evO ov y = some (.int .i64 (j : Int))) (h1 : j ≤ i := by first | omega | (simp only [Int.toNat_natCast] at *; omega)) (h2 : i ≤ 9223372036854775807 := by first | omega | (simp only [Int.toNat_natCast] at *; omega)) (g : GoR P W q N ops b₀ os k ((d, .int .i64 ((i - j : Nat) : Int)) :: ov) df h Q) : GoR P W q N ops b₀ (o :: os) k ov df h Q := GoR.subN ho hd hN hgd hx hy h1 h2 g
theorem GoL.subN' {t t₂ : TypeId} {x y : Operand} {i j : Nat} (ho : o.op = .binOp .sub t x y t₂) (hd : o.dst = some d) (hN : dOk d N = true) (hgd : o.guard = none) (hx : evO ov x = some (.int .i64 (i : Int))) (hy : evO ov y = some (.int .i64 (j : Int))) (h1 : j ≤ i := by first | omega | (simp only [Int.toNat_natCast] at *; omega)) (h2 : i ≤ 9223372036854775807 := by first | omega | (simp only [Int.toNat_natCast] at *; omega)) (g : GoL P W q N ops (tr ++ [none]) os k ((d, .int .i64 ((i - j : Nat) : Int)) :: ov) df h Q) : GoL P W q N ops tr (o :: os) k ov df h Q := GoL.subN ho hd hN hgd hx hy h1 h2 g
theorem GoR.add' {t t₂ : TypeId} {x y : Operand} {i j : Int} (ho : o.op = .binOp .add t x y t₂) (hd : o.dst = some d) (hN : dOk d N = true) (hgd : o.guard = none) (hx : evO ov x = some (.int .i64 i)) (hy : evO ov y = some (.int .i64 j)) (h0 : -9223372036854775808 ≤ i + j := by first | omega | (simp only [Int.toNat_natCast] at *; omega)) (h1 : i + j ≤ 9223372036854775807 := by first | omega | (simp only [Int.toNat_natCast] at *; omega)) (g : GoR P W q N ops b₀ os k ((d, .int .i64 (i + j)) :: ov) df h Q) : GoR P W q N ops b₀ (o :: os) k (ov) df h Q := GoR.add ho hd hN hgd hx hy h0 h1 g
theorem GoL.add' {t t₂ : TypeId} {x y : Operand} {i j : Int} (ho : o.op = .binOp .add t x y t₂) (hd : o.dst = some d) (hN : dOk d N = true) (hgd : o.guard = none) (hx : evO ov x = some (.int .i64 i)) (hy : evO ov y = some (.int .i64 j)) (h0 : -9223372036854775808 ≤ i + j := by first | omega | (simp only [Int.toNat_natCast] at *; omega)) (h1 : i + j ≤ 9223372036854775807 := by first | omega | (simp only [Int.toNat_natCast] at *; omega)) (g : GoL P W q N ops (tr ++ [none]) os k ((d, .int .i64 (i + j)) :: ov) df h Q) : GoL P W q N ops tr (o :: os) k (ov) df h Q := GoL.add ho hd hN hgd hx hy h0 h1 g
theorem GoR.sub' {t t₂ : TypeId} {x y : Operand} {i j : Int} (ho : o.op = .binOp .sub t x y t₂) (hd : o.dst = some d) (hN : dOk d N = true) (hgd : o.guard = none) (hx : evO ov x = some (.int .i64 i)) (hy : evO ov y = some (.int .i64 j)) (h0 : -9223372036854775808 ≤ i - j := by first | omega | (simp only [Int.toNat_natCast] at *; omega)) (h1 : i - j ≤ 9223372036854775807 := by first | omega | (simp only [Int.toNat_natCast] at *; omega)) (g : GoR P W q N ops b₀ os k ((d, .int .i64 (i - j)) :: ov) df h Q) : GoR P W q N ops b₀ (o :: os) k (ov) df h Q := GoR.sub ho hd hN hgd hx hy h0 h1 g
theorem GoL.sub' {t t₂ : TypeId} {x y : Operand} {i j : Int} (ho : o.op = .binOp .sub t x y t₂) (hd : o.dst = some d) (hN : dOk d N = true) (hgd : o.guard = none) (hx : evO ov x = some (.int .i64 i)) (hy : evO ov y = some (.int .i64 j)) (h0 : -9223372036854775808 ≤ i - j := by first | omega | (simp only [Int.toNat_natCast] at *; omega)) (h1 : i - j ≤ 9223372036854775807 := by first | omega | (simp only [Int.toNat_natCast] at *; omega)) (g : GoL P W q N ops (tr ++ [none]) os k ((d, .int .i64 (i - j)) :: ov) df h Q) : GoL P W q N ops tr (o :: os) k (ov) df h Q := GoL.sub ho hd hN hgd hx hy h0 h1 g
theorem GoR.addM' {t t₂ : TypeId} {x y : Operand} {kd : IntKind} {i j : Nat} (ho : o.op = .binOp .add t x y t₂) (hd : o.dst = some d) (hN : dOk d N = true) (hgd : o.guard = none) (hx : evO ov x = some (.int kd (i : Int))) (hy : evO ov y = some (.int kd (j : Int))) (h1 : i + j < 2 ^ (kd.bits - if kd.signed then 1 else 0) := by first | (simp [IntKind.bits, IntKind.signed]; fail_if_success focus skip) | (simp [IntKind.bits, IntKind.signed]; omega)) (g : GoR P W q N ops b₀ os k ((d, .int kd ((i + j : Nat) : Int)) :: ov) df h Q) : GoR P W q N ops b₀ (o :: os) k ov df h Q := GoR.addM ho hd hN hgd hx hy h1 g
theorem GoL.addM' {t t₂ : TypeId} {x y : Operand} {kd : IntKind} {i j : Nat} (ho : o.op = .binOp .add t x y t₂) (hd : o.dst = some d) (hN : dOk d N = true) (hgd : o.guard = none) (hx : evO ov x = some (.int kd (i : Int))) (hy : evO ov y = some (.int kd (j : Int))) (h1 : i + j < 2 ^ (kd.bits - if kd.signed then 1 else 0) := by first | (simp [IntKind.bits, IntKind.signed]; fail_if_success focus skip) | (simp [IntKind.bits, IntKind.signed]; omega)) (g : GoL P W q N ops (tr ++ [none]) os k ((d, .int kd ((i + j : Nat) : Int)) :: ov) df h Q) : GoL P W q N ops tr (o :: os) k ov df h Q := GoL.addM ho hd hN hgd hx hy h1 g
theorem GoR.subM' {t t₂ : TypeId} {x y : Operand} {kd : IntKind} {i j : Nat} (ho : o.op = .binOp .sub t x y t₂) (hd : o.dst = some d) (hN : dOk d N = true) (hgd : o.guard = none) (hx : evO ov x = some (.int kd (i : Int))) (hy : evO ov y = some (.int kd (j : Int))) (h0 : j ≤ i := by first | omega | (simp only [Int.toNat_natCast] at *; omega)) (h1 : i < 2 ^ (kd.bits - if kd.signed then 1 else 0) := by first | (simp [IntKind.bits, IntKind.signed]; fail_if_success focus skip) | (simp [IntKind.bits, IntKind.signed]; omega)) (g : GoR P W q N ops b₀ os k ((d, .int kd ((i - j : Nat) : Int)) :: ov) df h Q) : GoR P W q N ops b₀ (o :: os) k ov df h Q := GoR.subM ho hd hN hgd hx hy h0 h1 g
theorem GoL.subM' {t t₂ : TypeId} {x y : Operand} {kd : IntKind} {i j : Nat} (ho : o.op = .binOp .sub t x y t₂) (hd : o.dst = some d) (hN : dOk d N = true) (hgd : o.guard = none) (hx : evO ov x = some (.int kd (i : Int))) (hy : evO ov y = some (.int kd (j : Int))) (h0 : j ≤ i := by first | omega | (simp only [Int.toNat_natCast] at *; omega)) (h1 : i < 2 ^ (kd.bits - if kd.signed then 1 else 0) := by first | (simp [IntKind.bits, IntKind.signed]; fail_if_success focus skip) | (simp [IntKind.bits, IntKind.signed]; omega)) (g : GoL P W q N ops (tr ++ [none]) os k ((d, .int kd ((i - j : Nat) : Int)) :: ov) df h Q) : GoL P W q N ops tr (o :: os) k ov df h Q := GoL.subM ho hd hN hgd hx hy h0 h1 g
theorem GoR.mulM' {t t₂ : TypeId} {x y : Operand} {kd : IntKind} {i j : Nat} (ho : o.op = .binOp .mul t x y t₂) (hd : o.dst = some d) (hN : dOk d N = true) (hgd : o.guard = none) (hx : evO ov x = some (.int kd (i : Int))) (hy : evO ov y = some (.int kd (j : Int))) (h1 : i * j < 2 ^ (kd.bits - if kd.signed then 1 else 0) := by first | (simp [IntKind.bits, IntKind.signed]; fail_if_success focus skip) | (simp [IntKind.bits, IntKind.signed]; omega)) (g : GoR P W q N ops b₀ os k ((d, .int kd ((i * j : Nat) : Int)) :: ov) df h Q) : GoR P W q N ops b₀ (o :: os) k ov df h Q := GoR.mulM ho hd hN hgd hx hy h1 g
theorem GoL.mulM' {t t₂ : TypeId} {x y : Operand} {kd : IntKind} {i j : Nat} (ho : o.op = .binOp .mul t x y t₂) (hd : o.dst = some d) (hN : dOk d N = true) (hgd : o.guard = none) (hx : evO ov x = some (.int kd (i : Int))) (hy : evO ov y = some (.int kd (j : Int))) (h1 : i * j < 2 ^ (kd.bits - if kd.signed then 1 else 0) := by first | (simp [IntKind.bits, IntKind.signed]; fail_if_success focus skip) | (simp [IntKind.bits, IntKind.signed]; omega)) (g : GoL P W q N ops (tr ++ [none]) os k ((d, .int kd ((i * j : Nat) : Int)) :: ov) df h Q) : GoL P W q N ops tr (o :: os) k ov df h Q := GoL.mulM ho hd hN hgd hx hy h1 g
theorem GoR.shlN' {t t₂ : TypeId} {x y : Operand} {kd kd' : IntKind} {i j : Nat} (ho : o.op = .binOp .shl t x y t₂) (hd : o.dst = some d) (hN : dOk d N = true) (hgd : o.guard = none) (hx : evO ov x = some (.int kd (i : Int))) (hy : evO ov y = some (.int kd' (j : Int))) (h1 : Nat.ble j kd.bits = true) (h2 : i * 2 ^ j < 2 ^ (kd.bits - if kd.signed then 1 else 0) := by first | (simp [IntKind.bits, IntKind.signed]; fail_if_success focus skip) | (simp [IntKind.bits, IntKind.signed]; omega)) (g : GoR P W q N ops b₀ os k ((d, .int kd ((i * 2 ^ j : Nat) : Int)) :: ov) df h Q) : GoR P W q N ops b₀ (o :: os) k ov df h Q := GoR.shlN ho hd hN hgd hx hy h1 h2 g
theorem GoL.shlN' {t t₂ : TypeId} {x y : Operand} {kd kd' : IntKind} {i j : Nat} (ho : o.op = .binOp .shl t x y t₂) (hd : o.dst = some d) (hN : dOk d N = true) (hgd : o.guard = none) (hx : evO ov x = some (.int kd (i : Int))) (hy : evO ov y = some (.int kd' (j : Int))) (h1 : Nat.ble j kd.bits = true) (h2 : i * 2 ^ j < 2 ^ (kd.bits - if kd.signed then 1 else 0) := by first | (simp [IntKind.bits, IntKind.signed]; fail_if_success focus skip) | (simp [IntKind.bits, IntKind.signed]; omega)) (g : GoL P W q N ops (tr ++ [none]) os k ((d, .int kd ((i * 2 ^ j : Nat) : Int)) :: ov) df h Q) : GoL P W q N ops tr (o :: os) k ov df h Q := GoL.shlN ho hd hN hgd hx hy h1 h2 g
theorem GoR.orN' {t t₂ : TypeId} {x y : Operand} {kd : IntKind} {i j : Nat} (ho : o.op = .binOp .or t x y t₂) (hd : o.dst = some d) (hN : dOk d N = true) (hgd : o.guard = none) (hx : evO ov x = some (.int kd (i : Int))) (hy : evO ov y = some (.int kd (j : Int))) (h1 : i < 2 ^ (kd.bits - if kd.signed then 1 else 0) := by first | (simp [IntKind.bits, IntKind.signed]; fail_if_success focus skip) | (simp [IntKind.bits, IntKind.signed]; omega)) (h2 : j < 2 ^ (kd.bits - if kd.signed then 1 else 0) := by first | (simp [IntKind.bits, IntKind.signed]; fail_if_success focus skip) | (simp [IntKind.bits, IntKind.signed]; omega)) (g : GoR P W q N ops b₀ os k ((d, .int kd ((i ||| j : Nat) : Int)) :: ov) df h Q) : GoR P W q N ops b₀ (o :: os) k ov df h Q := GoR.orN ho hd hN hgd hx hy h1 h2 g
theorem GoL.orN' {t t₂ : TypeId} {x y : Operand} {kd : IntKind} {i j : Nat} (ho : o.op = .binOp .or t x y t₂) (hd : o.dst = some d) (hN : dOk d N = true) (hgd : o.guard = none) (hx : evO ov x = some (.int kd (i : Int))) (hy : evO ov y = some (.int kd (j : Int))) (h1 : i < 2 ^ (kd.bits - if kd.signed then 1 else 0) := by first | (simp [IntKind.bits, IntKind.signed]; fail_if_success focus skip) | (simp [IntKind.bits, IntKind.signed]; omega)) (h2 : j < 2 ^ (kd.bits - if kd.signed then 1 else 0) := by first | (simp [IntKind.bits, IntKind.signed]; fail_if_success focus skip) | (simp [IntKind.bits, IntKind.signed]; omega)) (g : GoL P W q N ops (tr ++ [none]) os k ((d, .int kd ((i ||| j : Nat) : Int)) :: ov) df h Q) : GoL P W q N ops tr (o :: os) k ov df h Q := GoL.orN ho hd hN hgd hx hy h1 h2 g
theorem GoR.remN' {t t₂ : TypeId} {x y : Operand} {kd : IntKind} {i j : Nat} (ho : o.op = .binOp .rem t x y t₂) (hd : o.dst = some d) (hN : dOk d N = true) (hgd : o.guard = none) (hx : evO ov x = some (.int kd (i : Int))) (hy : evO ov y = some (.int kd (j : Int))) (h1 : 0 < j := by first | omega | (simp only [Int.toNat_natCast] at *; omega)) (g : GoR P W q N ops b₀ os k ((d, .int kd ((i % j : Nat) : Int)) :: ov) df h Q) : GoR P W q N ops b₀ (o :: os) k ov df h Q := GoR.remN ho hd hN hgd hx hy h1 g
theorem GoL.remN' {t t₂ : TypeId} {x y : Operand} {kd : IntKind} {i j : Nat} (ho : o.op = .binOp .rem t x y t₂) (hd : o.dst = some d) (hN : dOk d N = true) (hgd : o.guard = none) (hx : evO ov x = some (.int kd (i : Int))) (hy : evO ov y = some (.int kd (j : Int))) (h1 : 0 < j := by first | omega | (simp only [Int.toNat_natCast] at *; omega)) (g : GoL P W q N ops (tr ++ [none]) os k ((d, .int kd ((i % j : Nat) : Int)) :: ov) df h Q) : GoL P W q N ops tr (o :: os) k ov df h Q := GoL.remN ho hd hN hgd hx hy h1 g
theorem GoR.quoN' {t t₂ : TypeId} {x y : Operand} {kd : IntKind} {i j : Nat} (ho : o.op = .binOp .quo t x y t₂) (hd : o.dst = some d) (hN : dOk d N = true) (hgd : o.guard = none) (hx : evO ov x = some (.int kd (i : Int))) (hy : evO ov y = some (.int kd (j : Int))) (h1 : 0 < j := by first | omega | (simp only [Int.toNat_natCast] at *; omega)) (h2 : i < 2 ^ (kd.bits - if kd.signed then 1 else 0) := by first | (simp [IntKind.bits, IntKind.signed]; fail_if_success focus skip) | (simp [IntKind.bits, IntKind.signed]; omega)) (g : GoR P W q N ops b₀ os k ((d, .int kd ((i / j : Nat) : Int)) :: ov) df h Q) : GoR P W q N ops b₀ (o :: os) k ov df h Q := GoR.quoN ho hd hN hgd hx hy h1 h2 g
theorem GoL.quoN' {t t₂ : TypeId} {x y : Operand} {kd : IntKind} {i j : Nat} (ho : o.op = .binOp .quo t x y t₂) (hd : o.dst = some d) (hN : dOk d N = true) (hgd : o.guard = none) (hx : evO ov x = some (.int kd (i : Int))) (hy : evO ov y = some (.int kd (j : Int))) (h1 : 0 < j := by first | omega | (simp only [Int.toNat_natCast] at *; omega)) (h2 : i < 2 ^ (kd.bits - if kd.signed then 1 else 0) := by first | (simp [IntKind.bits, IntKind.signed]; fail_if_success focus skip) | (simp [IntKind.bits, IntKind.signed]; omega)) (g : GoL P W q N ops (tr ++ [none]) os k ((d, .int kd ((i / j : Nat) : Int)) :: ov) df h Q) : GoL P W q N ops tr (o :: os) k ov df h Q := GoL.quoN ho hd hN hgd hx hy h1 h2 g
theorem GoR.convW' {t t₂ : TypeId} {x : Operand} {kd kd' : IntKind} {i : Nat} (ho : o.op = .convert t t₂ x) (hd : o.dst = some d) (hN : dOk d N = true) (hgd : o.guard = none) (hx : evO ov x = some (.int kd' (i : Int))) [hc : IC P t t₂ kd] (hs : i < 2 ^ (kd.bits - if kd.signed then 1 else 0) := by first | (simp [IntKind.bits, IntKind.signed]; omega) | omega) (g : GoR P W q N ops b₀ os k ((d, .int kd (i : Int)) :: ov) df h Q) : GoR P W q N ops b₀ (o :: os) k ov df h Q := GoR.convW ho hd hN hgd hx hs g
theorem GoL.convW' {t t₂ : TypeId} {x : Operand} {kd kd' : IntKind} {i : Nat} (ho : o.op = .convert t t₂ x) (hd : o.dst = some d) (hN : dOk d N = true) (hgd : o.guard = none) (hx : evO ov x = some (.int kd' (i : Int))) [hc : IC P t t₂ kd] (hs : i < 2 ^ (kd.bits - if kd.signed then 1 else 0) := by first | (simp [IntKind.bits, IntKind.signed]; omega) | omega) (g : GoL P W q N ops (tr ++ [none]) os k ((d, .int kd (i : Int)) :: ov) df h Q) : GoL P W q N ops tr (o :: os) k ov df h Q := GoL.convW ho hd hN hgd hx hs g
theorem GoR.strV' {t t₂ : TypeId} {x : Operand} {a : Option Addr} {len cap : Nat} {zs : List UInt8} (ho : o.op = .convert t t₂ x) (hd : o.dst = some d) (hN : dOk d N = true) (hgd : o.guard = none) (hx : evO ov x = some (.slice a len cap)) [hB : BY P t t₂] (hS : Rv P h 1 a len cap (zs.map bv) := by first | assumption | exact Rv.pushPut (by assumption) _ _ | exact Rv.pushPut (Sv.rv (by assumption)) _ _ | exact Rv.same (h := h) (by assumption) (by assumption) | exact Sv.rv (by assumption) | ((repeat first | assumption | refine Rv.pushPut ?_ _ _ | refine Rv.push ?_ _ | refine Rv.same ?_ (by assumption) | exact Sv.rv (by assumption)) ; fail_if_success focus skip) | fail) (g : GoR P W q N ops b₀ os k ((d, .string ⟨zs.toArray⟩) :: ov) df h Q) : GoR P W q N ops b₀ (o :: os) k ov df h Q := GoR.strV ho hd hN hgd hx hS g
theorem GoL.strV' {t t₂ : TypeId} {x : Operand} {a : Option Addr} {len cap : Nat} {zs : List UInt8} (ho : o.op = .convert t t₂ x) (hd : o.dst = some d) (hN : dOk d N = true) (hgd : o.guard = none) (hx : evO ov x = some (.slice a len cap)) [hB : BY P t t₂] (hS : Rv P h 1 a len cap (zs.map bv) := by first | assumption | exact Rv.pushPut (by assumption) _ _ | exact Rv.pushPut (Sv.rv (by assumption)) _ _ | exact Rv.same (h := h) (by assumption) (by assumption) | exact Sv.rv (by assumption) | ((repeat first | assumption | refine Rv.pushPut ?_ _ _ | refine Rv.push ?_ _ | refine Rv.same ?_ (by assumption) | exact Sv.rv (by assumption)) ; fail_if_success focus skip) | fail) (g : ∀ rd, (∀ i ∈ rd, i ∈ blk a) → GoL P W q N ops (tr ++ [some ⟨h.n, h.n, rd, [], false, true⟩]) os k ((d, .string ⟨zs.toArray⟩) :: ov) df h Q) : GoL P W q N ops tr (o :: os) k ov df h Q := GoL.strV ho hd hN hgd hx hS g
theorem GoR.store' {t ct : TypeId} {x y : Operand} {b off n : Nat} {c l c' : List Value} {v : Value} (ho : o.op = .store t x y) (hd : o.dst = none) (hgd : o.guard = none) (hx : evO ov x = some (.pointer (some ⟨b, off, none⟩))) (hy : evO ov y = some v) [hs : SZ P t n] (hg : h.get b = some (.cells c ct) := by (first | assumption | exact AHeap.get_push_same _ _ | ((repeat first | exact AHeap.get_push_same _ _ | assumption | refine get_push_lt ?_ | exact AHeap.get_put_same _ (by first | omega | (simp only [AHeap.n_push, AHeap.n_put]; omega)) _ | exact get_put_self (by assumption) | apply get_put_self | refine get_put_other (by first | omega | (simp only [AHeap.n_push, AHeap.n_put]; omega)) ?_ | refine Same.get (by assumption) ?_ | refine Keeps.get (by assumption) ?_ (fun hi => by have hx := Own.out (by assumption) hi; omega)) ; fail_if_success focus skip) | fail)) (hl : cellsL v = l) (h1 : l.length = n) (h2 : off + n ≤ c.length := by first | (simp; fail_if_success focus skip) | (simp [cellsL]; fail_if_success focus skip) | (simp [cellsL]; omega)) (h3 : l.all Value.oneCell' = true) (hc : setL c off l = c' := by first | (simp only [setL, cellsL, List.take_zero, List.take_succ_cons, List.drop_succ_cons, List.drop_zero, List.drop_nil, List.length_cons, List.length_nil, List.nil_append, List.cons_append, Nat.zero_add, Nat.reduceAdd, List.take_nil]; rfl) | rfl) (hw : W b := by first | exact .inr (by omega) | exact .inr (by simp only [AHeap.n_push, AHeap.n_put]; omega) | (simp; fail_if_success focus skip) | (simp; omega)) (g : GoR P W q N ops true os k ov df (h.put b (some (.cells c' ct))) Q) : GoR P W q N ops true (o :: os) k ov df h Q := GoR.store ho hd hgd hx hy hg hl h1 h2 h3 hc hw g
theorem GoL.store' {t ct : TypeId} {x y : Operand} {b off n : Nat} {c l c' : List Value} {v : Value} (ho : o.op = .store t x y) (hd : o.dst = none) (hgd : o.guard = none) (hx : evO ov x = some (.pointer (some ⟨b, off, none⟩))) (hy : evO ov y = some v) [hs : SZ P t n] (hg : h.get b = some (.cells c ct) := by (first | assumption | exact AHeap.get_push_same _ _ | ((repeat first | exact AHeap.get_push_same _ _ | assumption | refine get_push_lt ?_ | exact AHeap.get_put_same _ (by first | omega | (simp only [AHeap.n_push, AHeap.n_put]; omega)) _ | exact get_put_self (by assumption) | apply get_put_self | refine get_put_other (by first | omega | (simp only [AHeap.n_push, AHeap.n_put]; omega)) ?_ | refine Same.get (by assumption) ?_ | refine Keeps.get (by assumption) ?_ (fun hi => by have hx := Own.out (by assumption) hi; omega)) ; fail_if_success focus skip) | fail)) (hl : cellsL v = l) (h1 : l.length = n) (h2 : off + n ≤ c.length := by first | (simp; fail_if_success focus skip) | (simp [cellsL]; fail_if_success focus skip) | (simp [cellsL]; omega)) (h3 : l.all Value.oneCell' = true) (hc : setL c off l = c' := by first | (simp only [setL, cellsL, List.take_zero, List.take_succ_cons, List.drop_succ_cons, List.drop_zero, List.drop_nil, List.length_cons, List.length_nil, List.nil_append, List.cons_append, Nat.zero_add, Nat.reduceAdd, List.take_nil]; rfl) | rfl) (hw : W b := by first | exact .inr (by omega) | exact .inr (by simp only [AHeap.n_push, AHeap.n_put]; omega) | (simp; fail_if_success focus skip) | (simp; omega)) (g : GoL P W q N ops (tr ++ [(some ⟨h.n, h.n, [b], [b], false, false⟩)]) os k ov df (h.put b (some (.cells c' ct))) Q) : GoL P W q N ops tr (o :: os) k ov df h Q := GoL.store ho hd hgd hx hy hg hl h1 h2 h3 hc hw g
theorem GoR.store1' {t tt : TypeId} {x y : Operand} {kv sz : Nat} {a : Option Addr} {len cap : Nat} {cs : List Value} {v : Value} (ho : o.op = .store t x y) (hd : o.dst = none) (hgd : o.guard = none) (hx : evO ov x = some (ptA a kv)) (hy : evO ov y = some v) [hs : SZ P t 1] (h1 : v.oneCell' = true) (hS : Sv h tt sz a len cap cs := by first | assumption | exact Sv.same (h := h) (by assumption) (by assumption) | fail) (h2 : kv < cs.length := by first | omega | (simp only [List.length_set, List.length_append, List.length_cons, List.length_nil, List.length_replicate]; omega) | (simp; omega)) (hw : ∀ i ∈ blk a, W i := by exact Own.ok (by assumption) (by omega)) (g : ∀ h', Sv h' tt sz a len cap (cs.set kv v) → Keeps (blk a) h h' → h'.n = h.n → GoR P W q N ops true os k ov df h' Q) : GoR P W q N ops true (o :: os) k ov df h Q := GoR.store1 ho hd hgd hx hy h1 hS h2 hw g
theorem GoL.store1' {t tt : TypeId} {x y : Operand} {kv sz : Nat} {a : Option Addr} {len cap : Nat} {cs : List Value} {v : Value} (ho : o.op = .store t x y) (hd : o.dst = none) (hgd : o.guard = none) (hx : evO ov x = some (ptA a kv)) (hy : evO ov y = some v) [hs : SZ P t 1] (h1 : v.oneCell' = true) (hS : Sv h tt sz a len cap cs := by first | assumption | exact Sv.same (h := h) (by assumption) (by assumption) | fail) (h2 : kv < cs.length := by first | omega | (simp only [List.length_set, List.length_append, List.length_cons, List.length_nil, List.length_replicate]; omega) | (simp; omega)) (hw : ∀ i ∈ blk a, W i := by exact Own.ok (by assumption) (by omega)) (g : ∀ h', Sv h' tt sz a len cap (cs.set kv v) → Keeps (blk a) h h' → h'.n = h.n → GoL P W q N ops (tr ++ [some ⟨h.n, h'.n, blk a, blk a, false, false⟩]) os k ov df h' Q) : GoL P W q N ops tr (o :: os) k ov df h Q := GoL.store1 ho hd hgd hx hy h1 hS h2 hw g
theorem Go.cond_t' {o : Operand} {a b : Code} {B : Bool} (ho : evO ov o = some (.bool B)) (hB : B = true := by first | with_reducible rfl | with_reducible assumption | (with_reducible refine @decide_eq_true _ _ ?_; first | with_reducible rfl | omega) | (with_reducible refine @decide_eq_false _ _ ?_; omega) | with_reducible exact Bool.not_false | with_reducible exact Bool.not_true | (simp; fail_if_success focus skip) | (simp; omega)) (g : Go P W q N (.code a :: k) .normal ov df h Q) : Go P W q N (.code (.cond o a b) :: k) .normal ov df h Q := Go.cond_t ho hB g
theorem Go.cond_f' {o : Operand} {a b : Code} {B : Bool} (ho : evO ov o = some (.bool B)) (hB : B = false := by first | with_reducible rfl | with_reducible assumption | (with_reducible refine @decide_eq_true _ _ ?_; first | with_reducible rfl | omega) | (with_reducible refine @decide_eq_false _ _ ?_; omega) | with_reducible exact Bool.not_false | with_reducible exact Bool.not_true | (simp; fail_if_success focus skip) | (simp; omega)) (g : Go P W q N (.code b :: k) .normal ov df h Q) : Go P W q N (.code (.cond o a b) :: k) .normal ov df h Q := Go.cond_f ho hB g
theorem GoR.build' {c' : List Value} {t : TypeId} {ps : Array (Nat × Operand)} {z : List Value} {pl : List (Nat × Nat)} {vs : List (Nat × Value)} {c : List Value} (ho : o.op = .build t ps) (hd : o.dst = some d) (hN : dOk d N = true) (hgd : o.guard = none) [hs : ST P t z pl] (hp : evPs ov ps.toList = some vs) (hf : fillL (fun i => pl[i]?) z vs = some c) (hn : c = c' := by first | (simp only [setL, Value.cells, List.take_zero, List.take_succ_cons, List.drop_succ_cons, List.drop_zero, List.drop_nil, List.length_cons, List.length_nil, List.nil_append, List.cons_append, Nat.zero_add, Nat.reduceAdd, List.take_nil]; rfl) | rfl) (g : GoR P W q N ops b₀ os k ((d, (.agg c'.toArray)) :: ov) df h Q) : GoR P W q N ops b₀ (o :: os) k ov df h Q := by subst hn; exact GoR.build ho hd hN hgd hp hf g
theorem GoL.build' {c' : List Value} {t : TypeId} {ps : Array (Nat × Operand)} {z : List Value} {pl : List (Nat × Nat)} {vs : List (Nat × Value)} {c : List Value} (ho : o.op = .build t ps) (hd : o.dst = some d) (hN : dOk d N = true) (hgd : o.guard = none) [hs : ST P t z pl] (hp : evPs ov ps.toList = some vs) (hf : fillL (fun i => pl[i]?) z vs = some c) (hn : c = c' := by first | (simp only [setL, Value.cells, List.take_zero, List.take_succ_cons, List.drop_succ_cons, List.drop_zero, List.drop_nil, List.length_cons, List.length_nil, List.nil_append, List.cons_append, Nat.zero_add, Nat.reduceAdd, List.take_nil]; rfl) | rfl) (g : GoL P W q N ops (tr ++ [none]) os k ((d, (.agg c'.toArray)) :: ov) df h Q) : GoL P W q N ops tr (o :: os) k ov df h Q := by subst hn; exact GoL.build ho hd hN hgd hp hf g
theorem Go.fin1 {x : Exit} {a : Tmp} {t ct : TypeId} {n₀ : Nat} {b off : Nat} {c : List Value} {v : Value} {Q : Value → AHeap → Prop} (hx : x = .normal ∨ x = .ret) (ha : ov.find a = some (.pointer (some ⟨b, off, none⟩))) [hc : CT P t none] (hg : h.get b = some (.cells c ct) := by (first | assumption | exact AHeap.get_push_same _ _ | ((repeat first | exact AHeap.get_push_same _ _ | assumption | refine get_push_lt ?_ | exact AHeap.get_put_same _ (by first | omega | (simp only [AHeap.n_push, AHeap.n_put]; omega)) _ | exact get_put_self (by assumption) | apply get_put_self | refine get_put_other (by first | omega | (simp only [AHeap.n_push, AHeap.n_put]; omega)) ?_ | refine Same.get (by assumption) ?_ | refine Keeps.get (by assumption) ?_ (fun hi => by have hx := Own.out (by assumption) hi; omega)) ; fail_if_success focus skip) | fail)) (hv : c[off]? = some v := by (first | rfl | assumption | (simp only [List.getElem?_cons_zero, List.getElem?_cons_succ, Int.toNat_natCast, Nat.mul_one, Nat.add_zero, Nat.zero_add]; first | rfl | assumption))) (hq : Q v h) : Go P W q N [] x ov [] h (Fin P [.cell a t] n₀ Q) := Go.fin (vs := [v]) hx (.cell ha hc hg hv .nil) hq
end
structure Wrap (B : Prop) : Prop where
  out : B
theorem Go.run {A B : Prop} (k : Wrap B → A := by (intro b_; (repeat (first|refine GoR.end ?_|(refine GoR.gd rfl ?_;first|refine GoR.wanted' rfl rfl rfl rfl (g:=?_)|refine GoR.unwanted' rfl rfl rfl rfl (hd:=rfl) (hN:=rfl) (g:=?_)|refine GoR.unwantedU rfl rfl rfl rfl rfl rfl ?_)|(refine GoR.kk 0 rfl ?_;first|refine GoR.move rfl rfl rfl rfl rfl ?_|refine GoR.assign rfl rfl rfl rfl rfl ?_)|(refine GoR.kk 1 rfl ?_;first|refine GoR.load' rfl rfl rfl rfl rfl (g:=?_)|refine GoR.loadA' rfl rfl rfl rfl rfl (hv:=rfl) (g:=?_)|refine GoR.loadV' rfl rfl rfl rfl rfl (g:=?_)|refine GoR.loadVN' rfl rfl rfl rfl rfl (g:=?_))|(refine GoR.kk 2 rfl ?_;first|refine GoR.store' rfl rfl rfl rfl rfl (hl:=rfl) (h1:=rfl) (h3:=rfl) (g:=?_))|(refine GoR.kk 3 rfl ?_;first|refine GoR.fieldAddr rfl rfl rfl rfl rfl ?_|refine GoR.indexN' rfl rfl rfl rfl rfl rfl (g:=?_)|refine GoR.indexNs' rfl rfl rfl rfl rfl rfl (g:=?_)|refine GoR.indexV' rfl rfl rfl rfl rfl rfl (g:=?_)|refine GoR.indexA' rfl rfl rfl rfl rfl rfl (g:=?_)|refine GoR.fieldV' rfl rfl rfl rfl rfl (g:=?_))|(refine GoR.kk 4 rfl ?_;first|refine GoR.eq rfl rfl rfl rfl rfl rfl ?_|refine GoR.ne rfl rfl rfl rfl rfl rfl ?_|refine GoR.lt rfl rfl rfl rfl rfl rfl ?_|refine GoR.le rfl rfl rfl rfl rfl rfl ?_|refine GoR.gt rfl rfl rfl rfl rfl rfl ?_|refine GoR.ge rfl rfl rfl rfl rfl rfl ?_|refine GoR.addN' rfl rfl rfl rfl rfl rfl (g:=?_)|refine GoR.subN' rfl rfl rfl rfl rfl rfl (g:=?_)|refine GoR.add' rfl rfl rfl rfl rfl rfl (g:=?_)|refine GoR.sub' rfl rfl rfl rfl rfl rfl (g:=?_)|refine GoR.addM' rfl rfl rfl rfl rfl rfl (g:=?_)|refine GoR.subM' rfl rfl rfl rfl rfl rfl (g:=?_)|refine GoR.mulM' rfl rfl rfl rfl rfl rfl (g:=?_)|refine GoR.shrN rfl rfl rfl rfl rfl rfl rfl ?_|refine GoR.structEq rfl rfl rfl rfl rfl rfl (by rfl) (by rfl) ?_|refine GoR.structNe rfl rfl rfl rfl rfl rfl (by rfl) (by rfl) ?_|refine GoR.strEq rfl rfl rfl rfl rfl rfl ?_|refine GoR.strNe rfl rfl rfl rfl rfl rfl ?_|refine GoR.remN' rfl rfl rfl rfl rfl rfl (g:=?_)|refine GoR.quoN' rfl rfl rfl rfl rfl rfl (g:=?_)|refine GoR.shlN' rfl rfl rfl rfl rfl rfl rfl (g:=?_)|refine GoR.orN' rfl rfl rfl rfl rfl rfl (g:=?_))|(refine GoR.kk 5 rfl ?_;first|refine GoR.len rfl rfl rfl rfl rfl ?_|refine GoR.lenStr rfl rfl rfl rfl rfl ?_|refine GoR.capB rfl rfl rfl rfl rfl ?_)|(refine GoR.kk 7 rfl ?_;first|refine GoR.pickE' rfl rfl rfl rfl rfl (hx:=rfl) (hy:=rfl) (g:=?_)|refine GoR.pickN' rfl rfl rfl rfl rfl (hx:=rfl) (hy:=rfl) (g:=?_)|refine GoR.pickB rfl rfl rfl rfl rfl rfl rfl ?_)|(refine GoR.kk 8 rfl ?_;first|refine GoR.boxA rfl rfl rfl rfl rfl ?_|refine GoR.boxS rfl rfl rfl rfl rfl rfl ?_|refine GoR.alloc rfl rfl rfl rfl ?_)|(refine GoR.kk 9 rfl ?_;first|refine GoR.strV' rfl rfl rfl rfl rfl (g:=?_)|refine GoR.conv_u8 rfl rfl rfl rfl rfl ?_|refine GoR.convW' rfl rfl rfl rfl rfl (g:=?_)|refine GoR.conv_u16 rfl rfl rfl rfl rfl ?_|refine GoR.conv_u32 rfl rfl rfl rfl rfl ?_)|(refine GoR.kk 10 rfl ?_;first|refine GoR.build' rfl rfl rfl rfl rfl rfl (g:=?_))|(refine GoR.kk 11 rfl ?_;first|refine GoR.extract rfl rfl rfl rfl rfl rfl ?_|refine GoR.not rfl rfl rfl rfl rfl ?_|refine GoR.nilCheck rfl rfl rfl rfl rfl ?_|refine GoR.nilCheckF rfl rfl rfl rfl rfl ?_|refine GoR.makeFunc rfl rfl rfl rfl rfl rfl ?_)|(refine Go.kk 0 rfl ?_;refine Go.seq ?_)|(refine Go.kk 1 rfl ?_;refine Go.region (by kernel_rfl) rfl ?_)|(refine Go.kk 2 rfl ?_;refine Go.drawnQ rfl (by kernel_rfl) rfl ?_)|(refine Go.kk 3 rfl ?_;first|refine Go.cond_t' rfl (g:=?_)|refine Go.cond_f' rfl (g:=?_))|(refine Go.kk 4 rfl ?_;refine Go.block ?_)|(refine Go.kk 5 rfl ?_;first|refine Go.skip ?_|refine Go.ret ?_|refine Go.exit ?_|refine Go.scope ?_)|refine Go.leave_normal ?_|refine Go.leave_same ?_|refine Go.leave_ret ?_|refine Go.ret_code ?_|refine Go.exit_code ?_|refine Go.leave_other rfl ?_|refine Go.sc_normal ?_|refine Go.sc_ret ?_|refine Go.sc_exit ?_|refine Go.exit_back ?_|refine Go.ret_back ?_)); exact b_.out)) (g : B) : A := k ⟨g⟩
theorem Go.runL {A B : Prop} (k : Wrap B → A := by (intro b_; (repeat (first|(refine GoL.gd rfl ?_;first|refine GoL.wanted' rfl rfl rfl rfl (g:=?_)|refine GoL.unwanted' rfl rfl rfl rfl (hd:=rfl) (hN:=rfl) (g:=?_)|refine GoL.unwantedU rfl rfl rfl rfl rfl rfl ?_)|(refine GoL.kk 0 rfl ?_;first|refine GoL.move rfl rfl rfl rfl rfl ?_|refine GoL.assign rfl rfl rfl rfl rfl ?_)|(refine GoL.kk 1 rfl ?_;first|refine GoL.load' rfl rfl rfl rfl rfl (g:=?_)|refine GoL.loadA' rfl rfl rfl rfl rfl (hv:=rfl) (g:=?_)|refine GoL.loadV' rfl rfl rfl rfl rfl (g:=?_)|refine GoL.loadVN' rfl rfl rfl rfl rfl (g:=?_))|(refine GoL.kk 3 rfl ?_;first|refine GoL.fieldAddr rfl rfl rfl rfl rfl ?_|refine GoL.indexN' rfl rfl rfl rfl rfl rfl (g:=?_)|refine GoL.indexNs' rfl rfl rfl rfl rfl rfl (g:=?_)|refine GoL.indexV' rfl rfl rfl rfl rfl rfl (g:=?_)|refine GoL.indexA' rfl rfl rfl rfl rfl rfl (g:=?_)|refine GoL.fieldV' rfl rfl rfl rfl rfl (g:=?_))|(refine GoL.kk 4 rfl ?_;first|refine GoL.eq rfl rfl rfl rfl rfl rfl ?_|refine GoL.ne rfl rfl rfl rfl rfl rfl ?_|refine GoL.lt rfl rfl rfl rfl rfl rfl ?_|refine GoL.le rfl rfl rfl rfl rfl rfl ?_|refine GoL.gt rfl rfl rfl rfl rfl rfl ?_|refine GoL.ge rfl rfl rfl rfl rfl rfl ?_|refine GoL.addN' rfl rfl rfl rfl rfl rfl (g:=?_)|refine GoL.subN' rfl rfl rfl rfl rfl rfl (g:=?_)|refine GoL.add' rfl rfl rfl rfl rfl rfl (g:=?_)|refine GoL.sub' rfl rfl rfl rfl rfl rfl (g:=?_)|refine GoL.addM' rfl rfl rfl rfl rfl rfl (g:=?_)|refine GoL.subM' rfl rfl rfl rfl rfl rfl (g:=?_)|refine GoL.mulM' rfl rfl rfl rfl rfl rfl (g:=?_)|refine GoL.shrN rfl rfl rfl rfl rfl rfl rfl ?_|refine GoL.strEq rfl rfl rfl rfl rfl rfl ?_|refine GoL.strNe rfl rfl rfl rfl rfl rfl ?_|refine GoL.remN' rfl rfl rfl rfl rfl rfl (g:=?_)|refine GoL.quoN' rfl rfl rfl rfl rfl rfl (g:=?_)|refine GoL.shlN' rfl rfl rfl rfl rfl rfl rfl (g:=?_)|refine GoL.orN' rfl rfl rfl rfl rfl rfl (g:=?_))|(refine GoL.kk 5 rfl ?_;first|refine GoL.len rfl rfl rfl rfl rfl ?_|refine GoL.lenStr rfl rfl rfl rfl rfl ?_|refine GoL.capB rfl rfl rfl rfl rfl ?_)|(refine GoL.kk 7 rfl ?_;first|refine GoL.pickE' rfl rfl rfl rfl rfl (hx:=rfl) (hy:=rfl) (g:=?_)|refine GoL.pickN' rfl rfl rfl rfl rfl (hx:=rfl) (hy:=rfl) (g:=?_))|(refine GoL.kk 8 rfl ?_;first|refine GoL.boxA rfl rfl rfl rfl rfl ?_|refine GoL.boxS rfl rfl rfl rfl rfl rfl ?_|refine GoL.alloc rfl rfl rfl rfl ?_)|(refine GoL.kk 9 rfl ?_;first|refine GoL.conv_u8 rfl rfl rfl rfl rfl ?_|refine GoL.convW' rfl rfl rfl rfl rfl (g:=?_)|refine GoL.conv_u16 rfl rfl rfl rfl rfl ?_|refine GoL.conv_u32 rfl rfl rfl rfl rfl ?_)|(refine GoL.kk 10 rfl ?_;first|refine GoL.build' rfl rfl rfl rfl rfl rfl (g:=?_))|(refine GoL.kk 11 rfl ?_;first|refine GoL.extract rfl rfl rfl rfl rfl rfl ?_|refine GoL.not rfl rfl rfl rfl rfl ?_|refine GoL.nilCheck rfl rfl rfl rfl rfl ?_|refine GoL.nilCheckF rfl rfl rfl rfl rfl ?_|refine GoL.makeFunc rfl rfl rfl rfl rfl rfl ?_))); exact b_.out)) (g : B) : A := k ⟨g⟩
theorem GoL.end_ {P : Program} {W : Nat → Prop} {q : Bool} {N : Nat} {k : List It} {ov : Ov} {df : List Nat} {h : AHeap} {Q : PQ} {ops : Array Oper} {tr : List (Option LE)} (hl : loudP ops tr tr 0 := by (simp only [List.nil_append, List.cons_append]); repeat (first | exact loudP.nil | refine loudP.none ?_ | refine loudP.new (fun _ hb => absurd hb List.not_mem_nil) ?_ | refine loudP.row (by repeat (first | exact loudRowP.nil | refine loudRowP.none ?_ | refine loudRowP.bef (by decide +kernel) ?_ | refine loudRowP.apart (by first | exact .inl rfl | exact .inr (by simp)) rfl (by first | (intro i hi; have hx := Own.out (by assumption) hi; have hy := Sv.lt (by assumption) i hi; refine ⟨?_, ?_, ?_⟩ <;> first | (simp only [List.mem_cons, List.not_mem_nil, or_false, not_false_eq_true]; omega) | (simp; omega) | trivial | simp | omega) | fail) ?_)) ?_)) (g : Go P W q N k .normal ov df h Q) : GoL P W q N ops tr [] k ov df h Q := GoL.end hl g
end Go.Proofs.Ytfcfgmhcphmefaa
namespace Go.Proofs.Ytfcfgmhcphmefaa
def restr (h : AHeap) : List Nat → AHeap
  | [] => ⟨h.n, .nil⟩
  | i :: l => (restr h l).put i (h.get i)
theorem restr_n (h : AHeap) (l : List Nat) : (restr h l).n = h.n := by
  induction l with
  | nil => rfl
  | cons i l ih => simpa [restr] using ih
theorem restr_get (h : AHeap) (l : List Nat) (i : Nat) : (restr h l).get i = if i ∈ l then h.get i else none := by
  induction l with
  | nil =>
    simp only [restr, AHeap.get, List.not_mem_nil, if_false]
    have e : Tr.nil.get i = none := rfl
    rw [e]
    exact ite_self _
  | cons j l ih =>
    simp only [restr]
    rw [AHeap.get_put, restr_n]
    by_cases e : j = i
    · subst e
      simp only [if_true, List.mem_cons, true_or]
      split
      · rfl
      · rw [AHeap.get_out (by omega)]
    · rw [if_neg e, ih]
      have : (i ∈ j :: l) ↔ i ∈ l := by simp [Ne.symm e]
      simp only [this]
theorem restr_some {h : AHeap} {l : List Nat} {i : Nat} {o : AObj} (e : (restr h l).get i = some o) : h.get i = some o ∧ i ∈ l := by
  rw [restr_get] at e
  split at e
  · exact ⟨e, by assumption⟩
  · cases e
structure News (h h' h₂ : AHeap) : Prop where
  same : Same h h'
  n : h'.n = h₂.n
  get : ∀ i, h.n ≤ i → h'.get i = h₂.get i
theorem News.sv {h h' h₂ : AHeap} {t : TypeId} {sz len cap : Nat} {a : Option Addr} {cs : List Value} (k : News h h' h₂) (s : Sv h₂ t sz a len cap cs) (o : Own h.n a) : Sv h' t sz a len cap cs := by
  cases s with
  | nil => exact .nil
  | mk hg ho hl hc => exact .mk (by rw [k.get _ (o _ (by simp [blk]))]; exact hg) ho hl hc
theorem Rv.restr {P : Program} {h : AHeap} {sz len cap : Nat} {a : Option Addr} {cs : List Value} (k : Rv P h sz a len cap cs) (rd : List Nat) (hr : ∀ i ∈ blk a, i ∈ rd) : Rv P (restr h rd) sz a len cap cs := by
  cases k with
  | nil => exact .nil
  | @mk b o _ _ c _ hg ho hl hc =>
    have e : (Go.Proofs.Ytfcfgmhcphmefaa.restr h rd).get b = h.get b := by rw [restr_get, if_pos (hr b (by simp [blk]))]
    exact .mk (by rw [e]; exact hg) ho hl hc
section
variable {P : Program} {W : Nat → Prop} {q : Bool} {N : Nat} {k : List It} {ov : Ov} {df : List Nat} {h : AHeap} {Q : PQ} {ops : Array Oper} {os : List Oper} {tr : List (Option LE)} {b₀ : Bool} {x : Exit}
theorem GoL.name (g : ∀ h', h' = h → GoL P W q N ops tr os k ov df h' Q) : GoL P W q N ops tr os k ov df h Q := g h rfl
theorem GoR.name (g : ∀ h', h' = h → GoR P W q N ops b₀ os k ov df h' Q) : GoR P W q N ops b₀ os k ov df h Q := g h rfl
theorem Go.name (g : ∀ h', h' = h → Go P W q N k x ov df h' Q) : Go P W q N k x ov df h Q := g h rfl
end
def Jn {α : Type} (fr : α → Ov) (dfs : α → List Nat) (hp : α → AHeap) (I : α → Prop) : List Value → List Nat → AHeap → Prop := fun tm df h => ∃ a, I a ∧ Rp (fr a) tm ∧ df = dfs a ∧ h = hp a
theorem Gx.join {P : Program} {W : Nat → Prop} {q : Bool} {N : Nat} {k : List It} {Q : PQ} {R : List Value → List Nat → AHeap → Prop} (hR : ∀ tm df h, tm.length = N → R tm df h → Gx P W q k .normal tm df h Q) : ∀ (pre : List It) (x : Exit) (tm : List Value) (df : List Nat) (h : AHeap), tm.length = N → Gx P W q (pre ++ .back R :: k) x tm df h Q → Gx P W q (pre ++ k) x tm df h Q
  | [], x, tm, df, h, hN, g => by
    by_cases hx : x = .normal
    · subst hx; exact hR tm df h hN (g.1 rfl)
    · exact g.2 hx
  | .leave id :: pre, x, tm, df, h, hN, g => Gx.join hR pre (Exit.leave id x) tm df h hN g
  | .sc :: pre, x, tm, df, h, hN, g => ⟨g.1, Gx.join hR pre x tm df h hN g.2⟩
  | .back R' :: pre, x, tm, df, h, hN, g => ⟨g.1, fun e => Gx.join hR pre x tm df h hN (g.2 e)⟩
  | .code c :: pre, x, tm, df, h, hN, g => ⟨fun e => by
      obtain ⟨x', tm', df', h', r, n, g'⟩ := g.1 e
      exact ⟨x', tm', df', h', r, n, Gx.join hR pre x' tm' df' h' (n.trans hN) g'⟩, fun e => Gx.join hR pre x tm df h hN (g.2 e)⟩
section
variable {P : Program} {W : Nat → Prop} {q : Bool} {N : Nat} {k : List It} {ov : Ov} {df : List Nat} {h : AHeap} {Q : PQ} {x : Exit}
theorem Go.joinN {α : Type} (pre : List It) (fr : α → Ov) (dfs : α → List Nat) (hp : α → AHeap) (I : α → Prop) (first : Go P W q N (pre ++ .back (Jn fr dfs hp I) :: k) x ov df h Q) (rest : ∀ a, I a → Go P W q N k .normal (fr a) (dfs a) (hp a) Q) : Go P W q N (pre ++ k) x ov df h Q := fun tm hN hr =>
  Gx.join (fun tm df h hN ⟨a, ha, hra, e1, e2⟩ => by subst e1 e2; exact rest a ha tm hN hra) pre x tm df h hN (first tm hN hr)
theorem Go.join1 {α : Type} {i1 : It} (fr : α → Ov) (dfs : α → List Nat) (hp : α → AHeap) (I : α → Prop) (first : Go P W q N (i1 :: .back (Jn fr dfs hp I) :: k) x ov df h Q) (rest : ∀ a, I a → Go P W q N k .normal (fr a) (dfs a) (hp a) Q) : Go P W q N (i1 :: k) x ov df h Q := Go.joinN [i1] fr dfs hp I first rest
theorem Go.join2 {α : Type} {i1 i2 : It} (fr : α → Ov) (dfs : α → List Nat) (hp : α → AHeap) (I : α → Prop) (first : Go P W q N (i1 :: i2 :: .back (Jn fr dfs hp I) :: k) x ov df h Q) (rest : ∀ a, I a → Go P W q N k .normal (fr a) (dfs a) (hp a) Q) : Go P W q N (i1 :: i2 :: k) x ov df h Q := Go.joinN [i1, i2] fr dfs hp I first rest
theorem Go.joined {α : Type} {fr : α → Ov} {dfs : α → List Nat} {hp : α → AHeap} {I : α → Prop} (a : α) (ha : I a) (hs : Ov.sub ov (fr a)) (hd : df = dfs a) (hh : h = hp a) : Go P W q N (.back (Jn fr dfs hp I) :: k) .normal ov df h Q := fun tm hN hr => ⟨fun _ => ⟨a, ha, hr.sub hs, hd, hh⟩, fun e => absurd rfl e⟩
end
end Go.Proofs.Ytfcfgmhcphmefaa
namespace Go.Proofs.Ytfcfgmhcphmefaa
def YieldRun (P : Program) (W : Nat → Prop) (l : Nat) (args : List Value) (h : AHeap) (c : Bool) (h' : AHeap) : Prop :=
  AFr W h h' ∧ ∀ (o : Oper) (tm : List Value) (f : Operand) (xs : Array Operand) (ts : Array TypeId), o.op = .call ⟨.value f, xs, ts⟩ → evalT tm f = .func (.yield l) #[] #[] → xs.toList.map (evalT tm) = args → OpRun P Ev W o tm h (.bool c) h'
def YieldS (P : Program) (wr : List Nat) (l : Nat) (args : List Value) (h : AHeap) (Q : Bool → AHeap → Prop) : Prop := ∃ c h', YieldRun P (· ∈ wr) l args h c h' ∧ Q c h'
theorem YieldS.mono {P : Program} {wr : List Nat} {l : Nat} {args : List Value} {h : AHeap} {Q Q' : Bool → AHeap → Prop} (k : YieldS P wr l args h Q) (hq : ∀ c h', Q c h' → Q' c h') : YieldS P wr l args h Q' := let ⟨c, h', a, b⟩ := k; ⟨c, h', a, hq _ _ b⟩
theorem YieldS.keeps {P : Program} {wr : List Nat} {l : Nat} {args : List Value} {h : AHeap} {Q : Bool → AHeap → Prop} (k : YieldS P wr l args h Q) : YieldS P wr l args h fun c h' => Keeps wr h h' ∧ Q c h' := let ⟨c, h', a, b⟩ := k; ⟨c, h', a, ⟨a.1.n, fun i hi hn => a.1.get i hi hn⟩, b⟩
def AsQ (P : Program) (W : Nat → Prop) (l : Nat) (bo : Code) (Q : PQ) : PQ := fun x tm df h => x = .normal ∧ ∃ pe' tmL' ps' as' bo' df', h.get l = some (.loop .ready pe' tmL' ps' as' bo' df') ∧ ∃ x' tm' d' h', Run P W true bo ⟨tm, df, h.put l (some (.loop .busy pe' tmL' ps' as' bo' df'))⟩ x' ⟨tm', d', h'⟩ ∧ Q x' tm' d' h'
def BoQ (l : Nat) (Q : Bool → AHeap → Prop) : PQ := fun x tm df h => ∃ jump st₂ pe₂ tm₂ ps₂ as₂ bo₂ df₂, jumpOf x = some jump ∧ h.get l = some (.loop st₂ pe₂ tm₂ ps₂ as₂ bo₂ df₂) ∧ Q jump.isNone (h.put l (some (.loop (if jump.isNone then .ready else .done) jump tm₂ ps₂ as₂ bo₂ df₂)))
theorem Rp.set {ov : Ov} {tm : List Value} {N d : Nat} (hr : Rp ov tm) (hN : tm.length = N) (hd : dOk d N = true) (v : Value) : Rp ((d, v) :: ov) (tm.set d v) := hr.put hN hd v
def setO : Ov → List Tmp → List Value → Ov
  | ov, p :: ps, v :: vs => setO ((p, v) :: ov) ps vs
  | ov, _, _ => ov
theorem setPs_rp {N : Nat} : ∀ (ps : List Tmp) (vs : List Value) (ov : Ov) (tm : List Value), ps.all (dOk · N) = true → tm.length = N → Rp ov tm → Rp (setO ov ps vs) (setPs tm ps vs) ∧ (setPs tm ps vs).length = N
  | [], _, ov, tm, _, hN, hr => by simpa [setO, setPs] using ⟨hr, hN⟩
  | p :: ps, [], ov, tm, _, hN, hr => by simpa [setO, setPs] using ⟨hr, hN⟩
  | p :: ps, v :: vs, ov, tm, hd, hN, hr => by
    simp only [List.all_cons, Bool.and_eq_true] at hd
    have := setPs_rp ps vs ((p, v) :: ov) (tm.set p v) hd.2 (by simpa using hN) (hr.set hN hd.1 v)
    simpa [setO, setPs] using this
section
variable {P : Program} {W : Nat → Prop} {q : Bool} {N : Nat} {k : List It} {ov : Ov} {df : List Nat} {h : AHeap} {Q : PQ} {x : Exit}
theorem YieldS.of {wr : List Nat} {l d : Nat} {pe : Option Code} {tm : List Value} {ps : Array Tmp} {as bo : Code} {args : List Value} {Q : Bool → AHeap → Prop} {ov' : Ov} (hl : h.get l = some (.loop .ready pe tm ps as bo d)) (htm : tm.length = N) (hr : Rp ov tm) (hsz : args.length = ps.size) (hps : ps.toList.all (dOk · N) = true) (ho : setO ov ps.toList args = ov') (hwl : l ∈ wr)
    (g : Go P (fun i => i ∈ wr ∨ h.n ≤ i) true N [.code as] .normal ov' [] h (AsQ P (fun i => i ∈ wr ∨ h.n ≤ i) l bo (BoQ l Q))) : YieldS P wr l args h Q := by
  subst ho
  obtain ⟨r1, n1⟩ := setPs_rp ps.toList args ov tm hps htm hr
  obtain ⟨x, tm₁, df₁, h₁, ra, la, hx, pe', tmL', ps', as', bo', df', hl₁, x', tm₂, df₂, h₂, rb, jump, st₂, pe₂, tm₃, ps₂, as₂, bo₂, df₃, hj, hl₂, hq⟩ := (g _ n1 r1).1 rfl
  subst hx
  have key : ∀ (o : Oper) (tmc : List Value) (f : Operand) (xs : Array Operand) (ts : Array TypeId), o.op = .call ⟨.value f, xs, ts⟩ → evalT tmc f = .func (.yield l) #[] #[] → xs.toList.map (evalT tmc) = args → OpRun P Ev (· ∈ wr) o tmc h (.bool jump.isNone) (h₂.put l (some (.loop (if jump.isNone then .ready else .done) jump tm₃ ps₂ as₂ bo₂ df₃))) := fun o tmc f xs ts ho hf hxs => by
    have ra' : Run P (fun i => i ∈ wr ∨ h.n ≤ i) true as ⟨setPs tm ps.toList (xs.toList.map (evalT tmc)), [], h⟩ .normal ⟨tm₁, df₁, h₁⟩ := by rw [hxs]; exact ra
    have hsz' : xs.size = ps.size := by rw [← hsz, ← hxs]; simp
    have := OpRun.yield ho hf hl hsz' ra' hl₁ rb hl₂ hj (.inl hwl)
    exact this.old.weak fun i ⟨a, b⟩ => a.resolve_right (by omega)
  refine ⟨_, _, ⟨?_, key⟩, hq⟩
  have a1 : AFr (fun i => i ∈ wr ∨ h.n ≤ i) h₁ (h₁.put l (some (.loop .busy pe' tmL' ps' as' bo' df'))) := .putOther _ (.inl hwl) hl₁ rfl
  have a2 : AFr (fun i => i ∈ wr ∨ h.n ≤ i) h₂ (h₂.put l (some (.loop (if jump.isNone then .ready else .done) jump tm₃ ps₂ as₂ bo₂ df₃))) := .putOther _ (.inl hwl) hl₂ rfl
  have af := ra.fr.trans (a1.trans (rb.fr.trans a2))
  exact ⟨af.n, fun i hi hn => af.get i hi fun hw => hw.elim hn (by omega), af.typ, af.alive, af.live, af.roT⟩
theorem Go.body {l : Nat} {bo : Code} {pe' : Option Code} {tmL' : List Value} {ps' : Array Tmp} {as' bo' : Code} {df' : Nat} {Q : PQ} (hl : h.get l = some (.loop .ready pe' tmL' ps' as' bo' df')) (g : Go P W true N [.code bo] .normal ov df (h.put l (some (.loop .busy pe' tmL' ps' as' bo' df'))) Q) : Go P W q N [] .normal ov df h (AsQ P W l bo Q) := fun tm hN hr => by
  obtain ⟨x', tm', d', h', r, _, hq⟩ := (g tm hN hr).1 rfl
  exact ⟨rfl, _, _, _, _, _, _, hl, x', tm', d', h', r, hq⟩
theorem Go.rangeFunc {g : Operand} {ps : Array Tmp} {as bo : Code} {f : FuncId} {first cap : Array Value} {wr : List Nat} (hg : evO ov g = some (.func (.func f) first cap)) (hk : okOpd P g = true) (hc : calls P f = true)
    (K : ∀ tm : List Value, tm.length = N → Rp ov tm → CallS P wr f (first.toList ++ [.func (.yield (h.n + 1)) #[] #[]] ++ cap.toList) ((h.push (.deferred true)).push (.loop .ready none tm ps as bo h.n)) fun v h₂ => Keeps wr ((h.push (.deferred true)).push (.loop .ready none tm ps as bo h.n)) h₂ → (∀ i ∈ wr, W i) ∧ W (h.n + 1) ∧ ∃ st pe tm' ps' as' bo' df' x, h₂.get (h.n + 1) = some (.loop st pe tm' ps' as' bo' df') ∧ (st == .busy) = false ∧ exitOf pe = some x ∧ Go P W false N k x ov (h.n :: df) (h₂.put (h.n + 1) (some (.loop .exhausted pe tm' ps' as' bo' df'))) Q) : Go P W false N (.code (.rangeFunc g ps as bo) :: k) .normal ov df h Q := Go.code fun tm hN hr => by
  obtain ⟨v, h₂, hcr, hq⟩ := K tm hN hr
  obtain ⟨w1, w2, st, pe, tm', ps', as', bo', df', x, e1, e2, e3, e4⟩ := hq ⟨hcr.fr.n, fun i hi hn => hcr.fr.get i hi hn⟩
  obtain ⟨fn, h1, h2, h3⟩ := calls_spec hc
  have e : (first.toList ++ [Value.func (Fn.yield (h.n + 1)) #[] #[]] ++ cap.toList).toArray = first ++ #[Value.func (Fn.yield (h.n + 1)) #[] #[]] ++ cap := by
    apply Array.toList_inj.1
    simp
  rw [e] at hcr
  have run := Run.rangeFunc (s := ⟨tm, df, h⟩) (ps := ps) (assign := as) (body := bo) hk (evO_eq hr hg) h1 h2 h3 (hcr.weak w1) e1 e2 e3 w2
  exact ⟨x, tm, h.n :: df, _, run, rfl, e4 tm hN hr⟩
theorem GoR.yield {ops : Array Oper} {os : List Oper} {o : Oper} {d : Nat} {f : Operand} {xs : Array Operand} {ts : Array TypeId} {l : Nat} {us : List Value} {wr : List Nat} (ho : o.op = .call ⟨.value f, xs, ts⟩) (hd : o.dst = some d) (hN : dOk d N = true) (hgd : o.guard = none) (hf : evO ov f = some (.func (.yield l) #[] #[])) (hx : evOs ov xs.toList = some us)
    (hk : YieldS P wr l us h fun c h' => Keeps wr h h' → (∀ i ∈ wr, W i) ∧ GoR P W q N ops true os k ((d, .bool c) :: ov) df h' Q) : GoR P W q N ops true (o :: os) k ov df h Q := by
  obtain ⟨c, h', hr, hg⟩ := hk
  have kp : Keeps wr h h' := ⟨hr.1.n, fun i hi hn => hr.1.get i hi hn⟩
  refine GoR.step (r := ⟨.bool c, h', [], wr, true, false⟩) hgd hd hN (fun tm hrp => ⟨(fun e => by cases e), fun D W' hall _ hw => ?_⟩) (.inl rfl) (hg kp).1 (hg kp).2
  rw [hall rfl]
  exact (hr.2 o tm f xs ts ho (evO_eq hrp hf) (evOs_eq hrp hx)).weak fun i hi => (hw i hi).2
end
end Go.Proofs.Ytfcfgmhcphmefaa
namespace Go.Proofs.Ytfcfgmhcphmefaa
class CL (P : Program) (t : TypeId) (e : outParam TypeId) (sz : outParam Nat) : Prop where
  h : ∃ z, P.underlying t = some (.slice e) ∧ zeroT P e = some z ∧ flatB z = true ∧ z.cells.toList.length = sz ∧ z.cells.toList.all Value.oneCell' = true
section
variable {P : Program} {h : AHeap} {o : Oper} {ov : Ov} {W : Nat → Prop} {q : Bool} {N : Nat} {ops : Array Oper} {os : List Oper} {k : List It} {df : List Nat} {Q : PQ}
end
end Go.Proofs.Ytfcfgmhcphmefaa
namespace Go.Proofs.Ytfcfgmhcphmefaa
section
variable {P : Program} {h : AHeap} {o : Oper} {ov : Ov} {W : Nat → Prop} {q : Bool} {N : Nat} {ops : Array Oper} {os : List Oper} {k : List It} {df : List Nat} {Q : PQ} {d : Nat} {tr : List (Option LE)}
end
end Go.Proofs.Ytfcfgmhcphmefaa
namespace Go.Proofs.Ytfcfgmhcphmefaa
def FreeFrom (m : Mp) (a : Nat) : Prop := ∀ i, a ≤ i → m i = none
theorem FreeFrom.fresh {m : Mp} {h h' : AHeap} (k : FreeFrom m h.n) : Fresh m h h' := fun i a b => k i a
theorem FreeFrom.step {m m' : Mp} {W : Nat → Prop} {h h' : AHeap} {w w' : World} (k : FreeFrom m h.n) (hn : h.n ≤ h'.n) (f : Fr m m' W h h' w w') : FreeFrom m' h'.n := fun i a => by rw [f.old i (.inr a)]; exact k i (by omega)
def DRun (P : Program) (W : Nat → Prop) (q : Bool) (c : Code) (s : ASt) (R : Exit → ASt → Prop) : Prop :=
  ∀ (m : Mp) (w : World) (A : Act) (r : Option Nat), (q = false → r = none) → MOk P m → FreeFrom m s.h.n → SRel P m s A w → c.wpIn (WF r) 0 P (fun x' A' w' => ∃ s', R x' s' ∧ AFr W s.h s'.h ∧ ∃ m', Fr m m' W s.h s'.h w w' ∧ SRel P m' s' A' w') A w
section
variable {P : Program} {W : Nat → Prop} {q : Bool} {c c₁ c₂ : Code} {s s₁ s₂ s' : ASt} {x : Exit} {R R' : Exit → ASt → Prop}
theorem DRun.mono (k : DRun P W q c s R) (h : ∀ x s', R x s' → R' x s') : DRun P W q c s R' := fun m w A r hq hm hf hs => wpIn_mono (k m w A r hq hm hf hs) fun e a' w' ⟨s', h1, h2⟩ => ⟨s', h _ _ h1, h2⟩
theorem DRun.of_run (k : Run P W q c s x s') (hR : R x s') : DRun P W q c s R := fun m w A r hq hm hf hs => wpIn_mono (k.run m w A r hq hm hf.fresh hs) fun e a' w' ⟨he, m', f, sr⟩ => ⟨s', by rw [he]; exact hR, k.fr, m', f, sr⟩
theorem DRun.seq {R₁ : Exit → ASt → Prop} (h1 : DRun P W q c₁ s R₁) (h2 : ∀ s₁, R₁ .normal s₁ → DRun P W q c₂ s₁ R) (h3 : ∀ x s₁, x ≠ .normal → R₁ x s₁ → R x s₁) : DRun P W q (.seq c₁ c₂) s R := by
  refine fun m w A r hq hm hf hs => wpIn_seq (wpIn_mono (h1 m w A r hq hm hf hs) ?_)
  rintro e a₁ w₁ ⟨s₁, r₁, af1, m₁, f1, hs1⟩
  cases e with
  | normal =>
    refine wpIn_mono (h2 s₁ r₁ m₁ w₁ a₁ r hq (hm.mono (f1.le hf.fresh)) (hf.step af1.n f1) hs1) ?_
    rintro e a₂ w₂ ⟨s₂, r₂, af2, m₂, f2, hs2⟩
    exact ⟨s₂, r₂, af1.trans af2, m₂, Fr.trans af1 af2.n f1 f2, hs2⟩
  | _ => exact ⟨s₁, h3 _ _ (by simp) r₁, af1, m₁, f1, hs1⟩
theorem DRun.cond {o : Operand} {b : Bool} (he : evalT s.tm o = .bool b) (h1 : DRun P W q (if b then c₁ else c₂) s R) : DRun P W q (.cond o c₁ c₂) s R := fun m w A r hq hm hf hs => wpIn_cond (hs.tm.eval hm he) (h1 m w A r hq hm hf hs)
theorem DRun.block {id : Nat} (h1 : DRun P W q c s fun x s' => R (Exit.leave id x) s') : DRun P W q (.block id c) s R := by
  refine fun m w A r hq hm hf hs => wpIn_block (wpIn_mono (h1 m w A r hq hm hf hs) ?_)
  rintro e a₁ w₁ ⟨s₁, r₁, h⟩
  cases e with
  | exit i =>
    simp only [Exit.inBlock]
    simp only [Exit.leave] at r₁
    split
    · rename_i hi
      rw [if_pos hi] at r₁
      exact ⟨s₁, r₁, h⟩
    · rename_i hi
      rw [if_neg hi] at r₁
      exact ⟨s₁, r₁, h⟩
  | _ => exact ⟨s₁, r₁, h⟩
theorem DRun.loop {I : Nat → ASt → Prop} (body : ∀ k s, I k s → DRun P W q c s fun x s' => (x = .normal ∧ ∃ k', k' < k ∧ I k' s') ∨ (x ≠ .normal ∧ R x s')) {k₀ : Nat} (hI : I k₀ s) : DRun P W q (.loop c) s R := by
  have main : ∀ (n k : Nat) (s : ASt), k < n → I k s → ∀ (m : Mp) (w : World) (A : Act) (r : Option Nat), (q = false → r = none) → MOk P m → FreeFrom m s.h.n → SRel P m s A w → ∀ (b : Frame) (k : List Item) (cs : List Frame), b.roundOf = r → ∃ e a' w', (∃ s', R e s' ∧ AFr W s.h s'.h ∧ ∃ m', Fr m m' W s.h s'.h w w' ∧ SRel P m' s' a' w') ∧ ArrivesIn (Machine.fenced P (WF r)) P (lone (b.atR A (.code c :: .inLoop c :: k)) cs w) b k cs e a' w' := by
    intro n
    induction n with
    | zero => intro k s h; omega
    | succ n ih =>
      intro k₁ s hn hI m w A r hq hm hf hs b k cs hb
      obtain ⟨e, a₁, w₁, ⟨s₁, r₁, af1, m₁, f1, hs1⟩, harr⟩ := body k₁ s hI m w A r hq hm hf hs b (.inLoop c :: k) cs hb trivial (WF.room _ _)
      rcases r₁ with ⟨he, k₂, hms, hI1⟩ | ⟨he, hR⟩
      · subst he
        obtain ⟨e₂, a₂, w₂, ⟨s₂, r₂, af2, m₂, f2, hs2⟩, harr₂⟩ := ih k₂ s₁ (by omega) hI1 m₁ w₁ a₁ r hq (hm.mono (f1.le hf.fresh)) (hf.step af1.n f1) hs1 b k cs hb
        exact ⟨e₂, a₂, w₂, ⟨s₂, r₂, af1.trans af2, m₂, Fr.trans af1 af2.n f1 f2, hs2⟩, .of_steps (StepsIn.trans harr (.one (fenced_calm (F := WF r) (n := 0) trivial (WF.room _ _) rfl) stepR_inLoop)) harr₂⟩
      · exact ⟨e, a₁, w₁, ⟨s₁, hR, af1, m₁, f1, hs1⟩, .pass (x := .inLoop c) rfl (fun _ _ => .inl he) harr⟩
  intro m w A r hq hm hf hs b k cs hb h1 h2
  obtain ⟨e, a', w', hq, harr⟩ := main _ _ s (Nat.lt_succ_self _) hI m w A r hq hm hf hs b k cs hb
  exact ⟨e, a', w', hq, .of_steps (.one (fenced_calm (F := WF r) h1 h2 rfl) stepR_loop) harr⟩
end
def OpD (P : Program) (W : Nat → Prop) (o : Oper) (tm : List Value) (h : AHeap) (R : Value → AHeap → Prop) : Prop :=
  ∀ (m : Mp) (w : World) (A : Act) (r : Option Nat), MOk P m → FreeFrom m h.n → (∀ x ∈ o.op.operands, VRel m (evalT tm x) (A.eval x)) → HRel P m Ev h w →
    ∀ (K : Act → World → Prop) (Q : Exit → Act → World → Prop), (∀ v h' v' w' m', R v h' → AFr W h h' → Fr m m' W h h' w w' → VRel m' v v' → HRel P m' Ev h' w' → K (A.put o.dst v') w') → o.wpIn (WF r) 0 P A w K Q
theorem OpD.of_run {P : Program} {W : Nat → Prop} {o : Oper} {tm : List Value} {h h' : AHeap} {v : Value} {R : Value → AHeap → Prop} (k : OpRun P Ev W o tm h v h') (hR : R v h') : OpD P W o tm h R := fun m w A r hm hf hx H K Q hK => k.run m w A r hm hf.fresh hx H K Q fun v' w' m' f x y => hK v h' v' w' m' hR k.fr f x y
def OpsD (P : Program) (W : Nat → Prop) (ops : Array Oper) : List Nat → List Value → AHeap → (List Value → AHeap → Prop) → Prop
  | [], tm, h, R => R tm h
  | i :: is, tm, h, R => ∃ o, ops[i]? = some o ∧ ((Region.wanted o (yielded ops tm.toArray) = false ∧ OpsD P W ops is (putT tm o.dst undef) h R) ∨ (Region.wanted o (yielded ops tm.toArray) = true ∧ ∃ R₁, OpD P W o tm h R₁ ∧ ∀ v h', R₁ v h' → OpsD P W ops is (putT tm o.dst v) h' R))
theorem OpsD.run {P : Program} {W : Nat → Prop} {ops : Array Oper} (hk : opsOk P ops = true) {r : Option Nat} {R : List Value → AHeap → Prop} : ∀ (is : List Nat) (tm : List Value) (h : AHeap), OpsD P W ops is tm h R → ∀ (m : Mp) (A : Act) (w : World), MOk P m → FreeFrom m h.n → ARel m tm.toArray A.tmps → HRel P m Ev h w →
    ∀ Q : Exit → Act → World → Prop, (∀ tm' h' m' A' w', R tm' h' → AFr W h h' → Fr m m' W h h' w w' → ARel m' tm'.toArray A'.tmps → A'.defers = A.defers → HRel P m' Ev h' w' → Q .normal A' w') → wpOpsIn (WF r) 0 P ops Q is A w
  | [], tm, h, k => fun m A w hm hf ht hh Q hQ => hQ tm h m A w k (.refl _ _) (.refl _ _ _ _) ht rfl hh
  | i :: is, tm, h, k => fun m A w hm hf ht hh Q hQ => by
    obtain ⟨o, ho, k⟩ := k
    rw [wpOpsIn_cons]
    unfold wpOpIn
    have hlen : A.tmps.size = tm.length := by have := ht.1; simpa using this.symm
    rcases k with ⟨hw, k⟩ | ⟨hw, R₁, k1, k2⟩
    · have hw' : Region.wanted o (yielded ops A.tmps) = false := by
        rw [← hw]; unfold Region.wanted
        cases o.guard with
        | none => rfl
        | some gw => simp only; rw [yielded_rel (m := m) hlen gw.1 fun d _ => by simpa using ht.getD d]
      simp only [ho, hw', Bool.false_eq_true, if_false]
      refine ⟨fun _ _ => trivial, OpsD.run hk is _ h k m _ w hm hf (putT_rel ht (.tuple rfl fun i v v' e => by simp at e)) hh Q fun tm' h' m' A' w' hr af f a d b => hQ tm' h' m' A' w' hr af f a ?_ b⟩
      rw [d]; cases o.dst <;> rfl
    · have hw' : Region.wanted o (yielded ops A.tmps) = true := by
        rw [← hw]; unfold Region.wanted
        cases o.guard with
        | none => rfl
        | some gw => simp only; rw [yielded_rel (m := m) hlen gw.1 fun d _ => by simpa using ht.getD d]
      simp only [ho, hw', if_true]
      refine k1 m w A r hm hf (fun x hx => opd_rel hm ?_ fun t _ => by simpa using ht.getD t) hh _ _ fun v h' v' w' m' hr1 af1 f hv hh' => ?_
      · exact List.all_eq_true.1 (List.all_eq_true.1 hk o (by simpa using Array.mem_of_getElem? ho)) x (by simpa using hx)
      · refine OpsD.run hk is _ h' (k2 v h' hr1) m' _ w' (hm.mono (f.le hf.fresh)) (hf.step af1.n f) (putT_rel (ht.mono (f.le hf.fresh)) hv) hh' Q fun tm'' h'' m'' A' w'' hr af f' a d b => hQ tm'' h'' m'' A' w'' hr (af1.trans af) (Fr.trans af1 af.n f f') a ?_ b
        rw [d]; cases o.dst <;> rfl
theorem DRun.region {P : Program} {W : Nat → Prop} {q : Bool} {id : Nat} {ops : Array Oper} {s : ASt} {R : Exit → ASt → Prop} (hk : opsOk P ops = true) (k : OpsD P W ops (List.range ops.size) s.tm s.h fun tm' h' => R .normal ⟨tm', s.df, h'⟩) : DRun P W q (.region id ops false) s R :=
  fun m w A r _ hm hf hs => wpIn_region (OpsD.run hk _ _ _ k m A w hm hf hs.tm hs.h _ fun tm' h' m' A' w' hr af f a d b => ⟨⟨tm', s.df, h'⟩, hr, af, m', f, ⟨a, by rw [d]; exact hs.df.mono (f.le hf.fresh), b⟩⟩)
theorem ERel.at {m : Mp} {es es' : Array MapEntry} (k : ERel m es es') {e' : MapEntry} (he : e' ∈ es'.toList) : ∃ e ∈ es.toList, VRel m e.key e'.key ∧ VRel m e.val e'.val ∧ e.born = e'.born := by
  obtain ⟨j, hj, rfl⟩ := List.getElem_of_mem he
  have hj' : j < es'.size := by simpa using hj
  have hj2 : j < es.size := by rw [k.1]; exact hj'
  refine ⟨es[j], by simp, ?_⟩
  have := k.2 j es[j] es'[j] (by simp [hj2]) (by simp [hj'])
  simpa using this
theorem ERel.at' {m : Mp} {es es' : Array MapEntry} (k : ERel m es es') {e : MapEntry} (he : e ∈ es.toList) : ∃ e' ∈ es'.toList, VRel m e.key e'.key ∧ VRel m e.val e'.val ∧ e.born = e'.born := by
  obtain ⟨j, hj, rfl⟩ := List.getElem_of_mem he
  have hj' : j < es.size := by simpa using hj
  have hj2 : j < es'.size := by rw [← k.1]; exact hj'
  refine ⟨es'[j], by simp, ?_⟩
  have := k.2 j es[j] es'[j] (by simp [hj']) (by simp [hj2])
  simpa using this
theorem ERel.borns {m : Mp} {es es' : Array MapEntry} (k : ERel m es es') : es'.toList.map (·.born) = es.toList.map (·.born) := by
  apply List.ext_getElem
  · simp [k.1]
  · intro j h1 h2
    have hj' : j < es'.size := by simpa using h1
    have hj2 : j < es.size := by simpa using h2
    have := k.2 j es[j] es'[j] (by simp [hj2]) (by simp [hj'])
    simp [this.2.2]
def NextR (h : AHeap) (i r c : Nat) (seen : List Nat) (es : Array MapEntry) (v : Value) (h' : AHeap) : Prop :=
  ((∀ e ∈ es.toList, e.born ∈ seen) ∧ v = .tuple #[.bool false] ∧ h' = h) ∨ ∃ e ∈ es.toList, e.born ∉ seen ∧ v = .tuple #[.bool true, e.key, e.val] ∧ h' = h.put i (some (.mit (some r) c (seen ++ [e.born])))
theorem OpD.next {P : Program} {W : Nat → Prop} {o : Oper} {tm : List Value} {h : AHeap} {x : Operand} {i r c : Nat} {seen : List Nat} {es : Array MapEntry} (ho : o.op = .next x false) (hx : evalT tm x = .pointer (some ⟨i, 0, none⟩)) (hi : h.get i = some (.mit (some r) c seen)) (hr : h.get r = some (.map es c)) (hb : ∀ e ∈ es.toList, e.born < c) (hW : W i) : OpD P W o tm h (NextR h i r c seen es) := fun m w A r' hm hf hxs H K Q hK => by
  have h1 := hxs x (by simp [ho, Op.operands])
  rw [hx] at h1
  generalize hy : A.eval x = x' at h1
  cases h1 with
  | @ptr _ _ l hl =>
  obtain ⟨o', a1, a2⟩ := H.obj i l _ trivial hl hi
  cases a2 with
  | @mit _ _ lr _ hs hlr =>
  obtain ⟨o2, b1, b2⟩ := H.obj r lr _ trivial hlr hr
  cases b2 with
  | @map _ es' _ er =>
  have hold : ∀ x ∈ es'.toList, x.born < c := fun e' he' => by
    obtain ⟨e, h1, -, -, h4⟩ := er.at he'
    have := hb e h1; omega
  have ad : (⟨l.b, 0 + l.sh, none⟩ : Addr) = ⟨l.b, 0, none⟩ := by rw [hs]
  rw [ad] at hy
  have hd : ∀ c, o.op ≠ .defer c := by simp [ho]
  rcases run_next_at w o.type l.b lr.b c c seen.toArray es' c a1 b1 hold (Nat.le_refl _) (P := P) with ⟨h0, hrun⟩ | ⟨e', he', w1, hw1, hrun⟩
  · refine wpIn_value hd (v := .tuple #[.bool false]) (w' := w) ?_ (hK _ h _ w m (.inl ⟨fun e he => ?_, rfl, rfl⟩) (.refl _ _) (.refl _ _ _ _) (VRel.flat _ rfl) H)
    · simp [execOp, ho, hy, hrun, Sem.run_bind, Result.andThen]
      try rfl
    · obtain ⟨e', he', -, -, hbb⟩ := er.at' he
      have : e' ∉ (leftOf es' seen.toArray).toList := by
        rw [Array.eq_empty_of_size_eq_zero h0]; simp
      simp only [leftOf, Array.toList_filter, List.mem_filter, he', true_and, Bool.not_eq_true'] at this
      have : seen.toArray.contains e'.born = true := by simpa using this
      rw [hbb]; simpa using this
  · simp only [leftOf, Array.toList_filter, List.mem_filter, Bool.not_eq_true'] at he'
    obtain ⟨e, he, hk, hv, hbb⟩ := er.at he'.1
    have hni : e.born ∉ seen := by rw [hbb]; simpa using he'.2
    have hou : (AObj.mit (some r) c (seen ++ [e.born])).other = true := rfl
    have Fd : Fr m m W h h w w1 := by
      rcases hw1 with rfl | rfl
      · exact .refl _ _ _ _
      · exact Fr.drew m W h w _
    have H1 : HRel P m Ev h w1 := by
      rcases hw1 with rfl | rfl
      · exact H
      · exact H.world rfl
    have hob : ORel P m l (.mit (some r) c (seen ++ [e.born])) (.mapIter (some lr.b) c (seen.toArray.push e'.born) c) := by
      have := ORel.mit (P := P) (m := m) (l := l) (r := r) (k := c) (lr := lr) (seen := seen ++ [e.born]) hs hlr
      rw [hbb] at this ⊢
      simpa using this
    refine wpIn_value hd (v := .tuple #[.bool true, e'.key, e'.val]) (w' := ChangeMaps.setBlock w1 l.b (.mapIter (some lr.b) c (seen.toArray.push e'.born) c)) ?_ (hK (.tuple #[.bool true, e.key, e.val]) (h.put i (some (.mit (some r) c (seen ++ [e.born])))) _ _ m (.inr ⟨e, he, hni, rfl, rfl⟩) (AFr.putOther h hW hi hou) ?_ ?_ ?_)
    · simp [execOp, ho, hy, hrun, Sem.run_bind, Result.andThen]
      try rfl
    · exact Fr.trans (AFr.refl W h) (by simp) Fd (Fr.putOther hW hl hi _ _)
    · refine .tuple rfl fun j u u' e1 e2 => ?_
      match j, e1, e2 with
      | 0, e1, e2 => simp at e1 e2; subst e1 e2; exact .bool _
      | 1, e1, e2 => simp at e1 e2; subst e1 e2; exact hk
      | 2, e1, e2 => simp at e1 e2; subst e1 e2; exact hv
      | j + 3, e1, e2 => simp at e1
    · exact H1.putOther hl hi hou hob
theorem OpRun.entry {P : Program} {D W : Nat → Prop} {o : Oper} {tm : List Value} {h : AHeap} {x : Operand} {i r c : Nat} {s : List Nat} {es : Array MapEntry} {e : MapEntry} (ho : o.op = .entry x) (hx : evalT tm x = .pointer (some ⟨i, 0, none⟩)) (hi : h.get i = some (.mit (some r) c (s ++ [e.born]))) (hr : h.get r = some (.map es c)) (he : e ∈ es.toList) (hn : (es.toList.map (·.born)).Nodup) (hD : D i ∧ D r) : OpRun P D W o tm h (.tuple #[e.key, e.val]) h :=
  .ofPure (by simp [ho]) fun m w A hm hxs H => by
    have h1 := hxs x (by simp [ho, Op.operands])
    rw [hx] at h1
    generalize hy : A.eval x = x' at h1
    cases h1 with
    | @ptr _ _ l hl =>
    obtain ⟨o', a1, a2⟩ := H.obj i l _ hD.1 hl hi
    cases a2 with
    | @mit _ _ lr _ hs hlr =>
    obtain ⟨o2, b1, b2⟩ := H.obj r lr _ hD.2 hlr hr
    cases b2 with
    | @map _ es' _ er =>
    have ad : (⟨l.b, 0 + l.sh, none⟩ : Addr) = ⟨l.b, 0, none⟩ := by rw [hs]
    rw [ad] at hy
    obtain ⟨e', he', hk, hv, hbb⟩ := er.at' he
    have a1' : w.heap[l.b]? = some (.mapIter (some lr.b) c (s.toArray.push e'.born) c) := by rw [a1, ← hbb]; simp
    have hrun := run_entry_at w l.b lr.b c s.toArray es' c e' a1' b1 he' (by rw [er.borns]; exact hn) (P := P)
    refine ⟨.tuple #[e'.key, e'.val], ?_, ?_⟩
    · refine .tuple rfl fun j u u' e1 e2 => ?_
      match j, e1, e2 with
      | 0, e1, e2 => simp at e1 e2; subst e1 e2; exact hk
      | 1, e1, e2 => simp at e1 e2; subst e1 e2; exact hv
      | j + 2, e1, e2 => simp at e1
    · simp [execOp, ho, hy, hrun, Sem.run_bind, Result.andThen]
      try rfl
end Go.Proofs.Ytfcfgmhcphmefaa
namespace Go.Proofs.Ytfcfgmhcphmefaa
def GxD (P : Program) (W : Nat → Prop) (q : Bool) : List It → Exit → List Value → List Nat → AHeap → PQ → Prop
  | [], x, tm, df, h, Q => Q x tm df h
  | .leave id :: k, x, tm, df, h, Q => GxD P W q k (Exit.leave id x) tm df h Q
  | .sc :: k, x, tm, df, h, Q => (∀ l, x ≠ .goto l) ∧ GxD P W q k x tm df h Q
  | .back R :: k, x, tm, df, h, Q => (x = .normal → R tm df h) ∧ (x ≠ .normal → GxD P W q k x tm df h Q)
  | .code c :: k, x, tm, df, h, Q => (x = .normal → DRun P W q c ⟨tm, df, h⟩ fun x' s' => s'.tm.length = tm.length ∧ GxD P W q k x' s'.tm s'.df s'.h Q) ∧ (x ≠ .normal → GxD P W q k x tm df h Q)
def GoD (P : Program) (W : Nat → Prop) (q : Bool) (n : Nat) (k : List It) (x : Exit) (ov : Ov) (df : List Nat) (h : AHeap) (Q : PQ) : Prop :=
  ∀ tm : List Value, tm.length = n → Rp ov tm → GxD P W q k x tm df h Q
def SegQ (P : Program) (W : Nat → Prop) (q : Bool) (k : List It) (Q : PQ) : PQ := fun x tm df h => GxD P W q k x tm df h Q
section
variable {P : Program} {W : Nat → Prop} {q : Bool} {n : Nat} {k : List It} {x : Exit} {ov : Ov} {df : List Nat} {h : AHeap} {Q : PQ}
theorem GoD.name (g : ∀ h', h' = h → GoD P W q n k x ov df h' Q) : GoD P W q n k x ov df h Q := g h rfl
theorem GoD.skip_code {c : Code} (hx : x ≠ .normal) (g : GoD P W q n k x ov df h Q) : GoD P W q n (.code c :: k) x ov df h Q := fun tm hN hr => ⟨fun e => absurd e hx, fun _ => g tm hN hr⟩
theorem GoD.skip_back {R : List Value → List Nat → AHeap → Prop} (hx : x ≠ .normal) (g : GoD P W q n k x ov df h Q) : GoD P W q n (.back R :: k) x ov df h Q := fun tm hN hr => ⟨fun e => absurd e hx, fun _ => g tm hN hr⟩
theorem GoD.leave {id : Nat} (g : GoD P W q n k (Exit.leave id x) ov df h Q) : GoD P W q n (.leave id :: k) x ov df h Q := g
theorem GoD.seq {a b : Code} (g : GoD P W q n (.code a :: .code b :: k) .normal ov df h Q) : GoD P W q n (.code (.seq a b) :: k) .normal ov df h Q := fun tm hN hr => by
  refine ⟨fun _ => ?_, fun e => absurd rfl e⟩
  refine DRun.seq ((g tm hN hr).1 rfl) (fun s₁ ⟨n1, g1⟩ => (g1.1 rfl).mono fun x s' ⟨n2, g2⟩ => ⟨n2.trans n1, g2⟩) fun x s₁ hx ⟨n1, g1⟩ => ⟨n1, g1.2 hx⟩
theorem GoD.block {id : Nat} {c : Code} (g : GoD P W q n (.code c :: .leave id :: k) .normal ov df h Q) : GoD P W q n (.code (.block id c) :: k) .normal ov df h Q := fun tm hN hr => ⟨fun _ => DRun.block (((g tm hN hr).1 rfl).mono fun x s' ⟨n1, g1⟩ => ⟨n1, g1⟩), fun e => absurd rfl e⟩
theorem Gx.drun {c : Code} {tm : List Value} (g : Gx P W q [.code c] .normal tm df h (SegQ P W q k Q)) : GxD P W q (.code c :: k) .normal tm df h Q := by
  obtain ⟨x', tm', df', h', r, hl, g'⟩ := g.1 rfl
  exact ⟨fun _ => DRun.of_run r ⟨hl, g'⟩, fun e => absurd rfl e⟩
theorem GoD.seg {c : Code} (g : Go P W q n [.code c] .normal ov df h (SegQ P W q k Q)) : GoD P W q n (.code c :: k) .normal ov df h Q := fun tm hN hr => Gx.drun (g tm hN hr)
theorem GoD.back (g : GoD P W q n k x ov df h Q) : Go P W q n [] x ov df h (SegQ P W q k Q) := fun tm hN hr => g tm hN hr
theorem GoD.loop {α : Type} (fr : α → Ov) (dfs : α → List Nat) (hp : α → AHeap) (I : α → Prop) (ms : α → Nat) (a₀ : α) {c : Code}
    (h0 : I a₀) (hs : Ov.sub ov (fr a₀)) (hd : df = dfs a₀) (hh : h = hp a₀)
    (round : ∀ a, I a → GoD P W q n (.code c :: .back (Round fr dfs hp I ms (ms a)) :: k) .normal (fr a) (dfs a) (hp a) Q) : GoD P W q n (.code (.loop c) :: k) .normal ov df h Q := fun tm hN hr => by
  refine ⟨fun _ => ?_, fun e => absurd rfl e⟩
  subst hd hh
  refine DRun.loop (I := fun j s => ∃ a, I a ∧ ms a = j ∧ s.tm.length = n ∧ Rp (fr a) s.tm ∧ s.df = dfs a ∧ s.h = hp a) (k₀ := ms a₀) ?_ ⟨a₀, h0, rfl, hN, hr.sub hs, rfl, rfl⟩
  rintro j ⟨tm1, df1, h1⟩ ⟨a, ha, rfl, hl, hrp, e1, e2⟩
  simp only at hl hrp e1 e2
  subst e1 e2
  refine ((round a ha tm1 hl hrp).1 rfl).mono fun x' s' ⟨n1, g1⟩ => ?_
  by_cases hx : x' = .normal
  · obtain ⟨b, hb, hm, hrb, f1, f2⟩ := g1.1 hx
    exact .inl ⟨hx, ms b, hm, b, hb, rfl, n1.trans hl, hrb, f1, f2⟩
  · exact .inr ⟨hx, (n1.trans hl).trans hN.symm, g1.2 hx⟩
theorem GoD.again {α : Type} {fr : α → Ov} {dfs : α → List Nat} {hp : α → AHeap} {I : α → Prop} {ms : α → Nat} {j : Nat} (a : α) (ha : I a) (hm : ms a < j) (hs : Ov.sub ov (fr a)) (hd : df = dfs a) (hh : h = hp a) : GoD P W q n (.back (Round fr dfs hp I ms j) :: k) .normal ov df h Q := fun tm hN hr => ⟨fun _ => ⟨a, ha, hm, hr.sub hs, hd, hh⟩, fun e => absurd rfl e⟩
theorem range2 : List.range 2 = [0, 1] := rfl
theorem GoD.next {id : Nat} {o1 o2 : Oper} {d1 d2 : Tmp} {xo : Operand} {i r c : Nat} {seen : List Nat} {es : Array MapEntry} (hk : opsOk P #[o1, o2] = true) (h1 : o1.op = .next xo false) (hd1 : o1.dst = some d1) (hN1 : dOk d1 n = true) (hg1 : o1.guard = none) (h2 : o2.op = .extract (.tmp d1) 0) (hd2 : o2.dst = some d2) (hN2 : dOk d2 n = true) (hg2 : o2.guard = none)
    (hx : evO ov xo = some (.pointer (some ⟨i, 0, none⟩))) (hi : h.get i = some (.mit (some r) c seen)) (hr : h.get r = some (.map es c)) (hb : ∀ e ∈ es.toList, e.born < c) (hW : W i)
    (g0 : (∀ e ∈ es.toList, e.born ∈ seen) → GoD P W q n k .normal ((d2, .bool false) :: (d1, .tuple #[.bool false]) :: ov) df h Q)
    (g1 : ∀ e ∈ es.toList, e.born ∉ seen → GoD P W q n k .normal ((d2, .bool true) :: (d1, .tuple #[.bool true, e.key, e.val]) :: ov) df (h.put i (some (.mit (some r) c (seen ++ [e.born])))) Q) :
    GoD P W q n (.code (.region id #[o1, o2] false) :: k) .normal ov df h Q := fun tm hN hrp => by
  refine ⟨fun _ => DRun.region hk ?_, fun e => absurd rfl e⟩
  show OpsD P W #[o1, o2] (List.range 2) tm h _
  rw [range2]
  refine ⟨o1, rfl, .inr ⟨by simp [Region.wanted, hg1], NextR h i r c seen es, OpD.next h1 (evO_eq hrp hx) hi hr hb hW, fun v h' hR => ?_⟩⟩
  have rp1 : Rp ((d1, v) :: ov) (putT tm o1.dst v) := by rw [hd1]; exact hrp.put hN hN1 v
  have l1 : (putT tm o1.dst v).length = n := by rw [putT_len]; exact hN
  rcases hR with ⟨hall, rfl, rfl⟩ | ⟨e, he, hs, rfl, rfl⟩
  · refine ⟨o2, rfl, .inr ⟨by simp [Region.wanted, hg2], fun u h'' => u = .bool false ∧ h'' = h', OpD.of_run (OpRun.extract h2 (v := .bool false) ?_) ⟨rfl, rfl⟩, ?_⟩⟩
    · rw [evO_eq rp1 (x := .tmp d1) (v := .tuple #[.bool false]) (by simp [evO, Ov.find])]; rfl
    · rintro u h'' ⟨rfl, rfl⟩
      refine ⟨?_, ?_⟩
      · rw [putT_len, putT_len]
      · exact g0 hall _ (by rw [putT_len]; exact l1) (by rw [hd2]; exact rp1.put l1 hN2 _)
  · refine ⟨o2, rfl, .inr ⟨by simp [Region.wanted, hg2], fun u h'' => u = .bool true ∧ h'' = h.put i (some (.mit (some r) c (seen ++ [e.born]))), OpD.of_run (OpRun.extract h2 (v := .bool true) ?_) ⟨rfl, rfl⟩, ?_⟩⟩
    · rw [evO_eq rp1 (x := .tmp d1) (v := .tuple #[.bool true, e.key, e.val]) (by simp [evO, Ov.find])]; rfl
    · rintro u h'' ⟨rfl, rfl⟩
      refine ⟨?_, ?_⟩
      · rw [putT_len, putT_len]
      · exact g1 e he hs _ (by rw [putT_len]; exact l1) (by rw [hd2]; exact rp1.put l1 hN2 _)
end
section
variable {P : Program} {W : Nat → Prop} {q : Bool} {N : Nat} {k : List It} {ov : Ov} {df : List Nat} {h : AHeap} {Q : PQ} {ops : Array Oper} {b₀ : Bool} {o : Oper} {os : List Oper} {d : Tmp}
theorem GoR.range {t : TypeId} {x : Operand} {r ck : Nat} {es : Array MapEntry} {kt e : TypeId} (ho : o.op = .range t x) (hd : o.dst = some d) (hN : dOk d N = true) (hgd : o.guard = none) (hx : evO ov x = some (.map (some r))) (hu : P.underlying t = some (.map kt e)) (hr : h.get r = some (.map es ck)) (g : GoR P W q N ops b₀ os k ((d, .pointer (some ⟨h.n, 0, none⟩)) :: ov) df (h.push (.mit (some r) ck [])) Q) : GoR P W q N ops b₀ (o :: os) k ov df h Q :=
  GoR.step (r := ⟨.pointer (some ⟨h.n, 0, none⟩), h.push (.mit (some r) ck []), [r], [], false, false⟩) hgd hd hN (fun tm hr' => .write fun D W' h1 h2 => OpRun.range ho (by rw [evO_eq hr' hx]; simp [aRange, hu, hr]) h1) (.inr rfl) (fun i hi => by cases hi) g
theorem GoR.entry {x : Operand} {i r c : Nat} {s : List Nat} {es : Array MapEntry} {e : MapEntry} (ho : o.op = .entry x) (hd : o.dst = some d) (hN : dOk d N = true) (hgd : o.guard = none) (hx : evO ov x = some (.pointer (some ⟨i, 0, none⟩))) (hi : h.get i = some (.mit (some r) c (s ++ [e.born]))) (hr : h.get r = some (.map es c)) (he : e ∈ es.toList) (hn : (es.toList.map (·.born)).Nodup) (g : GoR P W q N ops b₀ os k ((d, .tuple #[e.key, e.val]) :: ov) df h Q) : GoR P W q N ops b₀ (o :: os) k ov df h Q :=
  GoR.step (r := ⟨.tuple #[e.key, e.val], h, [i, r], [], false, true⟩) hgd hd hN (fun tm hr' => .read fun D W' h1 => OpRun.entry ho (evO_eq hr' hx) hi hr he hn ⟨h1 i (by simp), h1 r (by simp)⟩) (.inr rfl) (fun i hi => by cases hi) g
end
end Go.Proofs.Ytfcfgmhcphmefaa
namespace Go.Proofs.Ytfcfgmhcphmefaa
def cutM (m : Mp) (n : Nat) : Mp := fun i => if i < n then m i else none
theorem cutM_lt {m : Mp} {n i : Nat} (h : i < n) : cutM m n i = m i := if_pos h
theorem cutM_free (m : Mp) (n : Nat) : FreeFrom (cutM m n) n := fun i h => if_neg (by omega)
theorem HRel.kept {P : Program} {m : Mp} {h : AHeap} {w w' : World} (hh : HRel P m Ev h w) (hk : ∀ b, b < w.heap.size → w'.heap[b]? = w.heap[b]?) (hs : w.heap.size ≤ w'.heap.size) : HRel P m Ev h w' where
  lt := fun i l e => Nat.lt_of_lt_of_le (hh.lt i l e) hs
  typ := hh.typ
  inj := hh.inj
  roS := hh.roS
  obj := fun i l o _ a b => by
    obtain ⟨o', x, y⟩ := hh.obj i l o trivial a b
    exact ⟨o', by rw [hk l.b (hh.lt i l a)]; exact x, y⟩
def FinO (P : Program) (rs : List ResultVar) (n0 : Nat) (e : TypeId) (sz len : Nat) (cs : List Value) : PQ := fun x tm df hf => (x = .normal ∨ x = .ret) ∧ df = [] ∧
  ((len = 0 ∧ aResult P hf tm rs = some (.slice none 0 0)) ∨ (0 < len ∧ ∃ b o cap, aResult P hf tm rs = some (.slice (some ⟨b, o, none⟩) len cap) ∧ Sv hf e sz (some ⟨b, o, none⟩) len cap cs ∧ n0 ≤ b))
def outV (n len : Nat) : Value := if len = 0 then .slice none 0 0 else .slice (some ⟨n, 0, none⟩) len len
def outH (h : AHeap) (e : TypeId) (len : Nat) (cs : List Value) : AHeap := if len = 0 then h else h.push (.cells cs e)
theorem CallRun.ofOpen {P : Program} (hg0 : P.globals.size = 0) {f : FuncId} {fn : Func} {c : Code} {n : Nat} {args : List Value} {rs : List ResultVar} {ov : Ov} {h : AHeap} {e : TypeId} {sz len : Nat} {cs : List Value} (hf : P.funcs[f]? = some fn) (hb : fn.body = some c) (hN : fn.ntmps = n) (hrs : fn.results.toList = rs) (hle : args.length ≤ n) (ho : ovOf 0 args = ov)
    (hsz : sizeT P e = some sz) (hfl : ∀ x ∈ cs, flatB x = true) (hcl : cs.length = len * sz)
    (hcut : ∀ (m : Mp) (w : World) (args' : Array Value), HRel P m Ev h w → ARel m args.toArray args' → HRel P (cutM m h.n) Ev h w ∧ ARel (cutM m h.n) args.toArray args')
    (g : GoD P (fun i => i ∈ ([] : List Nat) ∨ h.n ≤ i) false n [.code c] .normal ov [] h (FinO P rs h.n e sz len cs)) : CallRun P (· ∈ ([] : List Nat)) f args.toArray h (outV h.n len) (outH h e len cs) := by
  subst ho hN hrs
  refine ⟨?_, fun m w args' hm hfr ha0 hh0 => callsIn_of_wp (F := Fence.wide) hf hb trivial ?_⟩
  · unfold outH
    split
    · exact .refl _ _
    · exact AFr.push _ _ _
  obtain ⟨hh, ha⟩ := hcut m w args' hh0 ha0
  have hlen : (args ++ List.replicate (fn.ntmps - args.length) undef).length = fn.ntmps := by simp; omega
  have hargs : ARel (cutM m h.n) (args ++ List.replicate (fn.ntmps - args.length) undef).toArray (args' ++ Array.replicate (fn.ntmps - args'.size) undef) := by
    have e : (args ++ List.replicate (fn.ntmps - args.length) undef).toArray = args.toArray ++ Array.replicate (fn.ntmps - args'.size) undef := by
      rw [← ha.1]
      apply Array.toList_inj.1
      simp
    rw [e]
    refine ha.append ⟨rfl, fun i u u' e e' => ?_⟩
    rw [e] at e'; cases e'
    have := Array.mem_of_getElem? e
    rw [Array.mem_replicate] at this
    rw [this.2]
    exact .tuple rfl fun i v v' e => by simp at e
  have d := (g (args ++ List.replicate (fn.ntmps - args.length) undef) hlen (ovOf_rp args 0 _ fun j hj => by
    simp only [Nat.zero_add, List.getD_eq_getElem?_getD]
    rw [List.getElem?_append_left hj])).1 rfl
  refine wpIn_mono (d (cutM m h.n) w ⟨_, []⟩ none (fun _ => rfl) (fun g hg => by omega) (cutM_free m h.n) ⟨hargs, ⟨rfl, fun i j d e => by simp at e⟩, hh⟩) ?_
  rintro ex A' w' ⟨s', ⟨_, hx, hdf, hv⟩, af, m₁, F, hs⟩
  have hdd : A'.defers = [] := by
    have := hs.df.1
    rw [hdf] at this
    exact List.eq_nil_of_length_eq_zero (by simpa using this.symm)
  have keep : ∀ b, b < w.heap.size → w'.heap[b]? = w.heap[b]? := fun b hb => F.keep b hb fun j k h3 h4 => by
    rcases h4 with h4 | h4
    · cases h4
    · simp only at h3; omega
  have hk0 := hh0.kept keep F.size
  have goal : ∃ v', (results fn A'.tmps).run P w' = .ok v' w' ∧ ∃ m', Fr m m' (· ∈ ([] : List Nat)) h (outH h e len cs) w w' ∧ VRel m' (outV h.n len) v' ∧ HRel P m' Ev (outH h e len cs) w' := by
    rcases hv with ⟨h0, hv⟩ | ⟨h0, b, o, cap, hv, sv, hbn⟩
    · obtain ⟨v', h1, h2⟩ := aResult_run hs.tm hs.h hv
      refine ⟨v', h1, m, ?_⟩
      have e1 : outV h.n len = .slice none 0 0 := if_pos h0
      have e2 : outH h e len cs = h := if_pos h0
      rw [e1, e2, VRel.eq_of_flat h2 rfl]
      exact ⟨⟨fun _ _ => rfl, fun i l a b _ => by omega, fun b hb _ => keep b hb, F.size, F.os, F.tape, F.output⟩, .snil, hk0⟩
    · obtain ⟨v', h1, h2⟩ := aResult_run hs.tm hs.h hv
      have e1 : outV h.n len = .slice (some ⟨h.n, 0, none⟩) len len := if_neg (by omega)
      have e2 : outH h e len cs = h.push (.cells cs e) := if_neg (by omega)
      refine ⟨v', h1, ?_⟩
      rw [e1, e2]
      cases sv with
      | @mk _ _ _ _ c₀ _ hgb hob hlb hcb =>
      have hblt := AHeap.lt hgb
      cases h2 with
      | slice0 => omega
      | @slice _ _ _ _ cap' l hm1 hcc =>
      obtain ⟨o', x1, x2⟩ := hs.h.obj b l _ trivial hm1 hgb
      cases x2 with
      | @cells _ c' _ fz hsz' hfz hval =>
      obtain ⟨ht1, ht2⟩ := hs.h.typ b l _ _ hm1 hgb
      rw [hsz] at ht1
      obtain rfl : sz = l.sz := by simpa using ht1
      have hcap : len ≤ cap' ∧ o + l.sh + cap' * l.sz ≤ c'.size := by
        have q := hsz'.2
        rcases hcc with rfl | ⟨q1, rfl⟩
        · exact ⟨hlb, by omega⟩
        · refine ⟨by omega, ?_⟩
          rw [Nat.add_mul]; omega
      have hnew : w.heap.size ≤ l.b := by
        rcases F.new b l hbn hblt hm1 with q | ⟨j, k, h3, h4, _⟩
        · exact q
        · rcases h4 with h4 | h4
          · cases h4
          · simp only at h3; omega
      have hlt' := hs.h.lt b l hm1
      have hfresh : m h.n = none := hfr h.n (Nat.le_refl _) (by rw [e2]; simp)
      obtain ⟨L, hL⟩ : ∃ L : Loc, L = ⟨l.b, o + l.sh, l.sz, len * l.sz, cap' - len⟩ := ⟨_, rfl⟩
      have hcsl : cs.length = L.A := by rw [hcl, hL]
      refine ⟨upd m h.n L, ⟨fun i hi => ?_, fun i l' a b' e' => ?_, fun b hb _ => keep b hb, F.size, F.os, F.tape, F.output⟩, ?_, ?_⟩
      · rw [AHeap.n_push] at hi
        exact upd_ne _ _ (by omega)
      · rw [AHeap.n_push] at b'
        obtain rfl : i = h.n := by omega
        rw [upd_same] at e'
        cases e'
        exact .inl (by rw [hL]; exact hnew)
      · have hq : VRel (upd m h.n L) (.slice (some ⟨h.n, 0, none⟩) len len) (.slice (some ⟨L.b, 0 + L.sh, none⟩) len cap') := .slice (upd_same _ _ _) (.inr ⟨by rw [hL]; simp, by rw [hL]; simp only; omega⟩)
        rw [hL] at hq ⊢
        simpa using hq
      · refine ⟨fun i l' e' => ?_, fun i l' c t e' q => ?_, fun i j l' k e' e'' q1 q2 q3 => ?_, fun i l' c e' q => ?_, fun i l' o₁ _ e' q => ?_⟩
        · by_cases hi : i = h.n
          · subst hi; rw [upd_same] at e'; cases e'; rw [hL]; exact hlt'
          · rw [upd_ne _ _ hi] at e'; exact hk0.lt i l' e'
        · by_cases hi : i = h.n
          · subst hi; rw [upd_same] at e'; cases e'
            rw [AHeap.get_push_same] at q; cases q
            exact ⟨by rw [hL]; exact hsz, hcsl⟩
          · rw [upd_ne _ _ hi] at e'; rw [AHeap.get_push_ne _ _ (Ne.symm hi)] at q; exact hk0.typ i l' c t e' q
        · by_cases hi : i = h.n
          · subst hi; rw [upd_same] at e'; cases e'
            by_cases hj : j = h.n
            · exact hj.symm
            · rw [upd_ne _ _ hj] at e''
              have := hh0.lt j k e''
              rw [hL] at q3; simp only at q3; omega
          · rw [upd_ne _ _ hi] at e'
            by_cases hj : j = h.n
            · subst hj; rw [upd_same] at e''; cases e''
              have := hh0.lt i l' e'
              rw [hL] at q3; simp only at q3; omega
            · rw [upd_ne _ _ hj] at e''
              rw [AHeap.get_push_ne _ _ (Ne.symm hi)] at q1
              exact hk0.inj i j l' k e' e'' q1 (AHeap.live_eq (AHeap.get_push_ne _ _ (Ne.symm hj)) q2) q3
        · by_cases hi : i = h.n
          · subst hi; rw [AHeap.get_push_same] at q; cases q
          · rw [upd_ne _ _ hi] at e'; rw [AHeap.get_push_ne _ _ (Ne.symm hi)] at q; exact hk0.roS i l' c e' q
        · by_cases hi : i = h.n
          · subst hi; rw [upd_same] at e'; cases e'
            rw [AHeap.get_push_same] at q; cases q
            refine ⟨.cells c' e fz, by rw [hL]; exact x1, .cells ⟨hcsl, ?_⟩ hfz fun j v hjv => ?_⟩
            · rw [hL]; simp only
              have := hcap.1
              have e3 : cap' * l.sz = len * l.sz + (cap' - len) * l.sz := by rw [← Nat.add_mul]; congr 1; omega
              omega
            · have hj : j < cs.length := (List.getElem?_eq_some_iff.1 hjv).1
              have hcv : c₀[o + j]? = some v := by
                rw [← hcb, List.getElem?_take_of_lt (by omega), List.getElem?_drop] at hjv
                exact hjv
              obtain ⟨u, y1, y2⟩ := hval (o + j) v hcv
              have hvf := hfl v (List.mem_of_getElem? hjv)
              obtain rfl := VRel.eq_of_flat y2 hvf
              refine ⟨u, ?_, VRel.flat _ hvf⟩
              rw [hL]; simp only
              rw [show j + (o + l.sh) = o + j + l.sh from by omega]; exact y1
          · rw [upd_ne _ _ hi] at e'; rw [AHeap.get_push_ne _ _ (Ne.symm hi)] at q
            obtain ⟨o', y1, y2⟩ := hk0.obj i l' o₁ trivial e' q
            exact ⟨o', y1, y2.mono (upd_le hfresh)⟩
  obtain ⟨v', h1, m', g1, g2, g3⟩ := goal
  rcases hx with rfl | rfl
  · exact ⟨hdd, v', h1, v', m', rfl, g1, g2, g3⟩
  · exact ⟨hdd, v', h1, v', m', rfl, g1, g2, g3⟩
section
variable {P : Program} {W : Nat → Prop} {q : Bool} {n n0 sz len : Nat} {e : TypeId} {cs : List Value} {ov : Ov} {h : AHeap} {rs : List ResultVar} {x : Exit}
theorem GoD.finO {b o cap : Nat} {vs : List Value} (hx : x = .normal ∨ x = .ret) (hr : Res P h ov rs vs) (hv : retV vs = .slice (some ⟨b, o, none⟩) len cap) (h0 : 0 < len) (hs : Sv h e sz (some ⟨b, o, none⟩) len cap cs) (hb : n0 ≤ b) : GoD P W q n [] x ov [] h (FinO P rs n0 e sz len cs) := fun tm hN hrp => ⟨hx, rfl, .inr ⟨h0, b, o, cap, by rw [← hv]; exact aResult_of (hr.eq hrp), hs, hb⟩⟩
theorem GoD.finN {vs : List Value} (hx : x = .normal ∨ x = .ret) (hr : Res P h ov rs vs) (hv : retV vs = .slice none 0 0) (h0 : len = 0) : GoD P W q n [] x ov [] h (FinO P rs n0 e sz len cs) := fun tm hN hrp => ⟨hx, rfl, .inl ⟨h0, by rw [← hv]; exact aResult_of (hr.eq hrp)⟩⟩
end
end Go.Proofs.Ytfcfgmhcphmefaa
namespace Go.Proofs.Ytfcfgmhcphmefaa
theorem HRel.fewer {P : Program} {m : Mp} {h H : AHeap} {w : World} (hh : HRel P m Ev h w) (sub : ∀ i o, H.get i = some o → h.get i = some o) : HRel P m Ev H w where
  lt := hh.lt
  typ := fun i l c t a b => hh.typ i l c t a (sub i _ b)
  inj := fun i j l k a b c d e => by
    refine hh.inj i j l k a b (fun q => c ?_) ?_ e
    · cases hc : H.get i with
      | none => rfl
      | some o => rw [sub i o hc] at q; cases q
    · obtain ⟨o, x, y⟩ := d
      exact ⟨o, sub j o x, y⟩
  roS := fun i l c a b => hh.roS i l c a (sub i _ b)
  obj := fun i l o _ a b => hh.obj i l o trivial a (sub i _ b)
theorem CallRun.frame {P : Program} {C : Nat → Prop} {f : FuncId} {args : Array Value} {H h H' h' : AHeap} {v : Value} (k : CallRun P C f args H v H') (n0 : H.n = h.n) (n1 : H'.n = h'.n) (sub : ∀ i o, H.get i = some o → h.get i = some o)
    (e1 : ∀ i, i < h.n → ¬ C i → h'.get i = h.get i) (e2 : ∀ i o, (C i ∨ h.n ≤ i) → h'.get i = some o → H'.get i = some o) : CallRun P C f args h v h' := by
  have hn : h.n ≤ h'.n := by rw [← n0, ← n1]; exact k.fr.n
  have liv : ∀ i, H.live i → h.live i := fun i ⟨o, x, y⟩ => ⟨o, sub i o x, y⟩
  have frm : ∀ i, i < h.n → C i → ∀ o, h'.get i = some o → H'.get i = some o := fun i hi hc o e => e2 i o (.inl hc) e
  refine ⟨⟨hn, e1, fun i c t hi e => ?_, fun i hi e => ?_, fun i hi e => ?_, fun i c hi e => ?_⟩, fun m w args' hm hf ha hh => ?_⟩
  · by_cases hc : C i
    · obtain ⟨c₀, a, b⟩ := k.fr.typ i c t (by omega) (frm i hi hc _ e)
      exact ⟨c₀, sub i _ a, b⟩
    · exact ⟨c, by rw [← e1 i hi hc]; exact e, rfl⟩
  · by_cases hc : C i
    · cases ho : h'.get i with
      | none => exact absurd ho e
      | some o =>
        have := k.fr.alive i (by omega) (by rw [frm i hi hc o ho]; simp)
        cases hq : H.get i with
        | none => exact absurd hq this
        | some o' => rw [sub i o' hq]; simp
    · rw [← e1 i hi hc]; exact e
  · by_cases hc : C i
    · obtain ⟨o, x, y⟩ := e
      exact liv i (k.fr.live i (by omega) ⟨o, frm i hi hc o x, y⟩)
    · exact AHeap.live_eq (e1 i hi hc) e
  · by_cases hc : C i
    · exact sub i _ (k.fr.roT i c (by omega) (frm i hi hc _ e))
    · rw [← e1 i hi hc]; exact e
  refine (k.run m w args' hm (fun i a b => hf i (by omega) (by omega)) ha (hh.fewer sub)).mono ?_
  rintro e w' ⟨v', m', rfl, F, V, R⟩
  have old : ∀ i, (i < h.n ∨ h'.n ≤ i) → m' i = m i := fun i hi => F.old i (by rw [n0, n1]; exact hi)
  have hle : m.le m' := F.le fun i a b => hf i (by omega) (by omega)
  have keep : ∀ i l, i < h.n → ¬ C i → m i = some l → h.get i ≠ none → w'.heap[l.b]? = w.heap[l.b]? := fun i l hi hc a b => by
    refine F.keep l.b (hh.lt i l a) fun j k' hj cj lj mj e => ?_
    obtain rfl := hh.inj i j l k' a mj b (liv j lj) e.symm
    exact hc cj
  have cross : ∀ i j l k', i < h.n → ¬ C i → m i = some l → h.get i ≠ none → h.n ≤ j → j < h'.n → m' j = some k' → l.b = k'.b → False := fun i j l k' hi hc a b hj hj' mj e => by
    rcases F.new j k' (by omega) (by omega) mj with q | ⟨j₀, k₀, h1, c0, l0, m0, e0⟩
    · have := hh.lt i l a; omega
    · obtain rfl := hh.inj i j₀ l k₀ a m0 b (liv j₀ l0) (by rw [e0]; exact e)
      exact hc c0
  have inN : ∀ i, h'.get i ≠ none → i < h'.n := fun i e => by
    cases q : h'.get i with
    | none => exact absurd q e
    | some o => exact AHeap.lt q
  refine ⟨v', m', rfl, ⟨old, fun i l a b c => ?_, fun b hb hk => ?_, F.size, F.os, F.tape, F.output⟩, V, ?_⟩
  · rcases F.new i l (by omega) (by omega) c with q | ⟨j, k', h1, h2, h3, h4, h5⟩
    · exact .inl q
    · exact .inr ⟨j, k', by omega, h2, liv j h3, h4, h5⟩
  · exact F.keep b hb fun j k' hj cj lj mj => hk j k' (by omega) cj (liv j lj) mj
  · refine ⟨R.lt, fun i l c t a b => ?_, fun i j l k' a b c d e => ?_, fun i l c a b => ?_, fun i l o _ a b => ?_⟩
    · by_cases hi : i < h.n ∧ ¬ C i
      · rw [old i (.inl hi.1)] at a
        rw [e1 i hi.1 hi.2] at b
        exact hh.typ i l c t a b
      · refine R.typ i l c t a (e2 i _ ?_ b)
        by_cases hc : C i
        · exact .inl hc
        · exact .inr (Nat.le_of_not_lt fun q => hi ⟨q, hc⟩)
    · have hi' := inN i c
      have hj' := inN j d.ne
      have cls : ∀ i, ¬ (i < h.n ∧ ¬ C i) → C i ∨ h.n ≤ i := fun i hi => by
        by_cases hc : C i
        · exact .inl hc
        · exact .inr (Nat.le_of_not_lt fun q => hi ⟨q, hc⟩)
      have up : ∀ i, ¬ (i < h.n ∧ ¬ C i) → h'.get i ≠ none → H'.get i ≠ none := fun i hi q => by
        cases ho : h'.get i with
        | none => exact absurd ho q
        | some o => rw [e2 i o (cls i hi) ho]; simp
      by_cases hi : i < h.n ∧ ¬ C i
      · rw [old i (.inl hi.1)] at a
        rw [e1 i hi.1 hi.2] at c
        by_cases hj : j < h.n
        · rw [old j (.inl hj)] at b
          refine hh.inj i j l k' a b c ?_ e
          by_cases cj : C j
          · obtain ⟨o, x, y⟩ := d
            exact liv j (k.fr.live j (by omega) ⟨o, frm j hj cj o x, y⟩)
          · exact AHeap.live_eq (e1 j hj cj) d
        · exact (cross i j l k' hi.1 hi.2 a c (by omega) hj' b e).elim
      · by_cases hj : j < h.n ∧ ¬ C j
        · rw [old j (.inl hj.1)] at b
          have dj := AHeap.live_eq (e1 j hj.1 hj.2) d
          by_cases hi2 : i < h.n
          · rw [old i (.inl hi2)] at a
            refine hh.inj i j l k' a b ?_ dj e
            have q := k.fr.alive i (by omega) (up i hi c)
            cases hq : H.get i with
            | none => exact absurd hq q
            | some o' => rw [sub i o' hq]; simp
          · exact (cross j i k' l hj.1 hj.2 b dj.ne (by omega) hi' a e.symm).elim
        · refine R.inj i j l k' a b (up i hi c) ?_ e
          obtain ⟨o, x, y⟩ := d
          exact ⟨o, e2 j o (cls j hj) x, y⟩
    · by_cases hi : i < h.n ∧ ¬ C i
      · rw [old i (.inl hi.1)] at a
        rw [e1 i hi.1 hi.2] at b
        exact hh.roS i l c a b
      · refine R.roS i l c a (e2 i _ ?_ b)
        by_cases hc : C i
        · exact .inl hc
        · exact .inr (Nat.le_of_not_lt fun q => hi ⟨q, hc⟩)
    · by_cases hi : i < h.n ∧ ¬ C i
      · rw [old i (.inl hi.1)] at a
        rw [e1 i hi.1 hi.2] at b
        obtain ⟨o', x, y⟩ := hh.obj i l o trivial a b
        exact ⟨o', by rw [keep i l hi.1 hi.2 a (by rw [b]; simp)]; exact x, y.mono hle⟩
      · refine R.obj i l o trivial a (e2 i _ ?_ b)
        by_cases hc : C i
        · exact .inl hc
        · exact .inr (Nat.le_of_not_lt fun q => hi ⟨q, hc⟩)
end Go.Proofs.Ytfcfgmhcphmefaa
namespace Go.Proofs.Ytfcfgmhcphmefaa
def low (n : Nat) : Value → Bool
  | .pointer (some ⟨b, _, _⟩) => Nat.blt b n
  | .slice (some ⟨b, _, _⟩) _ _ => Nat.blt b n
  | .map (some r) => Nat.blt r n
  | v => flatB v
theorem VRel.cut {m : Mp} {n : Nat} {v v' : Value} (hl : low n v = true) (h : VRel m v v') : VRel (cutM m n) v v' := by
  have lt : ∀ {a b : Nat}, Nat.blt a b = true → a < b := fun h => by simpa [Nat.blt_eq] using h
  cases h with
  | ptr h => exact .ptr (by rw [cutM_lt (lt hl)]; exact h)
  | slice h hc => exact .slice (by rw [cutM_lt (lt hl)]; exact h) hc
  | slice0 i o a => exact .slice0 i o a
  | map h => exact .map (by rw [cutM_lt (lt hl)]; exact h)
  | pnil => exact .pnil
  | snil => exact .snil
  | mnil => exact .mnil
  | bool b => exact .bool b
  | int k n => exact .int k n
  | float k n => exact .float k n
  | complex k a b => exact .complex k a b
  | string s => exact .string s
  | nilFunc => exact .nilFunc
  | nilIface => exact .nilIface
  | func hf h1 h2 h3 h4 => simp [low, flatB, flat1, flat0] at hl
  | yield h => simp [low, flatB, flat1, flat0] at hl
  | iface t h =>
    have e := VRel.eq_of_flat (.iface t h) hl
    rw [e]; exact VRel.flat _ hl
  | agg h1 h3 =>
    have e := VRel.eq_of_flat (.agg h1 h3) hl
    rw [e]; exact VRel.flat _ hl
  | tuple h1 h3 =>
    have e := VRel.eq_of_flat (.tuple h1 h3) hl
    rw [e]; exact VRel.flat _ hl
def lowO (n : Nat) : AObj → Prop
  | .cells c _ => ∀ x ∈ c, low n x = true
  | .ro c => ∀ x ∈ c, low n x = true
  | .map es _ => ∀ e ∈ es.toList, low n e.key = true ∧ low n e.val = true
  | _ => False
theorem ORel.cut {P : Program} {m : Mp} {n : Nat} {l : Loc} {o : AObj} {o' : Obj} (hl : lowO n o) (h : ORel P m l o o') : ORel P (cutM m n) l o o' := by
  cases h with
  | cells hs hf hv => exact .cells hs hf fun i v e => let ⟨v', a, b⟩ := hv i v e; ⟨v', a, b.cut (hl v (List.mem_of_getElem? e))⟩
  | ro hs hv => exact .ro hs fun i v e => let ⟨v', a, b⟩ := hv i v e; ⟨v', a, b.cut (hl v (List.mem_of_getElem? e))⟩
  | map h => exact .map ⟨h.1, fun i e e' a b => by
      obtain ⟨x, y, z⟩ := h.2 i e e' a b
      have := hl e (by simpa using Array.mem_of_getElem? a)
      exact ⟨x.cut this.1, y.cut this.2, z⟩⟩
  | _ => exact hl.elim
theorem HRel.cut {P : Program} {m : Mp} {h : AHeap} {w : World} (hl : ∀ i o, h.get i = some o → lowO h.n o) (hh : HRel P m Ev h w) : HRel P (cutM m h.n) Ev h w := by
  have key : ∀ i l, cutM m h.n i = some l → m i = some l := fun i l e => by
    unfold cutM at e
    split at e
    · exact e
    · cases e
  exact { lt := fun i l e => hh.lt i l (key i l e)
          typ := fun i l c t e => hh.typ i l c t (key i l e)
          inj := fun i j l k e e' => hh.inj i j l k (key i l e) (key j k e')
          roS := fun i l c e => hh.roS i l c (key i l e)
          obj := fun i l o _ e g => by
            obtain ⟨o', a, b⟩ := hh.obj i l o trivial (key i l e) g
            exact ⟨o', a, b.cut (hl i o g)⟩ }
theorem CallS.ofOpen {P : Program} (hg0 : P.globals.size = 0) {f : FuncId} {fn : Func} {c : Code} {n : Nat} {args : List Value} {rs : List ResultVar} {ov : Ov} {h : AHeap} {e : TypeId} {sz len : Nat} {cs : List Value} (rd : List Nat) (hf : P.funcs[f]? = some fn) (hb : fn.body = some c) (hN : fn.ntmps = n) (hrs : fn.results = ⟨rs⟩) (hle : Nat.ble args.length n = true) (ho : ovOf 0 args = ov)
    (hsz : sizeT P e = some sz) (hfl : ∀ x ∈ cs, flatB x = true) (hcl : cs.length = len * sz)
    (hlow : ∀ i ∈ rd, ∀ o, h.get i = some o → lowO h.n o) (hargs : ∀ x ∈ args, low h.n x = true)
    (g : ∀ H : AHeap, H.n = h.n → (∀ i ∈ rd, H.get i = h.get i) → GoD P (fun i => i ∈ ([] : List Nat) ∨ h.n ≤ i) false n [.code c] .normal ov [] H (FinO P rs h.n e sz len cs)) :
    CallS P [] f args h fun v h' => ∃ a, v = .slice a len len ∧ Sv h' e sz a len len cs ∧ Own h.n a := by
  have hn : (restr h rd).n = h.n := restr_n h rd
  have k : CallRun P (· ∈ ([] : List Nat)) f args.toArray (restr h rd) (outV (restr h rd).n len) (outH (restr h rd) e len cs) := by
    refine CallRun.ofOpen hg0 hf hb hN (by rw [hrs]) (Nat.le_of_ble_eq_true hle) ho hsz hfl hcl (fun m w args' hh ha => ?_) ?_
    · refine ⟨HRel.cut (fun i o hi => ?_) hh, ha.1, fun i u u' e1 e2 => ?_⟩
      · obtain ⟨h1, h2⟩ := restr_some hi
        rw [hn]; exact hlow i h2 o h1
      · rw [hn]
        exact (ha.2 i u u' e1 e2).cut (hargs u (by simpa using List.mem_of_getElem? (by simpa using e1)))
    · rw [hn]
      exact g (restr h rd) hn fun i hi => by rw [restr_get, if_pos hi]
  rw [hn] at k
  have oh : ∀ i, i < h.n → (outH h e len cs).get i = h.get i := fun i hi => by
    unfold outH
    split
    · rfl
    · exact AHeap.get_push_ne _ _ (by omega)
  have k2 : CallRun P (· ∈ ([] : List Nat)) f args.toArray h (outV h.n len) (outH h e len cs) := by
    refine CallRun.frame k hn ?_ (fun i o hi => (restr_some hi).1) (fun i hi _ => oh i hi) fun i o hi hg => ?_
    · unfold outH
      split
      · exact hn
      · simp [hn]
    · have hi : h.n ≤ i := hi.resolve_left (by simp)
      unfold outH at hg ⊢
      split at hg
      · rw [AHeap.get_out hi] at hg; cases hg
      · rename_i h0
        rw [if_neg h0]
        have := AHeap.lt hg
        simp only [AHeap.n_push] at this
        obtain rfl : i = h.n := by omega
        rw [AHeap.get_push_same] at hg
        rw [← hg, ← hn, AHeap.get_push_same]
  refine ⟨_, _, k2, ?_⟩
  unfold outV outH
  by_cases h0 : len = 0
  · rw [if_pos h0, if_pos h0]
    subst h0
    obtain rfl : cs = [] := List.eq_nil_of_length_eq_zero (by simpa using hcl)
    exact ⟨none, rfl, .nil, Own.nil _⟩
  · rw [if_neg h0, if_neg h0]
    refine ⟨_, rfl, .mk (AHeap.get_push_same h _) (by omega) (Nat.le_refl _) (by rw [List.drop_zero, List.take_of_length_le (by omega)]), Own.mk (Nat.le_refl _)⟩
theorem GoD.finS {P : Program} {W : Nat → Prop} {q : Bool} {n n0 sz len cap : Nat} {e : TypeId} {cs : List Value} {ov : Ov} {h : AHeap} {rs : List ResultVar} {x : Exit} {a : Option Addr} {vs : List Value} (hx : x = .normal ∨ x = .ret) (hr : Res P h ov rs vs) (hv : retV vs = .slice a len cap) (hs : Sv h e sz a len cap cs) (ho : Own n0 a) (h0 : len = 0 → a = none) : GoD P W q n [] x ov [] h (FinO P rs n0 e sz len cs) := by
  cases hs with
  | nil => exact GoD.finN hx hr hv rfl
  | @mk b o _ _ c _ hg h1 h2 h3 =>
    have hl : 0 < len := Nat.pos_of_ne_zero fun q => by have := h0 q; cases this
    exact GoD.finO hx hr hv hl (.mk hg h1 h2 h3) (ho b (by simp [blk]))
end Go.Proofs.Ytfcfgmhcphmefaa
namespace Go.Proofs.Ytfcfgmhcphmefaa
section
variable {P : Program} {h : AHeap} {H : Type}
end
end Go.Proofs.Ytfcfgmhcphmefaa
namespace Go.Proofs.Ytfcfgmhcphmefaa
class MI (P : Program) (t : TypeId) (K : outParam IntKind) (z : outParam Value) : Prop where
  h : ∃ kt e, P.underlying t = some (.map kt e) ∧ P.underlying kt = some (.int K) ∧ zeroT P e = some z ∧ flatB z = true ∧ ∀ em n, calm P (Instr.checkKey em 10000 kt (.int K n)) = some ()
def al {β : Type} : List (Int × β) → Int → Option β
  | [], _ => none
  | p :: r, k => if p.1 = k then some p.2 else al r k
def aset {β : Type} : List (Int × β) → Int → β → List (Int × β)
  | [], k, v => [(k, v)]
  | p :: r, k, v => if p.1 = k then (k, v) :: r else p :: aset r k v
def kvs (K : IntKind) (f : List (Int × Value)) : List (Value × Value) := f.map fun p => (.int K p.1, p.2)
def kv (l : List MapEntry) : List (Value × Value) := l.map fun e => (e.key, e.val)
def IMap (h : AHeap) (r : Nat) (K : IntKind) (f : List (Int × Value)) : Prop := ∃ es ck, h.get r = some (.map es ck) ∧ kv es.toList = kvs K f
theorem IMap.same {h h' : AHeap} {r : Nat} {K : IntKind} {f : List (Int × Value)} (m : IMap h r K f) (s : Same h h') : IMap h' r K f := by
  obtain ⟨es, ck, g, e⟩ := m
  exact ⟨es, ck, s.get g, e⟩
theorem IMap.keeps {h h' : AHeap} {r : Nat} {K : IntKind} {f : List (Int × Value)} {wr : List Nat} (m : IMap h r K f) (s : Keeps wr h h') (hr : r ∉ wr) : IMap h' r K f := by
  obtain ⟨es, ck, g, e⟩ := m
  exact ⟨es, ck, s.get g hr, e⟩
theorem IMap.lt {h : AHeap} {r : Nat} {K : IntKind} {f : List (Int × Value)} (m : IMap h r K f) : r < h.n := by
  obtain ⟨es, ck, g, e⟩ := m
  exact AHeap.lt g
theorem eqKey_int (P : Program) (kt : TypeId) (K : IntKind) (a b : Int) : eqKey P (.int K) kt (.int K a) (.int K b) = some (a == b) := by simp [eqKey, Instr.sameNow]
theorem map_find (P : Program) (kt : TypeId) (K : IntKind) (k : Int) (v : Value) : ∀ (l : List MapEntry) (f : List (Int × Value)) (i : Nat), kv l = kvs K f →
    (al f k = none ∧ mapFind P (.int K) kt (.int K k) l i = some none ∧ kv l ++ [(.int K k, v)] = kvs K (aset f k v)) ∨
    ∃ j, mapFind P (.int K) kt (.int K k) l i = some (some (i + j)) ∧ j < l.length ∧ al f k = some (valAt l j) ∧ (l[j]?).map (·.key) = some (.int K k) ∧ kv (l.modify j fun e => { e with key := .int K k, val := v }) = kvs K (aset f k v)
  | [], f, i, h => by
    cases f with
    | nil => exact .inl ⟨rfl, rfl, rfl⟩
    | cons p r => simp [kv, kvs] at h
  | e :: l, f, i, h => by
    cases f with
    | nil => simp [kv, kvs] at h
    | cons p r =>
      simp only [kv, kvs, List.map_cons, List.cons.injEq, Prod.mk.injEq] at h
      obtain ⟨⟨h1, h2⟩, h3⟩ := h
      by_cases hk : p.1 = k
      · refine .inr ⟨0, ?_, by simp, ?_, ?_, ?_⟩
        · simp [mapFind, h1, eqKey_int, hk]
        · simp [al, hk, valAt, h2]
        · simp [h1, hk]
        · simp only [List.modify_zero_cons, kv, kvs, aset, if_pos hk, List.map_cons, h3]
      · have hk' : (k == p.1) = false := by simpa using fun e : k = p.1 => hk e.symm
        rcases map_find P kt K k v l r (i + 1) h3 with ⟨a, b, c⟩ | ⟨j, a, b, c, d, e'⟩
        · refine .inl ⟨by simp [al, hk, a], by simp only [mapFind, h1, eqKey_int, hk', b], ?_⟩
          simp only [kv, kvs] at c
          simp only [kv, kvs, aset, if_neg hk, List.map_cons, List.cons_append, c, h1, h2]
        · refine .inr ⟨j + 1, ?_, by simp; omega, ?_, by simpa using d, ?_⟩
          · simp only [mapFind, h1, eqKey_int, hk', a]; congr 2; omega
          · simp only [al, if_neg hk, c, valAt, List.getElem?_cons_succ]
          · simp only [kv, kvs] at e'
            simp only [List.modify_succ_cons, kv, kvs, aset, if_neg hk, List.map_cons, e', h1, h2]
theorem keyAt_int {P : Program} {kt : TypeId} {K : IntKind} {k : Int} {es : Array MapEntry} {em : Bool} {f : List (Int × Value)} (hu : P.underlying kt = some (.int K)) (hc : ∀ em n, calm P (Instr.checkKey em 10000 kt (.int K n)) = some ()) (he : kv es.toList = kvs K f) : keyAt P kt (.int K k) es em = mapFind P (.int K) kt (.int K k) es.toList 0 := by
  have hf : flatKeys es = true := by
    refine List.all_eq_true.2 fun e hm => ?_
    have : (e.key, e.val) ∈ kv es.toList := List.mem_map_of_mem hm
    rw [he] at this
    obtain ⟨p, -, hp⟩ := List.mem_map.1 this
    have := congrArg Prod.fst hp
    simp only at this
    rw [← this]; rfl
  have h1 : flatB (.int K k) = true := rfl
  simp only [keyAt, hu, h1, hf, hc, Bool.and_self, if_true]
theorem aLookup_int {P : Program} {h : AHeap} {t : TypeId} {K : IntKind} {z : Value} [hm : MI P t K z] {r : Nat} {f : List (Int × Value)} (m : IMap h r K f) (k : Int) (ok : Bool) : aLookup P h t (.map (some r)) (.int K k) ok = some (if ok then .tuple #[(al f k).getD z, .bool (al f k).isSome] else (al f k).getD z, [r]) := by
  obtain ⟨kt, e, h1, h2, h3, h4, h5⟩ := hm.h
  obtain ⟨es, ck, g, he⟩ := m
  simp only [aLookup, h1, h3, h4, if_true, g, keyAt_int h2 h5 he]
  rcases map_find P kt K k z es.toList f 0 he with ⟨a, b, -⟩ | ⟨j, a, -, c, -, -⟩
  · simp [a, b]
  · simp [a, c]
theorem aUpdate_int {P : Program} {h : AHeap} {t : TypeId} {K : IntKind} {z : Value} [hm : MI P t K z] {r : Nat} {f : List (Int × Value)} (m : IMap h r K f) (k : Int) (v : Value) : ∃ o, aUpdate P h t (.map (some r)) (.int K k) v = some (h.put r (some o), r) ∧ IMap (h.put r (some o)) r K (aset f k v) := by
  obtain ⟨kt, e, h1, h2, h3, h4, h5⟩ := hm.h
  obtain ⟨es, ck, g, he⟩ := m
  have hr := AHeap.lt g
  rcases map_find P kt K k v es.toList f 0 he with ⟨a, b, c⟩ | ⟨j, a, b, c, d, d2⟩
  · refine ⟨.map (es.push { key := .int K k, val := v, born := ck }) (ck + 1), ?_, _, _, AHeap.get_put_same _ hr _, ?_⟩
    · simp only [aUpdate, h1, g, keyAt_int h2 h5 he, b]
    · rw [← c]; simp [kv]
  · rw [Nat.zero_add] at a
    have hs : keyStays es j (.int K k) = true := by
      have : (es[j]?).map (·.key) = some (.int K k) := by simpa using d
      simp [keyStays, this, Instr.sameBits]
    refine ⟨.map (es.modify j fun e => { e with key := .int K k, val := v }) ck, ?_, _, _, AHeap.get_put_same _ hr _, ?_⟩
    · simp only [aUpdate, h1, g, keyAt_int h2 h5 he, a, hs, if_true]
    · rw [← d2]; simp
section
variable {P : Program} {h : AHeap} {o : Oper} {ov : Ov} {W : Nat → Prop} {q : Bool} {N : Nat} {ops : Array Oper} {os : List Oper} {k : List It} {df : List Nat} {Q : PQ} {d : Nat} {b₀ : Bool}
theorem S.makeMap {t : TypeId} (ho : o.op = .makeMap t none) : ∀ tm, Rp ov tm → OpOk P o tm h ⟨.map (some h.n), h.push (.map #[] 0), [], [], false, false⟩ := fun tm hr => .new fun D W => OpRun.makeMap ho
theorem S.lookup {t : TypeId} {x y : Operand} {K : IntKind} {z : Value} {r : Nat} {f : List (Int × Value)} {n : Int} {ok : Bool} [hm : MI P t K z] (ho : o.op = .lookup t x y ok) (hx : evO ov x = some (.map (some r))) (hy : evO ov y = some (.int K n)) (m : IMap h r K f) : ∀ tm, Rp ov tm → OpOk P o tm h ⟨if ok then .tuple #[(al f n).getD z, .bool (al f n).isSome] else (al f n).getD z, h, [r], [], false, true⟩ := fun tm hr => .read fun D W hD => OpRun.lookup ho (by rw [evO_eq hr hx, evO_eq hr hy]; exact aLookup_int m n ok) hD
theorem GoR.makeMap {t : TypeId} (ho : o.op = .makeMap t none) (hd : o.dst = some d) (hN : dOk d N = true) (hgd : o.guard = none) (g : ∀ h', (∀ K, IMap h' h.n K []) → Same h h' → h'.n = h.n + 1 → GoR P W q N ops b₀ os k ((d, .map (some h.n)) :: ov) df h' Q) : GoR P W q N ops b₀ (o :: os) k ov df h Q := GoR.step (r := ⟨.map (some h.n), h.push (.map #[] 0), [], [], false, false⟩) hgd hd hN (S.makeMap ho) (.inr rfl) (fun i hi => by cases hi) (g _ (fun K => ⟨_, _, AHeap.get_push_same _ _, rfl⟩) ((Same.refl h).push _) rfl)
theorem GoR.lookup {t : TypeId} {x y : Operand} {K : IntKind} {z : Value} {r : Nat} {f : List (Int × Value)} {n : Int} [hm : MI P t K z] (ho : o.op = .lookup t x y false) (hd : o.dst = some d) (hN : dOk d N = true) (hgd : o.guard = none) (hx : evO ov x = some (.map (some r))) (hy : evO ov y = some (.int K n)) (m : IMap h r K f) (g : GoR P W q N ops b₀ os k ((d, (al f n).getD z) :: ov) df h Q) : GoR P W q N ops b₀ (o :: os) k ov df h Q := GoR.step (r := ⟨(al f n).getD z, h, [r], [], false, true⟩) hgd hd hN (S.lookup ho hx hy m) (.inr rfl) (fun i hi => by cases hi) g
theorem GoR.lookup2 {t : TypeId} {x y : Operand} {K : IntKind} {z : Value} {r : Nat} {f : List (Int × Value)} {n : Int} [hm : MI P t K z] (ho : o.op = .lookup t x y true) (hd : o.dst = some d) (hN : dOk d N = true) (hgd : o.guard = none) (hx : evO ov x = some (.map (some r))) (hy : evO ov y = some (.int K n)) (m : IMap h r K f) (g : GoR P W q N ops b₀ os k ((d, .tuple #[(al f n).getD z, .bool (al f n).isSome]) :: ov) df h Q) : GoR P W q N ops b₀ (o :: os) k ov df h Q := GoR.step (r := ⟨.tuple #[(al f n).getD z, .bool (al f n).isSome], h, [r], [], false, true⟩) hgd hd hN (S.lookup ho hx hy m) (.inr rfl) (fun i hi => by cases hi) g
theorem GoR.mapUpdate {t : TypeId} {x y v : Operand} {K : IntKind} {z : Value} {r : Nat} {f : List (Int × Value)} {n : Int} {u : Value} [hm : MI P t K z] (ho : o.op = .mapUpdate t x y v ∨ o.op = .insert t x y v) (hd : o.dst = none) (hgd : o.guard = none) (hx : evO ov x = some (.map (some r))) (hy : evO ov y = some (.int K n)) (hv : evO ov v = some u) (m : IMap h r K f) (hw : W r) (g : ∀ h', IMap h' r K (aset f n u) → Keeps [r] h h' → h'.n = h.n → GoR P W q N ops true os k ov df h' Q) : GoR P W q N ops true (o :: os) k ov df h Q := by
  obtain ⟨ob, h1, h2⟩ := aUpdate_int (P := P) (t := t) m n u
  exact GoR.step0 (r := ⟨undef, h.put r (some ob), [r], [r], false, false⟩) hgd hd (fun tm hr => .write fun D W hD hW => OpRun.mapUpdate ho (by rw [evO_eq hr hx, evO_eq hr hy, evO_eq hr hv]; exact h1) (hD r (by simp)) (hW r (by simp)).2) (.inl rfl) (fun i hi => by simp at hi; subst hi; exact hw) (g _ h2 ⟨Nat.le_refl _, fun i hi hn => AHeap.get_put_ne _ _ (fun e => hn (by simp [e]))⟩ rfl)
end
end Go.Proofs.Ytfcfgmhcphmefaa
namespace Go.Proofs.Ytfcfgmhcphmefaa
def adel {β : Type} : List (Int × β) → Int → List (Int × β)
  | [], _ => []
  | p :: r, k => if p.1 = k then r else p :: adel r k
def stampsOk (es : Array MapEntry) (ck : Nat) : Prop := (∀ e ∈ es.toList, e.born < ck) ∧ (es.toList.map (·.born)).Nodup
def SMap (h : AHeap) (r : Nat) (K : IntKind) (f : List (Int × Value)) : Prop := ∃ es ck, h.get r = some (.map es ck) ∧ kv es.toList = kvs K f ∧ stampsOk es ck
theorem SMap.imap {h : AHeap} {r : Nat} {K : IntKind} {f : List (Int × Value)} (m : SMap h r K f) : IMap h r K f := let ⟨es, ck, g, e, _⟩ := m; ⟨es, ck, g, e⟩
theorem SMap.same {h h' : AHeap} {r : Nat} {K : IntKind} {f : List (Int × Value)} (m : SMap h r K f) (s : Same h h') : SMap h' r K f := let ⟨es, ck, g, e⟩ := m; ⟨es, ck, s.get g, e⟩
theorem SMap.keeps {h h' : AHeap} {r : Nat} {K : IntKind} {f : List (Int × Value)} {wr : List Nat} (m : SMap h r K f) (s : Keeps wr h h') (hr : r ∉ wr) : SMap h' r K f := let ⟨es, ck, g, e⟩ := m; ⟨es, ck, s.get g hr, e⟩
theorem SMap.lt {h : AHeap} {r : Nat} {K : IntKind} {f : List (Int × Value)} (m : SMap h r K f) : r < h.n := m.imap.lt
theorem map_find_del (P : Program) (kt : TypeId) (K : IntKind) (k : Int) : ∀ (l : List MapEntry) (f : List (Int × Value)) (i : Nat), kv l = kvs K f →
    (adel f k = f ∧ mapFind P (.int K) kt (.int K k) l i = some none) ∨ ∃ j, mapFind P (.int K) kt (.int K k) l i = some (some (i + j)) ∧ j < l.length ∧ kv (l.eraseIdx j) = kvs K (adel f k)
  | [], f, i, h => by
    cases f with
    | nil => exact .inl ⟨rfl, rfl⟩
    | cons p r => simp [kv, kvs] at h
  | e :: l, f, i, h => by
    cases f with
    | nil => simp [kv, kvs] at h
    | cons p r =>
      simp only [kv, kvs, List.map_cons, List.cons.injEq, Prod.mk.injEq] at h
      obtain ⟨⟨h1, h2⟩, h3⟩ := h
      by_cases hk : p.1 = k
      · refine .inr ⟨0, ?_, by simp, ?_⟩
        · simp [mapFind, h1, eqKey_int, hk]
        · simp only [adel, if_pos hk, List.eraseIdx_cons_zero]; exact h3
      · have hk' : (k == p.1) = false := by simpa using fun e : k = p.1 => hk e.symm
        rcases map_find_del P kt K k l r (i + 1) h3 with ⟨a, b⟩ | ⟨j, a, b, c⟩
        · exact .inl ⟨by simp only [adel, if_neg hk, a], by simp only [mapFind, h1, eqKey_int, hk', b]⟩
        · refine .inr ⟨j + 1, ?_, by simp; omega, ?_⟩
          · simp only [mapFind, h1, eqKey_int, hk', a]; congr 2; omega
          · simp only [kv, kvs] at c
            simp only [List.eraseIdx_cons_succ, kv, kvs, adel, if_neg hk, List.map_cons, c, h1, h2]
theorem aUpdate_S {P : Program} {h : AHeap} {t : TypeId} {K : IntKind} {z : Value} [hm : MI P t K z] {r : Nat} {f : List (Int × Value)} (m : SMap h r K f) (k : Int) (v : Value) : ∃ o, aUpdate P h t (.map (some r)) (.int K k) v = some (h.put r (some o), r) ∧ SMap (h.put r (some o)) r K (aset f k v) := by
  obtain ⟨kt, e, h1, h2, h3, h4, h5⟩ := hm.h
  obtain ⟨es, ck, g, he, hb, hn⟩ := m
  have hr := AHeap.lt g
  rcases map_find P kt K k v es.toList f 0 he with ⟨a, b, c⟩ | ⟨j, a, b, c, d, d2⟩
  · refine ⟨.map (es.push { key := .int K k, val := v, born := ck }) (ck + 1), ?_, _, _, AHeap.get_put_same _ hr _, ?_, ?_, ?_⟩
    · simp only [aUpdate, h1, g, keyAt_int h2 h5 he, b]
    · rw [← c]; simp [kv]
    · intro x hx
      rw [Array.toList_push, List.mem_append] at hx
      rcases hx with hx | hx
      · have := hb x hx; omega
      · simp only [List.mem_singleton] at hx; rw [hx]; exact Nat.lt_succ_self _
    · rw [Array.toList_push, List.map_append, List.nodup_append]
      refine ⟨hn, by simp, fun x hx y hy => ?_⟩
      obtain ⟨e', he', rfl⟩ := List.mem_map.1 hx
      simp only [List.map_cons, List.map_nil, List.mem_singleton] at hy
      have := hb e' he'; omega
  · rw [Nat.zero_add] at a
    have hs : keyStays es j (.int K k) = true := by
      have : (es[j]?).map (·.key) = some (.int K k) := by simpa using d
      simp [keyStays, this, Instr.sameBits]
    have hbs : (es.modify j fun e => { e with key := .int K k, val := v }).toList.map (·.born) = es.toList.map (·.born) := by
      apply List.ext_getElem?
      intro i
      simp only [Array.toList_modify, List.getElem?_map, List.getElem?_modify]
      cases es.toList[i]? with
      | none => rfl
      | some y => simp only [Option.map_some, Option.map_eq_map]; split <;> rfl
    refine ⟨.map (es.modify j fun e => { e with key := .int K k, val := v }) ck, ?_, _, _, AHeap.get_put_same _ hr _, ?_, ?_, ?_⟩
    · simp only [aUpdate, h1, g, keyAt_int h2 h5 he, a, hs, if_true]
    · rw [← d2]; simp
    · intro x hx
      have : x.born ∈ (es.modify j fun e => { e with key := .int K k, val := v }).toList.map (·.born) := List.mem_map_of_mem hx
      rw [hbs] at this
      obtain ⟨e', he', hq⟩ := List.mem_map.1 this
      have := hb e' he'; omega
    · rw [hbs]; exact hn
theorem aDelete_S {P : Program} {h : AHeap} {t : TypeId} {K : IntKind} {z : Value} [hm : MI P t K z] {r : Nat} {f : List (Int × Value)} (m : SMap h r K f) (k : Int) : ∃ o, aDelete P h t (.map (some r)) (.int K k) = some (h.put r (some o), [r]) ∧ SMap (h.put r (some o)) r K (adel f k) := by
  obtain ⟨kt, e, h1, h2, h3, h4, h5⟩ := hm.h
  obtain ⟨es, ck, g, he, hb, hn⟩ := m
  have hr := AHeap.lt g
  rcases map_find_del P kt K k es.toList f 0 he with ⟨a, b⟩ | ⟨j, a, b, c⟩
  · refine ⟨.map es ck, ?_, es, ck, AHeap.get_put_same _ hr _, ?_, hb, hn⟩
    · simp only [aDelete, h1, g, keyAt_int h2 h5 he, b]
    · rw [a]; exact he
  · rw [Nat.zero_add] at a
    have hj : j < es.size := by simpa using b
    have ht : (es.eraseIdxIfInBounds j).toList = es.toList.eraseIdx j := by
      rw [Array.eraseIdxIfInBounds, dif_pos hj, Array.toList_eraseIdx]
    refine ⟨.map (es.eraseIdxIfInBounds j) ck, ?_, _, _, AHeap.get_put_same _ hr _, ?_, ?_, ?_⟩
    · simp only [aDelete, h1, g, keyAt_int h2 h5 he, a]
    · rw [ht]; exact c
    · rw [ht]; exact fun x hx => hb x (List.mem_of_mem_eraseIdx hx)
    · rw [ht]; exact hn.sublist ((List.eraseIdx_sublist _ _).map _)
section
variable {P : Program} {h : AHeap} {o : Oper} {ov : Ov} {W : Nat → Prop} {q : Bool} {N : Nat} {ops : Array Oper} {os : List Oper} {k : List It} {df : List Nat} {Q : PQ} {d : Nat} {b₀ : Bool}
theorem GoR.mapUpdateS {t : TypeId} {x y v : Operand} {K : IntKind} {z : Value} {r : Nat} {f : List (Int × Value)} {n : Int} {u : Value} [hm : MI P t K z] (ho : o.op = .mapUpdate t x y v ∨ o.op = .insert t x y v) (hd : o.dst = none) (hgd : o.guard = none) (hx : evO ov x = some (.map (some r))) (hy : evO ov y = some (.int K n)) (hv : evO ov v = some u) (m : SMap h r K f) (hw : W r) (g : ∀ h', SMap h' r K (aset f n u) → Keeps [r] h h' → h'.n = h.n → GoR P W q N ops true os k ov df h' Q) : GoR P W q N ops true (o :: os) k ov df h Q := by
  obtain ⟨ob, h1, h2⟩ := aUpdate_S (P := P) (t := t) m n u
  exact GoR.step0 (r := ⟨undef, h.put r (some ob), [r], [r], false, false⟩) hgd hd (fun tm hr => .write fun D W hD hW => OpRun.mapUpdate ho (by rw [evO_eq hr hx, evO_eq hr hy, evO_eq hr hv]; exact h1) (hD r (by simp)) (hW r (by simp)).2) (.inl rfl) (fun i hi => by simp at hi; subst hi; exact hw) (g _ h2 ⟨Nat.le_refl _, fun i hi hn => AHeap.get_put_ne _ _ (fun e => hn (by simp [e]))⟩ rfl)
theorem GoR.deleteS {t t₂ : TypeId} {x y : Operand} {K : IntKind} {z : Value} {r : Nat} {f : List (Int × Value)} {n : Int} [hm : MI P t K z] (ho : o.op = .call ⟨.builtin .delete, #[x, y], #[t, t₂]⟩) (hd : o.dst = none) (hgd : o.guard = none) (hx : evO ov x = some (.map (some r))) (hy : evO ov y = some (.int K n)) (m : SMap h r K f) (hw : W r) (g : ∀ h', SMap h' r K (adel f n) → Keeps [r] h h' → h'.n = h.n → GoR P W q N ops true os k ov df h' Q) : GoR P W q N ops true (o :: os) k ov df h Q := by
  obtain ⟨ob, h1, h2⟩ := aDelete_S (P := P) (t := t) m n
  exact GoR.step0 (r := ⟨undef, h.put r (some ob), [r], [r], false, false⟩) hgd hd (fun tm hr => .write fun D W hD hW => OpRun.delete ho (by rw [evO_eq hr hx, evO_eq hr hy]; exact h1) (fun i hi => hD i hi) (fun i hi => (hW i hi).2)) (.inl rfl) (fun i hi => by simp at hi; subst hi; exact hw) (g _ h2 ⟨Nat.le_refl _, fun i hi hn => AHeap.get_put_ne _ _ (fun e => hn (by simp [e]))⟩ rfl)
theorem GoR.lenMapS {t : TypeId} {x : Operand} {K : IntKind} {z : Value} {r : Nat} {f : List (Int × Value)} [hm : MI P t K z] (ho : o.op = .call ⟨.builtin .len, #[x], #[t]⟩) (hd : o.dst = some d) (hN : dOk d N = true) (hgd : o.guard = none) (hx : evO ov x = some (.map (some r))) (m : IMap h r K f) (g : GoR P W q N ops b₀ os k ((d, .int .i64 f.length) :: ov) df h Q) : GoR P W q N ops b₀ (o :: os) k ov df h Q := by
  obtain ⟨kt, e, h1, h2, h3, h4, h5⟩ := hm.h
  obtain ⟨es, ck, gg, he⟩ := m
  have hl : es.size = f.length := by have := congrArg List.length he; simpa [kv, kvs] using this
  exact GoR.step (r := ⟨.int .i64 f.length, h, [r], [], false, true⟩) hgd hd hN (fun tm hr => .read fun D W hD => OpRun.len ho (by rw [evO_eq hr hx]; simp [aLen, h1, gg, hl]) hD) (.inr rfl) (fun i hi => by cases hi) g
theorem GoL.lookup2 {tr : List (Option LE)} {t : TypeId} {x y : Operand} {K : IntKind} {z : Value} {r : Nat} {f : List (Int × Value)} {n : Int} [hm : MI P t K z] (ho : o.op = .lookup t x y true) (hd : o.dst = some d) (hN : dOk d N = true) (hgd : o.guard = none) (hx : evO ov x = some (.map (some r))) (hy : evO ov y = some (.int K n)) (m : IMap h r K f) (g : GoL P W q N ops (tr ++ [some ⟨h.n, h.n, [r], [], false, true⟩]) os k ((d, .tuple #[(al f n).getD z, .bool (al f n).isSome]) :: ov) df h Q) : GoL P W q N ops tr (o :: os) k ov df h Q := GoL.step (r := ⟨.tuple #[(al f n).getD z, .bool (al f n).isSome], h, [r], [], false, true⟩) (some ⟨h.n, h.n, [r], [], false, true⟩) ⟨rfl, rfl, rfl, rfl, rfl, rfl⟩ hgd hd hN (S.lookup ho hx hy m) (fun i hi => by cases hi) g
theorem GoL.deleteS {tr : List (Option LE)} {t t₂ : TypeId} {x y : Operand} {K : IntKind} {z : Value} {r : Nat} {f : List (Int × Value)} {n : Int} [hm : MI P t K z] (ho : o.op = .call ⟨.builtin .delete, #[x, y], #[t, t₂]⟩) (hd : o.dst = none) (hgd : o.guard = none) (hx : evO ov x = some (.map (some r))) (hy : evO ov y = some (.int K n)) (m : SMap h r K f) (hw : W r) (g : ∀ h', SMap h' r K (adel f n) → Keeps [r] h h' → h'.n = h.n → GoL P W q N ops (tr ++ [some ⟨h.n, h.n, [r], [r], false, false⟩]) os k ov df h' Q) : GoL P W q N ops tr (o :: os) k ov df h Q := by
  obtain ⟨ob, h1, h2⟩ := aDelete_S (P := P) (t := t) m n
  exact GoL.step0 (r := ⟨undef, h.put r (some ob), [r], [r], false, false⟩) (some ⟨h.n, h.n, [r], [r], false, false⟩) ⟨rfl, rfl, rfl, rfl, rfl, rfl⟩ hgd hd (fun tm hr => .write fun D W hD hW => OpRun.delete ho (by rw [evO_eq hr hx, evO_eq hr hy]; exact h1) (fun i hi => hD i hi) (fun i hi => (hW i hi).2)) (fun i hi => by simp at hi; subst hi; exact hw) (g _ h2 ⟨Nat.le_refl _, fun i hi hn => AHeap.get_put_ne _ _ (fun e => hn (by simp [e]))⟩ rfl)
end
end Go.Proofs.Ytfcfgmhcphmefaa
namespace Go.Proofs.Ytfcfgmhcphmefaa
section
variable {P : Program} {h : AHeap} {o : Oper} {ov : Ov} {W : Nat → Prop} {q : Bool} {N : Nat} {ops : Array Oper} {os : List Oper} {k : List It} {df : List Nat} {Q : PQ} {d : Nat} {b₀ : Bool}
end
end Go.Proofs.Ytfcfgmhcphmefaa
namespace Go.Proofs.Ytfcfgmhcphmefaa
section
variable {P : Program} {W : Nat → Prop} {q : Bool} {N : Nat} {k : List It} {ov : Ov} {df : List Nat} {h : AHeap} {Q : PQ} {ops : Array Oper} {os : List Oper} {o : Oper} {d : Nat} {b₀ : Bool} {tr : List (Option LE)}
theorem S.boolNe {t t₂ : TypeId} {x y : Operand} {a b : Bool} (ho : o.op = .binOp .neq t x y t₂) (hx : evO ov x = some (.bool a)) (hy : evO ov y = some (.bool b)) (hu : P.underlying t = some .bool) : ∀ tm, Rp ov tm → OpOk P o tm h (pureO h (.bool (!(a == b)))) := fun tm hr =>
  OpOk.flat (by simp [ho]) rfl fun m w A hA => by
    have h1 := hA x (by simp [ho, Op.operands])
    have h2 := hA y (by simp [ho, Op.operands])
    rw [evO_eq hr hx] at h1
    rw [evO_eq hr hy] at h2
    have e1 := VRel.eq_of_flat h1 rfl
    have e2 := VRel.eq_of_flat h2 rfl
    simp [execOp, ho, e1, e2, eqGuard, binOp, run_equal_bool w t a b hu]
theorem GoR.boolNe {t t₂ : TypeId} {x y : Operand} {a b : Bool} (ho : o.op = .binOp .neq t x y t₂) (hd : o.dst = some d) (hN : dOk d N = true) (hgd : o.guard = none) (hx : evO ov x = some (.bool a)) (hy : evO ov y = some (.bool b)) (hu : P.underlying t = some .bool) (g : GoR P W q N ops b₀ os k ((d, .bool (!(a == b))) :: ov) df h Q) : GoR P W q N ops b₀ (o :: os) k ov df h Q :=
  GoR.step (r := pureO h _) hgd hd hN (S.boolNe ho hx hy hu) (.inr rfl) (fun i hi => by cases hi) g
end
end Go.Proofs.Ytfcfgmhcphmefaa