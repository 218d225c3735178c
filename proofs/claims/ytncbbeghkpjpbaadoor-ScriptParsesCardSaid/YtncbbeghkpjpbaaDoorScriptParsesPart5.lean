/- What the law leans on, part 5. No conditions. -/
import Derived.Laws.Externs
import Derived.Below
import Derived.Lib.LaidTab
import Derived.Stop.LaidErr
import Derived.Lib.UnsafeStr
import Derived.Laws.Small
import Derived.Test.YtncbbeghkpjpbaaDoorScriptParsesPart4
set_option linter.unusedVariables false
set_option linter.unusedSimpArgs false
namespace Go.Proofs.YtncbbeghkpjpbaaDoor
theorem Rv.pushPut {P : Program} {h : AHeap} {sz len cap : Nat} {a : Option Addr} {cs : List Value} (k : Rv P h sz a len cap cs) (A : AObj) (B : Option AObj) : Rv P ((h.push A).put h.n B) sz a len cap cs := k.same (((Same.refl h).push A).put (Nat.le_refl _) B)
section
variable {P : Program} {W : Nat → Prop} {q : Bool} {N : Nat} {k : List It} {ov : Ov} {df : List Nat} {h : AHeap} {Q : PQ} {id : Nat} {ops : Array Oper} {os : List Oper} {o : Oper} {d : Nat} {b₀ : Bool} {tr : List (Option LE)}
theorem GoR.wanted' {j t : Nat} {w B : Bool} {oj : Oper} (hg : o.guard = some (j, w)) (hj : ops[j]? = some oj) (hdj : oj.dst = some t) (hv : ov.find t = some (.bool B)) (hB : B = w := by first | with_reducible rfl | with_reducible assumption | (with_reducible refine @decide_eq_true _ _ ?_; first | with_reducible rfl | omega) | (with_reducible refine @decide_eq_false _ _ ?_; omega) | with_reducible exact Bool.not_false | with_reducible exact Bool.not_true | (simp; fail_if_success focus skip) | (simp; omega)) (g : GoR P W q N ops b₀ ({ o with guard := none } :: os) k ov df h Q) : GoR P W q N ops b₀ (o :: os) k ov df h Q := GoR.wanted hg hj hdj hv hB g
theorem GoL.wanted' {j t : Nat} {w B : Bool} {oj : Oper} (hg : o.guard = some (j, w)) (hj : ops[j]? = some oj) (hdj : oj.dst = some t) (hv : ov.find t = some (.bool B)) (hB : B = w := by first | with_reducible rfl | with_reducible assumption | (with_reducible refine @decide_eq_true _ _ ?_; first | with_reducible rfl | omega) | (with_reducible refine @decide_eq_false _ _ ?_; omega) | with_reducible exact Bool.not_false | with_reducible exact Bool.not_true | (simp; fail_if_success focus skip) | (simp; omega)) (g : GoL P W q N ops tr ({ o with guard := none } :: os) k ov df h Q) : GoL P W q N ops tr (o :: os) k ov df h Q := GoL.wanted hg hj hdj hv hB g
theorem GoR.unwanted' {b : Bool} {j t : Nat} {w B : Bool} {oj : Oper} (hg : o.guard = some (j, w)) (hj : ops[j]? = some oj) (hdj : oj.dst = some t) (hv : ov.find t = some (.bool B)) (hB : B = !w := by first | with_reducible rfl | with_reducible assumption | (with_reducible refine @decide_eq_true _ _ ?_; first | with_reducible rfl | omega) | (with_reducible refine @decide_eq_false _ _ ?_; omega) | with_reducible exact Bool.not_false | with_reducible exact Bool.not_true | (simp; fail_if_success focus skip) | (simp; omega)) (hd : o.dst = some d) (hN : dOk d N = true) (g : GoR P W q N ops b os k ((d, undef) :: ov) df h Q) : GoR P W q N ops b (o :: os) k ov df h Q := GoR.unwanted hg hj hdj hv hB hd hN g
theorem GoL.unwanted' {tr : List (Option LE)} {j t : Nat} {w B : Bool} {oj : Oper} (hg : o.guard = some (j, w)) (hj : ops[j]? = some oj) (hdj : oj.dst = some t) (hv : ov.find t = some (.bool B)) (hB : B = !w := by first | with_reducible rfl | with_reducible assumption | (with_reducible refine @decide_eq_true _ _ ?_; first | with_reducible rfl | omega) | (with_reducible refine @decide_eq_false _ _ ?_; omega) | with_reducible exact Bool.not_false | with_reducible exact Bool.not_true | (simp; fail_if_success focus skip) | (simp; omega)) (hd : o.dst = some d) (hN : dOk d N = true) (g : GoL P W q N ops (tr ++ [none]) os k ((d, undef) :: ov) df h Q) : GoL P W q N ops tr (o :: os) k ov df h Q := GoL.unwanted hg hj hdj hv hB hd hN g
theorem GoR.pickE' {c x y : Operand} {B : Bool} {u v : Value} (ho : o.op = .pick c x y) (hd : o.dst = some d) (hN : dOk d N = true) (hgd : o.guard = none) (hc : evO ov c = some (.bool B)) (hB : B = true := by first | with_reducible rfl | with_reducible assumption | (with_reducible refine @decide_eq_true _ _ ?_; first | with_reducible rfl | omega) | (with_reducible refine @decide_eq_false _ _ ?_; omega) | with_reducible exact Bool.not_false | with_reducible exact Bool.not_true | (simp; fail_if_success focus skip) | (simp; omega)) (hx : evO ov x = some u) (hy : evO ov y = some v) (g : GoR P W q N ops b₀ os k ((d, u) :: ov) df h Q) : GoR P W q N ops b₀ (o :: os) k ov df h Q := GoR.pickE ho hd hN hgd hc hB hx hy g
theorem GoL.pickE' {c x y : Operand} {B : Bool} {u v : Value} (ho : o.op = .pick c x y) (hd : o.dst = some d) (hN : dOk d N = true) (hgd : o.guard = none) (hc : evO ov c = some (.bool B)) (hB : B = true := by first | with_reducible rfl | with_reducible assumption | (with_reducible refine @decide_eq_true _ _ ?_; first | with_reducible rfl | omega) | (with_reducible refine @decide_eq_false _ _ ?_; omega) | with_reducible exact Bool.not_false | with_reducible exact Bool.not_true | (simp; fail_if_success focus skip) | (simp; omega)) (hx : evO ov x = some u) (hy : evO ov y = some v) (g : GoL P W q N ops (tr ++ [none]) os k ((d, u) :: ov) df h Q) : GoL P W q N ops tr (o :: os) k ov df h Q := GoL.pickE ho hd hN hgd hc hB hx hy g
theorem GoR.pickN' {c x y : Operand} {B : Bool} {u v : Value} (ho : o.op = .pick c x y) (hd : o.dst = some d) (hN : dOk d N = true) (hgd : o.guard = none) (hc : evO ov c = some (.bool B)) (hB : B = false := by first | with_reducible rfl | with_reducible assumption | (with_reducible refine @decide_eq_true _ _ ?_; first | with_reducible rfl | omega) | (with_reducible refine @decide_eq_false _ _ ?_; omega) | with_reducible exact Bool.not_false | with_reducible exact Bool.not_true | (simp; fail_if_success focus skip) | (simp; omega)) (hx : evO ov x = some u) (hy : evO ov y = some v) (g : GoR P W q N ops b₀ os k ((d, v) :: ov) df h Q) : GoR P W q N ops b₀ (o :: os) k ov df h Q := GoR.pickN ho hd hN hgd hc hB hx hy g
theorem GoL.pickN' {c x y : Operand} {B : Bool} {u v : Value} (ho : o.op = .pick c x y) (hd : o.dst = some d) (hN : dOk d N = true) (hgd : o.guard = none) (hc : evO ov c = some (.bool B)) (hB : B = false := by first | with_reducible rfl | with_reducible assumption | (with_reducible refine @decide_eq_true _ _ ?_; first | with_reducible rfl | omega) | (with_reducible refine @decide_eq_false _ _ ?_; omega) | with_reducible exact Bool.not_false | with_reducible exact Bool.not_true | (simp; fail_if_success focus skip) | (simp; omega)) (hx : evO ov x = some u) (hy : evO ov y = some v) (g : GoL P W q N ops (tr ++ [none]) os k ((d, v) :: ov) df h Q) : GoL P W q N ops tr (o :: os) k ov df h Q := GoL.pickN ho hd hN hgd hc hB hx hy g
theorem GoR.load' {t ct : TypeId} {x : Operand} {b off : Nat} {c : List Value} {v : Value} (ho : o.op = .load t x) (hd : o.dst = some d) (hN : dOk d N = true) (hgd : o.guard = none) (hx : evO ov x = some (.pointer (some ⟨b, off, none⟩))) [hc : CT P t none] (hg : h.get b = some (.cells c ct) := by (first | assumption | exact AHeap.get_push_same _ _ | ((repeat first | exact AHeap.get_push_same _ _ | assumption | refine get_push_lt ?_ | exact AHeap.get_put_same _ (by first | omega | (simp only [AHeap.n_push, AHeap.n_put]; omega)) _ | exact get_put_self (by assumption) | apply get_put_self | refine get_put_other (by first | omega | (simp only [AHeap.n_push, AHeap.n_put]; omega)) ?_ | refine Same.get (by assumption) ?_ | refine Keeps.get (by assumption) ?_ (fun hi => by have hx := Own.out (by assumption) hi; omega)) ; fail_if_success focus skip) | fail)) (hv : c[off]? = some v := by (first | rfl | assumption | (simp only [List.getElem?_cons_zero, List.getElem?_cons_succ, Int.toNat_natCast, Nat.mul_one, Nat.add_zero, Nat.zero_add]; first | rfl | assumption))) (g : GoR P W q N ops b₀ os k ((d, v) :: ov) df h Q) : GoR P W q N ops b₀ (o :: os) k ov df h Q := GoR.load ho hd hN hgd hx hg hv g
theorem GoL.load' {t ct : TypeId} {x : Operand} {b off : Nat} {c : List Value} {v : Value} (ho : o.op = .load t x) (hd : o.dst = some d) (hN : dOk d N = true) (hgd : o.guard = none) (hx : evO ov x = some (.pointer (some ⟨b, off, none⟩))) [hc : CT P t none] (hg : h.get b = some (.cells c ct) := by (first | assumption | exact AHeap.get_push_same _ _ | ((repeat first | exact AHeap.get_push_same _ _ | assumption | refine get_push_lt ?_ | exact AHeap.get_put_same _ (by first | omega | (simp only [AHeap.n_push, AHeap.n_put]; omega)) _ | exact get_put_self (by assumption) | apply get_put_self | refine get_put_other (by first | omega | (simp only [AHeap.n_push, AHeap.n_put]; omega)) ?_ | refine Same.get (by assumption) ?_ | refine Keeps.get (by assumption) ?_ (fun hi => by have hx := Own.out (by assumption) hi; omega)) ; fail_if_success focus skip) | fail)) (hv : c[off]? = some v := by (first | rfl | assumption | (simp only [List.getElem?_cons_zero, List.getElem?_cons_succ, Int.toNat_natCast, Nat.mul_one, Nat.add_zero, Nat.zero_add]; first | rfl | assumption))) (g : GoL P W q N ops (tr ++ [(some ⟨h.n, h.n, [b], [], false, true⟩)]) os k ((d, v) :: ov) df h Q) : GoL P W q N ops tr (o :: os) k ov df h Q := GoL.load ho hd hN hgd hx hg hv g
theorem GoR.loadA' {t ct : TypeId} {x : Operand} {b off n : Nat} {c l : List Value} (ho : o.op = .load t x) (hd : o.dst = some d) (hN : dOk d N = true) (hgd : o.guard = none) (hx : evO ov x = some (.pointer (some ⟨b, off, none⟩))) [hc : CT P t (some n)] (hg : h.get b = some (.cells c ct) := by (first | assumption | exact AHeap.get_push_same _ _ | ((repeat first | exact AHeap.get_push_same _ _ | assumption | refine get_push_lt ?_ | exact AHeap.get_put_same _ (by first | omega | (simp only [AHeap.n_push, AHeap.n_put]; omega)) _ | exact get_put_self (by assumption) | apply get_put_self | refine get_put_other (by first | omega | (simp only [AHeap.n_push, AHeap.n_put]; omega)) ?_ | refine Same.get (by assumption) ?_ | refine Keeps.get (by assumption) ?_ (fun hi => by have hx := Own.out (by assumption) hi; omega)) ; fail_if_success focus skip) | fail)) (hv : cutL off n c = some l) (g : GoR P W q N ops b₀ os k ((d, .agg l.toArray) :: ov) df h Q) : GoR P W q N ops b₀ (o :: os) k ov df h Q := GoR.loadA ho hd hN hgd hx hg hv g
theorem GoL.loadA' {t ct : TypeId} {x : Operand} {b off n : Nat} {c l : List Value} (ho : o.op = .load t x) (hd : o.dst = some d) (hN : dOk d N = true) (hgd : o.guard = none) (hx : evO ov x = some (.pointer (some ⟨b, off, none⟩))) [hc : CT P t (some n)] (hg : h.get b = some (.cells c ct) := by (first | assumption | exact AHeap.get_push_same _ _ | ((repeat first | exact AHeap.get_push_same _ _ | assumption | refine get_push_lt ?_ | exact AHeap.get_put_same _ (by first | omega | (simp only [AHeap.n_push, AHeap.n_put]; omega)) _ | exact get_put_self (by assumption) | apply get_put_self | refine get_put_other (by first | omega | (simp only [AHeap.n_push, AHeap.n_put]; omega)) ?_ | refine Same.get (by assumption) ?_ | refine Keeps.get (by assumption) ?_ (fun hi => by have hx := Own.out (by assumption) hi; omega)) ; fail_if_success focus skip) | fail)) (hv : cutL off n c = some l) (g : GoL P W q N ops (tr ++ [some ⟨h.n, h.n, [b], [], false, true⟩]) os k ((d, .agg l.toArray) :: ov) df h Q) : GoL P W q N ops tr (o :: os) k ov df h Q := GoL.loadA ho hd hN hgd hx hg hv g
theorem GoR.loadV' {t : TypeId} {x : Operand} {kv : Nat} {v : Value} {sz : Nat} {a : Option Addr} {len cap : Nat} {cs : List Value} (ho : o.op = .load t x) (hd : o.dst = some d) (hN : dOk d N = true) (hgd : o.guard = none) (hx : evO ov x = some (ptA a kv)) [hc : CT P t none] (hS : Rv P h sz a len cap cs := by first | assumption | exact Rv.pushPut (by assumption) _ _ | exact Rv.pushPut (Sv.rv (by assumption)) _ _ | exact Rv.same (h := h) (by assumption) (by assumption) | exact Sv.rv (by assumption) | ((repeat first | assumption | refine Rv.pushPut ?_ _ _ | refine Rv.push ?_ _ | refine Rv.same ?_ (by assumption) | exact Sv.rv (by assumption)) ; fail_if_success focus skip) | fail) (hv : cs[kv]? = some v := by (first | rfl | assumption | (simp only [List.getElem?_cons_zero, List.getElem?_cons_succ, Int.toNat_natCast, Nat.mul_one, Nat.add_zero, Nat.zero_add]; first | rfl | assumption))) (g : GoR P W q N ops b₀ os k ((d, v) :: ov) df h Q) : GoR P W q N ops b₀ (o :: os) k ov df h Q := GoR.loadV ho hd hN hgd hx hS hv g
theorem GoL.loadV' {t : TypeId} {x : Operand} {kv : Nat} {v : Value} {sz : Nat} {a : Option Addr} {len cap : Nat} {cs : List Value} (ho : o.op = .load t x) (hd : o.dst = some d) (hN : dOk d N = true) (hgd : o.guard = none) (hx : evO ov x = some (ptA a kv)) [hc : CT P t none] (hS : Rv P h sz a len cap cs := by first | assumption | exact Rv.pushPut (by assumption) _ _ | exact Rv.pushPut (Sv.rv (by assumption)) _ _ | exact Rv.same (h := h) (by assumption) (by assumption) | exact Sv.rv (by assumption) | ((repeat first | assumption | refine Rv.pushPut ?_ _ _ | refine Rv.push ?_ _ | refine Rv.same ?_ (by assumption) | exact Sv.rv (by assumption)) ; fail_if_success focus skip) | fail) (hv : cs[kv]? = some v := by (first | rfl | assumption | (simp only [List.getElem?_cons_zero, List.getElem?_cons_succ, Int.toNat_natCast, Nat.mul_one, Nat.add_zero, Nat.zero_add]; first | rfl | assumption))) (g : GoL P W q N ops (tr ++ [(some ⟨h.n, h.n, (blk a), [], false, true⟩)]) os k ((d, v) :: ov) df h Q) : GoL P W q N ops tr (o :: os) k ov df h Q := GoL.loadV ho hd hN hgd hx hS hv g
theorem GoR.fieldV' {s : TypeId} {f kk kv : Nat} {x : Operand} {sz : Nat} {a : Option Addr} {len cap : Nat} {cs : List Value} (ho : o.op = .fieldAddr s x f) (hd : o.dst = some d) (hN : dOk d N = true) (hgd : o.guard = none) (hx : evO ov x = some (ptA a kv)) [hf : FO P s f kk] (hS : Rv P h sz a len cap cs := by first | assumption | exact Rv.pushPut (by assumption) _ _ | exact Rv.pushPut (Sv.rv (by assumption)) _ _ | exact Rv.same (h := h) (by assumption) (by assumption) | exact Sv.rv (by assumption) | ((repeat first | assumption | refine Rv.pushPut ?_ _ _ | refine Rv.push ?_ _ | refine Rv.same ?_ (by assumption) | exact Sv.rv (by assumption)) ; fail_if_success focus skip) | fail) (hl : kv < cs.length := by assumption) (g : GoR P W q N ops b₀ os k ((d, (ptA a (kv + kk))) :: ov) df h Q) : GoR P W q N ops b₀ (o :: os) k ov df h Q := GoR.fieldV ho hd hN hgd hx hS hl g
theorem GoL.fieldV' {s : TypeId} {f kk kv : Nat} {x : Operand} {sz : Nat} {a : Option Addr} {len cap : Nat} {cs : List Value} (ho : o.op = .fieldAddr s x f) (hd : o.dst = some d) (hN : dOk d N = true) (hgd : o.guard = none) (hx : evO ov x = some (ptA a kv)) [hf : FO P s f kk] (hS : Rv P h sz a len cap cs := by first | assumption | exact Rv.pushPut (by assumption) _ _ | exact Rv.pushPut (Sv.rv (by assumption)) _ _ | exact Rv.same (h := h) (by assumption) (by assumption) | exact Sv.rv (by assumption) | ((repeat first | assumption | refine Rv.pushPut ?_ _ _ | refine Rv.push ?_ _ | refine Rv.same ?_ (by assumption) | exact Sv.rv (by assumption)) ; fail_if_success focus skip) | fail) (hl : kv < cs.length := by assumption) (g : GoL P W q N ops (tr ++ [none]) os k ((d, (ptA a (kv + kk))) :: ov) df h Q) : GoL P W q N ops tr (o :: os) k ov df h Q := GoL.fieldV ho hd hN hgd hx hS hl g
theorem GoR.loadVN' {t : TypeId} {x : Operand} {kv n : Nat} {l : List Value} {sz : Nat} {a : Option Addr} {len cap : Nat} {cs : List Value} (ho : o.op = .load t x) (hd : o.dst = some d) (hN : dOk d N = true) (hgd : o.guard = none) (hx : evO ov x = some (ptA a kv)) [hc : CT P t (some n)] (hS : Rv P h sz a len cap cs := by first | assumption | exact Rv.pushPut (by assumption) _ _ | exact Rv.pushPut (Sv.rv (by assumption)) _ _ | exact Rv.same (h := h) (by assumption) (by assumption) | exact Sv.rv (by assumption) | ((repeat first | assumption | refine Rv.pushPut ?_ _ _ | refine Rv.push ?_ _ | refine Rv.same ?_ (by assumption) | exact Sv.rv (by assumption)) ; fail_if_success focus skip) | fail) (hl : kv + n ≤ cs.length := by assumption) (hn : 0 < n := by decide) (hv : (cs.drop kv).take n = l := by assumption) (g : GoR P W q N ops b₀ os k ((d, (.agg l.toArray)) :: ov) df h Q) : GoR P W q N ops b₀ (o :: os) k ov df h Q := GoR.loadVN ho hd hN hgd hx hS hl hn hv g
theorem GoL.loadVN' {t : TypeId} {x : Operand} {kv n : Nat} {l : List Value} {sz : Nat} {a : Option Addr} {len cap : Nat} {cs : List Value} (ho : o.op = .load t x) (hd : o.dst = some d) (hN : dOk d N = true) (hgd : o.guard = none) (hx : evO ov x = some (ptA a kv)) [hc : CT P t (some n)] (hS : Rv P h sz a len cap cs := by first | assumption | exact Rv.pushPut (by assumption) _ _ | exact Rv.pushPut (Sv.rv (by assumption)) _ _ | exact Rv.same (h := h) (by assumption) (by assumption) | exact Sv.rv (by assumption) | ((repeat first | assumption | refine Rv.pushPut ?_ _ _ | refine Rv.push ?_ _ | refine Rv.same ?_ (by assumption) | exact Sv.rv (by assumption)) ; fail_if_success focus skip) | fail) (hl : kv + n ≤ cs.length := by assumption) (hn : 0 < n := by decide) (hv : (cs.drop kv).take n = l := by assumption) (g : GoL P W q N ops (tr ++ [(some ⟨h.n, h.n, (blk a), [], false, true⟩)]) os k ((d, (.agg l.toArray)) :: ov) df h Q) : GoL P W q N ops tr (o :: os) k ov df h Q := GoL.loadVN ho hd hN hgd hx hS hl hn hv g
theorem GoR.indexN' {t : TypeId} {x y : Operand} {kk : IntKind} {i : Nat} {a : Option Addr} {len cap : Nat} {cs : List Value} (ho : o.op = .indexAddr t x y) (hd : o.dst = some d) (hN : dOk d N = true) (hgd : o.guard = none) (hx : evO ov x = some (.slice a len cap)) (hy : evO ov y = some (.int kk (i : Int))) [he : EL P t (none, 1)] (hS : Rv P h 1 a len cap cs := by first | assumption | exact Rv.pushPut (by assumption) _ _ | exact Rv.pushPut (Sv.rv (by assumption)) _ _ | exact Rv.same (h := h) (by assumption) (by assumption) | exact Sv.rv (by assumption) | ((repeat first | assumption | refine Rv.pushPut ?_ _ _ | refine Rv.push ?_ _ | refine Rv.same ?_ (by assumption) | exact Sv.rv (by assumption)) ; fail_if_success focus skip) | fail) (h1 : i < len := by first | omega | (simp only [Int.toNat_natCast] at *; omega)) (g : GoR P W q N ops b₀ os k ((d, ptA a i) :: ov) df h Q) : GoR P W q N ops b₀ (o :: os) k ov df h Q := GoR.indexN ho hd hN hgd hx hy hS h1 g
theorem GoL.indexN' {t : TypeId} {x y : Operand} {kk : IntKind} {i : Nat} {a : Option Addr} {len cap : Nat} {cs : List Value} (ho : o.op = .indexAddr t x y) (hd : o.dst = some d) (hN : dOk d N = true) (hgd : o.guard = none) (hx : evO ov x = some (.slice a len cap)) (hy : evO ov y = some (.int kk (i : Int))) [he : EL P t (none, 1)] (hS : Rv P h 1 a len cap cs := by first | assumption | exact Rv.pushPut (by assumption) _ _ | exact Rv.pushPut (Sv.rv (by assumption)) _ _ | exact Rv.same (h := h) (by assumption) (by assumption) | exact Sv.rv (by assumption) | ((repeat first | assumption | refine Rv.pushPut ?_ _ _ | refine Rv.push ?_ _ | refine Rv.same ?_ (by assumption) | exact Sv.rv (by assumption)) ; fail_if_success focus skip) | fail) (h1 : i < len := by first | omega | (simp only [Int.toNat_natCast] at *; omega)) (g : GoL P W q N ops (tr ++ [none]) os k ((d, ptA a i) :: ov) df h Q) : GoL P W q N ops tr (o :: os) k ov df h Q := GoL.indexN ho hd hN hgd hx hy hS h1 g
theorem GoR.indexNs' {t : TypeId} {x y : Operand} {kk : IntKind} {i : Nat} {sz : Nat} {a : Option Addr} {len cap : Nat} {cs : List Value} (ho : o.op = .indexAddr t x y) (hd : o.dst = some d) (hN : dOk d N = true) (hgd : o.guard = none) (hx : evO ov x = some (.slice a len cap)) (hy : evO ov y = some (.int kk (i : Int))) [he : EL P t (none, sz)] (hS : Rv P h sz a len cap cs := by first | assumption | exact Rv.pushPut (by assumption) _ _ | exact Rv.pushPut (Sv.rv (by assumption)) _ _ | exact Rv.same (h := h) (by assumption) (by assumption) | exact Sv.rv (by assumption) | ((repeat first | assumption | refine Rv.pushPut ?_ _ _ | refine Rv.push ?_ _ | refine Rv.same ?_ (by assumption) | exact Sv.rv (by assumption)) ; fail_if_success focus skip) | fail) (h1 : i < len := by first | omega | (simp only [Int.toNat_natCast] at *; omega)) (g : GoR P W q N ops b₀ os k ((d, ptA a (i * sz)) :: ov) df h Q) : GoR P W q N ops b₀ (o :: os) k ov df h Q := GoR.indexNs ho hd hN hgd hx hy hS h1 g
theorem GoL.indexNs' {t : TypeId} {x y : Operand} {kk : IntKind} {i : Nat} {sz : Nat} {a : Option Addr} {len cap : Nat} {cs : List Value} (ho : o.op = .indexAddr t x y) (hd : o.dst = some d) (hN : dOk d N = true) (hgd : o.guard = none) (hx : evO ov x = some (.slice a len cap)) (hy : evO ov y = some (.int kk (i : Int))) [he : EL P t (none, sz)] (hS : Rv P h sz a len cap cs := by first | assumption | exact Rv.pushPut (by assumption) _ _ | exact Rv.pushPut (Sv.rv (by assumption)) _ _ | exact Rv.same (h := h) (by assumption) (by assumption) | exact Sv.rv (by assumption) | ((repeat first | assumption | refine Rv.pushPut ?_ _ _ | refine Rv.push ?_ _ | refine Rv.same ?_ (by assumption) | exact Sv.rv (by assumption)) ; fail_if_success focus skip) | fail) (h1 : i < len := by first | omega | (simp only [Int.toNat_natCast] at *; omega)) (g : GoL P W q N ops (tr ++ [none]) os k ((d, ptA a (i * sz)) :: ov) df h Q) : GoL P W q N ops tr (o :: os) k ov df h Q := GoL.indexNs ho hd hN hgd hx hy hS h1 g
theorem GoR.indexV' {t : TypeId} {x y : Operand} {kk : IntKind} {i : Int} {sz : Nat} {a : Option Addr} {len cap : Nat} {cs : List Value} (ho : o.op = .indexAddr t x y) (hd : o.dst = some d) (hN : dOk d N = true) (hgd : o.guard = none) (hx : evO ov x = some (.slice a len cap)) (hy : evO ov y = some (.int kk i)) [he : EL P t (none, sz)] (hS : Rv P h sz a len cap cs := by first | assumption | exact Rv.pushPut (by assumption) _ _ | exact Rv.pushPut (Sv.rv (by assumption)) _ _ | exact Rv.same (h := h) (by assumption) (by assumption) | exact Sv.rv (by assumption) | ((repeat first | assumption | refine Rv.pushPut ?_ _ _ | refine Rv.push ?_ _ | refine Rv.same ?_ (by assumption) | exact Sv.rv (by assumption)) ; fail_if_success focus skip) | fail) (h0 : 0 ≤ i := by first | omega | (simp only [Int.toNat_natCast] at *; omega)) (h1 : i < (len : Int) := by first | omega | (simp only [Int.toNat_natCast] at *; omega)) (g : GoR P W q N ops b₀ os k ((d, (ptA a (i.toNat * sz))) :: ov) df h Q) : GoR P W q N ops b₀ (o :: os) k ov df h Q := GoR.indexV ho hd hN hgd hx hy hS h0 h1 g
theorem GoL.indexV' {t : TypeId} {x y : Operand} {kk : IntKind} {i : Int} {sz : Nat} {a : Option Addr} {len cap : Nat} {cs : List Value} (ho : o.op = .indexAddr t x y) (hd : o.dst = some d) (hN : dOk d N = true) (hgd : o.guard = none) (hx : evO ov x = some (.slice a len cap)) (hy : evO ov y = some (.int kk i)) [he : EL P t (none, sz)] (hS : Rv P h sz a len cap cs := by first | assumption | exact Rv.pushPut (by assumption) _ _ | exact Rv.pushPut (Sv.rv (by assumption)) _ _ | exact Rv.same (h := h) (by assumption) (by assumption) | exact Sv.rv (by assumption) | ((repeat first | assumption | refine Rv.pushPut ?_ _ _ | refine Rv.push ?_ _ | refine Rv.same ?_ (by assumption) | exact Sv.rv (by assumption)) ; fail_if_success focus skip) | fail) (h0 : 0 ≤ i := by first | omega | (simp only [Int.toNat_natCast] at *; omega)) (h1 : i < (len : Int) := by first | omega | (simp only [Int.toNat_natCast] at *; omega)) (g : GoL P W q N ops (tr ++ [none]) os k ((d, (ptA a (i.toNat * sz))) :: ov) df h Q) : GoL P W q N ops tr (o :: os) k ov df h Q := GoL.indexV ho hd hN hgd hx hy hS h0 h1 g
theorem GoR.indexA' {t : TypeId} {n len : Nat} {x y : Operand} {b off : Nat} {kk : IntKind} {i : Int} (ho : o.op = .indexAddr t x y) (hd : o.dst = some d) (hN : dOk d N = true) (hgd : o.guard = none) (hx : evO ov x = some (.pointer (some ⟨b, off, none⟩))) (hy : evO ov y = some (.int kk i)) [he : EL P t (some len, n)] (h0 : 0 ≤ i := by first | omega | (simp only [Int.toNat_natCast] at *; omega)) (h1 : i < (len : Int) := by first | omega | (simp only [Int.toNat_natCast] at *; omega)) (g : GoR P W q N ops b₀ os k ((d, (.pointer (some ⟨b, off + i.toNat * n, none⟩))) :: ov) df h Q) : GoR P W q N ops b₀ (o :: os) k ov df h Q := GoR.indexA ho hd hN hgd hx hy h0 h1 g
theorem GoL.indexA' {t : TypeId} {n len : Nat} {x y : Operand} {b off : Nat} {kk : IntKind} {i : Int} (ho : o.op = .indexAddr t x y) (hd : o.dst = some d) (hN : dOk d N = true) (hgd : o.guard = none) (hx : evO ov x = some (.pointer (some ⟨b, off, none⟩))) (hy : evO ov y = some (.int kk i)) [he : EL P t (some len, n)] (h0 : 0 ≤ i := by first | omega | (simp only [Int.toNat_natCast] at *; omega)) (h1 : i < (len : Int) := by first | omega | (simp only [Int.toNat_natCast] at *; omega)) (g : GoL P W q N ops (tr ++ [none]) os k ((d, (.pointer (some ⟨b, off + i.toNat * n, none⟩))) :: ov) df h Q) : GoL P W q N ops tr (o :: os) k ov df h Q := GoL.indexA ho hd hN hgd hx hy h0 h1 g
theorem GoR.addN' {t t₂ : TypeId} {x y : Operand} {i j : Nat} (ho : o.op = .binOp .add t x y t₂) (hd : o.dst = some d) (hN : dOk d N = true) (hgd : o.guard = none) (hx : evO ov x = some (.int .i64 (i : Int))) (hy : evO ov y = some (.int .i64 (j : Int))) (h1 : i + j ≤ 9223372036854775807 := by first | omega | (simp only [Int.toNat_natCast] at *; omega)) (g : GoR P W q N ops b₀ os k ((d, .int .i64 ((i + j : Nat) : Int)) :: ov) df h Q) : GoR P W q N ops b₀ (o :: os) k ov df h Q := GoR.addN ho hd hN hgd hx hy h1 g
theorem GoL.addN' {t t₂ : TypeId} {x y : Operand} {i j : Nat} (ho : o.op = .binOp .add t x y t₂) (hd : o.dst = some d) (hN : dOk d N = true) (hgd : o.guard = none) (hx : evO ov x = some (.int .i64 (i : Int))) (hy : evO ov y = some (.int .i64 (j : Int))) (h1 : i + j ≤ 9223372036854775807 := by first | omega | (simp only [Int.toNat_natCast] at *; omega)) (g : GoL P W q N ops (tr ++ [none]) os k ((d, .int .i64 ((i + j : Nat) : Int)) :: ov) df h Q) : GoL P W q N ops tr (o :: os) k ov df h Q := GoL.addN ho hd hN hgd hx hy h1 g
theorem GoR.subN' {t t₂ : TypeId} {x y : Operand} {i j : Nat} (ho : o.op = .binOp .sub t x y t₂) (hd : o.dst = some d) (hN : dOk d N = true) (hgd : o.guard = none) (hx : evO ov x = some (.int .i64 (i : Int))) (hy : evO ov y = some (.int .i64 (j : Int))) (h1 : j ≤ i := by first | omega | (simp only [Int.toNat_natCast] at *; omega)) (h2 : i ≤ 9223372036854775807 := by first | omega | (simp only [Int.toNat_natCast] at *; omega)) (g : GoR P W q N ops b₀ os k ((d, .int .i64 ((i - j : Nat) : Int)) :: ov) df h Q) : GoR P W q N ops b₀ (o :: os) k ov df h Q := GoR.subN ho hd hN hgd hx hy h1 h2 g
theorem GoL.subN' {t t₂ : TypeId} {x y : Operand} {i j : Nat} (ho : o.op = .binOp .sub t x y t₂) (hd : o.dst = some d) (hN : dOk d N = true) (hgd : o.guard = none) (hx : evO ov x = some (.int .i64 (i : Int))) (hy : evO ov y = some (.int .i64 (j : Int))) (h1 : j ≤ i := by first | omega | (simp only [Int.toNat_natCast] at *; omega)) (h2 : i ≤ 9223372036854775807 := by first | omega | (simp only [Int.toNat_natCast] at *; omega)) (g : GoL P W q N ops (tr ++ [none]) os k ((d, .int .i64 ((i - j : Nat) : Int)) :: ov) df h Q) : GoL P W q N ops tr (o :: os) k ov df h Q := GoL.subN ho hd hN hgd hx hy h1 h2 g
theorem GoR.add' {t t₂ : TypeId} {x y : Operand} {i j : Int} (ho : o.op = .binOp .add t x y t₂) (hd : o.dst = some d) (hN : dOk d N = true) (hgd : o.guard = none) (hx : evO ov x = some (.int .i64 i)) (hy : evO ov y = some (.int .i64 j)) (h0 : -9223372036854775808 ≤ i + j := by first | omega | (simp only [Int.toNat_natCast] at *; omega)) (h1 : i + j ≤ 9223372036854775807 := by first | omega | (simp only [Int.toNat_natCast] at *; omega)) (g : GoR P W q N ops b₀ os k ((d, .int .i64 (i + j)) :: ov) df h Q) : GoR P W q N ops b₀ (o :: os) k (ov) df h Q := GoR.add ho hd hN hgd hx hy h0 h1 g
theorem GoL.add' {t t₂ : TypeId} {x y : Operand} {i j : Int} (ho : o.op = .binOp .add t x y t₂) (hd : o.dst = some d) (hN : dOk d N = true) (hgd : o.guard = none) (hx : evO ov x = some (.int .i64 i)) (hy : evO ov y = some (.int .i64 j)) (h0 : -9223372036854775808 ≤ i + j := by first | omega | (simp only [Int.toNat_natCast] at *; omega)) (h1 : i + j ≤ 9223372036854775807 := by first | omega | (simp only [Int.toNat_natCast] at *; omega)) (g : GoL P W q N ops (tr ++ [none]) os k ((d, .int .i64 (i + j)) :: ov) df h Q) : GoL P W q N ops tr (o :: os) k (ov) df h Q := GoL.add ho hd hN hgd hx hy h0 h1 g
theorem GoR.sub' {t t₂ : TypeId} {x y : Operand} {i j : Int} (ho : o.op = .binOp .sub t x y t₂) (hd : o.dst = some d) (hN : dOk d N = true) (hgd : o.guard = none) (hx : evO ov x = some (.int .i64 i)) (hy : evO ov y = some (.int .i64 j)) (h0 : -9223372036854775808 ≤ i - j := by first | omega | (simp only [Int.toNat_natCast] at *; omega)) (h1 : i - j ≤ 9223372036854775807 := by first | omega | (simp only [Int.toNat_natCast] at *; omega)) (g : GoR P W q N ops b₀ os k ((d, .int .i64 (i - j)) :: ov) df h Q) : GoR P W q N ops b₀ (o :: os) k (ov) df h Q := GoR.sub ho hd hN hgd hx hy h0 h1 g
theorem GoL.sub' {t t₂ : TypeId} {x y : Operand} {i j : Int} (ho : o.op = .binOp .sub t x y t₂) (hd : o.dst = some d) (hN : dOk d N = true) (hgd : o.guard = none) (hx : evO ov x = some (.int .i64 i)) (hy : evO ov y = some (.int .i64 j)) (h0 : -9223372036854775808 ≤ i - j := by first | omega | (simp only [Int.toNat_natCast] at *; omega)) (h1 : i - j ≤ 9223372036854775807 := by first | omega | (simp only [Int.toNat_natCast] at *; omega)) (g : GoL P W q N ops (tr ++ [none]) os k ((d, .int .i64 (i - j)) :: ov) df h Q) : GoL P W q N ops tr (o :: os) k (ov) df h Q := GoL.sub ho hd hN hgd hx hy h0 h1 g
theorem GoR.addM' {t t₂ : TypeId} {x y : Operand} {kd : IntKind} {i j : Nat} (ho : o.op = .binOp .add t x y t₂) (hd : o.dst = some d) (hN : dOk d N = true) (hgd : o.guard = none) (hx : evO ov x = some (.int kd (i : Int))) (hy : evO ov y = some (.int kd (j : Int))) (h1 : i + j < 2 ^ (kd.bits - if kd.signed then 1 else 0) := by first | (simp [IntKind.bits, IntKind.signed]; fail_if_success focus skip) | (simp [IntKind.bits, IntKind.signed]; omega)) (g : GoR P W q N ops b₀ os k ((d, .int kd ((i + j : Nat) : Int)) :: ov) df h Q) : GoR P W q N ops b₀ (o :: os) k ov df h Q := GoR.addM ho hd hN hgd hx hy h1 g
theorem GoL.addM' {t t₂ : TypeId} {x y : Operand} {kd : IntKind} {i j : Nat} (ho : o.op = .binOp .add t x y t₂) (hd : o.dst = some d) (hN : dOk d N = true) (hgd : o.guard = none) (hx : evO ov x = some (.int kd (i : Int))) (hy : evO ov y = some (.int kd (j : Int))) (h1 : i + j < 2 ^ (kd.bits - if kd.signed then 1 else 0) := by first | (simp [IntKind.bits, IntKind.signed]; fail_if_success focus skip) | (simp [IntKind.bits, IntKind.signed]; omega)) (g : GoL P W q N ops (tr ++ [none]) os k ((d, .int kd ((i + j : Nat) : Int)) :: ov) df h Q) : GoL P W q N ops tr (o :: os) k ov df h Q := GoL.addM ho hd hN hgd hx hy h1 g
theorem GoR.subM' {t t₂ : TypeId} {x y : Operand} {kd : IntKind} {i j : Nat} (ho : o.op = .binOp .sub t x y t₂) (hd : o.dst = some d) (hN : dOk d N = true) (hgd : o.guard = none) (hx : evO ov x = some (.int kd (i : Int))) (hy : evO ov y = some (.int kd (j : Int))) (h0 : j ≤ i := by first | omega | (simp only [Int.toNat_natCast] at *; omega)) (h1 : i < 2 ^ (kd.bits - if kd.signed then 1 else 0) := by first | (simp [IntKind.bits, IntKind.signed]; fail_if_success focus skip) | (simp [IntKind.bits, IntKind.signed]; omega)) (g : GoR P W q N ops b₀ os k ((d, .int kd ((i - j : Nat) : Int)) :: ov) df h Q) : GoR P W q N ops b₀ (o :: os) k ov df h Q := GoR.subM ho hd hN hgd hx hy h0 h1 g
theorem GoL.subM' {t t₂ : TypeId} {x y : Operand} {kd : IntKind} {i j : Nat} (ho : o.op = .binOp .sub t x y t₂) (hd : o.dst = some d) (hN : dOk d N = true) (hgd : o.guard = none) (hx : evO ov x = some (.int kd (i : Int))) (hy : evO ov y = some (.int kd (j : Int))) (h0 : j ≤ i := by first | omega | (simp only [Int.toNat_natCast] at *; omega)) (h1 : i < 2 ^ (kd.bits - if kd.signed then 1 else 0) := by first | (simp [IntKind.bits, IntKind.signed]; fail_if_success focus skip) | (simp [IntKind.bits, IntKind.signed]; omega)) (g : GoL P W q N ops (tr ++ [none]) os k ((d, .int kd ((i - j : Nat) : Int)) :: ov) df h Q) : GoL P W q N ops tr (o :: os) k ov df h Q := GoL.subM ho hd hN hgd hx hy h0 h1 g
theorem GoR.mulM' {t t₂ : TypeId} {x y : Operand} {kd : IntKind} {i j : Nat} (ho : o.op = .binOp .mul t x y t₂) (hd : o.dst = some d) (hN : dOk d N = true) (hgd : o.guard = none) (hx : evO ov x = some (.int kd (i : Int))) (hy : evO ov y = some (.int kd (j : Int))) (h1 : i * j < 2 ^ (kd.bits - if kd.signed then 1 else 0) := by first | (simp [IntKind.bits, IntKind.signed]; fail_if_success focus skip) | (simp [IntKind.bits, IntKind.signed]; omega)) (g : GoR P W q N ops b₀ os k ((d, .int kd ((i * j : Nat) : Int)) :: ov) df h Q) : GoR P W q N ops b₀ (o :: os) k ov df h Q := GoR.mulM ho hd hN hgd hx hy h1 g
theorem GoL.mulM' {t t₂ : TypeId} {x y : Operand} {kd : IntKind} {i j : Nat} (ho : o.op = .binOp .mul t x y t₂) (hd : o.dst = some d) (hN : dOk d N = true) (hgd : o.guard = none) (hx : evO ov x = some (.int kd (i : Int))) (hy : evO ov y = some (.int kd (j : Int))) (h1 : i * j < 2 ^ (kd.bits - if kd.signed then 1 else 0) := by first | (simp [IntKind.bits, IntKind.signed]; fail_if_success focus skip) | (simp [IntKind.bits, IntKind.signed]; omega)) (g : GoL P W q N ops (tr ++ [none]) os k ((d, .int kd ((i * j : Nat) : Int)) :: ov) df h Q) : GoL P W q N ops tr (o :: os) k ov df h Q := GoL.mulM ho hd hN hgd hx hy h1 g
theorem GoR.shlN' {t t₂ : TypeId} {x y : Operand} {kd kd' : IntKind} {i j : Nat} (ho : o.op = .binOp .shl t x y t₂) (hd : o.dst = some d) (hN : dOk d N = true) (hgd : o.guard = none) (hx : evO ov x = some (.int kd (i : Int))) (hy : evO ov y = some (.int kd' (j : Int))) (h1 : Nat.ble j kd.bits = true) (h2 : i * 2 ^ j < 2 ^ (kd.bits - if kd.signed then 1 else 0) := by first | (simp [IntKind.bits, IntKind.signed]; fail_if_success focus skip) | (simp [IntKind.bits, IntKind.signed]; omega)) (g : GoR P W q N ops b₀ os k ((d, .int kd ((i * 2 ^ j : Nat) : Int)) :: ov) df h Q) : GoR P W q N ops b₀ (o :: os) k ov df h Q := GoR.shlN ho hd hN hgd hx hy h1 h2 g
theorem GoL.shlN' {t t₂ : TypeId} {x y : Operand} {kd kd' : IntKind} {i j : Nat} (ho : o.op = .binOp .shl t x y t₂) (hd : o.dst = some d) (hN : dOk d N = true) (hgd : o.guard = none) (hx : evO ov x = some (.int kd (i : Int))) (hy : evO ov y = some (.int kd' (j : Int))) (h1 : Nat.ble j kd.bits = true) (h2 : i * 2 ^ j < 2 ^ (kd.bits - if kd.signed then 1 else 0) := by first | (simp [IntKind.bits, IntKind.signed]; fail_if_success focus skip) | (simp [IntKind.bits, IntKind.signed]; omega)) (g : GoL P W q N ops (tr ++ [none]) os k ((d, .int kd ((i * 2 ^ j : Nat) : Int)) :: ov) df h Q) : GoL P W q N ops tr (o :: os) k ov df h Q := GoL.shlN ho hd hN hgd hx hy h1 h2 g
theorem GoR.orN' {t t₂ : TypeId} {x y : Operand} {kd : IntKind} {i j : Nat} (ho : o.op = .binOp .or t x y t₂) (hd : o.dst = some d) (hN : dOk d N = true) (hgd : o.guard = none) (hx : evO ov x = some (.int kd (i : Int))) (hy : evO ov y = some (.int kd (j : Int))) (h1 : i < 2 ^ (kd.bits - if kd.signed then 1 else 0) := by first | (simp [IntKind.bits, IntKind.signed]; fail_if_success focus skip) | (simp [IntKind.bits, IntKind.signed]; omega)) (h2 : j < 2 ^ (kd.bits - if kd.signed then 1 else 0) := by first | (simp [IntKind.bits, IntKind.signed]; fail_if_success focus skip) | (simp [IntKind.bits, IntKind.signed]; omega)) (g : GoR P W q N ops b₀ os k ((d, .int kd ((i ||| j : Nat) : Int)) :: ov) df h Q) : GoR P W q N ops b₀ (o :: os) k ov df h Q := GoR.orN ho hd hN hgd hx hy h1 h2 g
theorem GoL.orN' {t t₂ : TypeId} {x y : Operand} {kd : IntKind} {i j : Nat} (ho : o.op = .binOp .or t x y t₂) (hd : o.dst = some d) (hN : dOk d N = true) (hgd : o.guard = none) (hx : evO ov x = some (.int kd (i : Int))) (hy : evO ov y = some (.int kd (j : Int))) (h1 : i < 2 ^ (kd.bits - if kd.signed then 1 else 0) := by first | (simp [IntKind.bits, IntKind.signed]; fail_if_success focus skip) | (simp [IntKind.bits, IntKind.signed]; omega)) (h2 : j < 2 ^ (kd.bits - if kd.signed then 1 else 0) := by first | (simp [IntKind.bits, IntKind.signed]; fail_if_success focus skip) | (simp [IntKind.bits, IntKind.signed]; omega)) (g : GoL P W q N ops (tr ++ [none]) os k ((d, .int kd ((i ||| j : Nat) : Int)) :: ov) df h Q) : GoL P W q N ops tr (o :: os) k ov df h Q := GoL.orN ho hd hN hgd hx hy h1 h2 g
theorem GoR.remN' {t t₂ : TypeId} {x y : Operand} {kd : IntKind} {i j : Nat} (ho : o.op = .binOp .rem t x y t₂) (hd : o.dst = some d) (hN : dOk d N = true) (hgd : o.guard = none) (hx : evO ov x = some (.int kd (i : Int))) (hy : evO ov y = some (.int kd (j : Int))) (h1 : 0 < j := by first | omega | (simp only [Int.toNat_natCast] at *; omega)) (g : GoR P W q N ops b₀ os k ((d, .int kd ((i % j : Nat) : Int)) :: ov) df h Q) : GoR P W q N ops b₀ (o :: os) k ov df h Q := GoR.remN ho hd hN hgd hx hy h1 g
theorem GoL.remN' {t t₂ : TypeId} {x y : Operand} {kd : IntKind} {i j : Nat} (ho : o.op = .binOp .rem t x y t₂) (hd : o.dst = some d) (hN : dOk d N = true) (hgd : o.guard = none) (hx : evO ov x = some (.int kd (i : Int))) (hy : evO ov y = some (.int kd (j : Int))) (h1 : 0 < j := by first | omega | (simp only [Int.toNat_natCast] at *; omega)) (g : GoL P W q N ops (tr ++ [none]) os k ((d, .int kd ((i % j : Nat) : Int)) :: ov) df h Q) : GoL P W q N ops tr (o :: os) k ov df h Q := GoL.remN ho hd hN hgd hx hy h1 g
theorem GoR.quoN' {t t₂ : TypeId} {x y : Operand} {kd : IntKind} {i j : Nat} (ho : o.op = .binOp .quo t x y t₂) (hd : o.dst = some d) (hN : dOk d N = true) (hgd : o.guard = none) (hx : evO ov x = some (.int kd (i : Int))) (hy : evO ov y = some (.int kd (j : Int))) (h1 : 0 < j := by first | omega | (simp only [Int.toNat_natCast] at *; omega)) (h2 : i < 2 ^ (kd.bits - if kd.signed then 1 else 0) := by first | (simp [IntKind.bits, IntKind.signed]; fail_if_success focus skip) | (simp [IntKind.bits, IntKind.signed]; omega)) (g : GoR P W q N ops b₀ os k ((d, .int kd ((i / j : Nat) : Int)) :: ov) df h Q) : GoR P W q N ops b₀ (o :: os) k ov df h Q := GoR.quoN ho hd hN hgd hx hy h1 h2 g
theorem GoL.quoN' {t t₂ : TypeId} {x y : Operand} {kd : IntKind} {i j : Nat} (ho : o.op = .binOp .quo t x y t₂) (hd : o.dst = some d) (hN : dOk d N = true) (hgd : o.guard = none) (hx : evO ov x = some (.int kd (i : Int))) (hy : evO ov y = some (.int kd (j : Int))) (h1 : 0 < j := by first | omega | (simp only [Int.toNat_natCast] at *; omega)) (h2 : i < 2 ^ (kd.bits - if kd.signed then 1 else 0) := by first | (simp [IntKind.bits, IntKind.signed]; fail_if_success focus skip) | (simp [IntKind.bits, IntKind.signed]; omega)) (g : GoL P W q N ops (tr ++ [none]) os k ((d, .int kd ((i / j : Nat) : Int)) :: ov) df h Q) : GoL P W q N ops tr (o :: os) k ov df h Q := GoL.quoN ho hd hN hgd hx hy h1 h2 g
theorem GoR.convW' {t t₂ : TypeId} {x : Operand} {kd kd' : IntKind} {i : Nat} (ho : o.op = .convert t t₂ x) (hd : o.dst = some d) (hN : dOk d N = true) (hgd : o.guard = none) (hx : evO ov x = some (.int kd' (i : Int))) [hc : IC P t t₂ kd] (hs : i < 2 ^ (kd.bits - if kd.signed then 1 else 0) := by first | (simp [IntKind.bits, IntKind.signed]; omega) | omega) (g : GoR P W q N ops b₀ os k ((d, .int kd (i : Int)) :: ov) df h Q) : GoR P W q N ops b₀ (o :: os) k ov df h Q := GoR.convW ho hd hN hgd hx hs g
theorem GoL.convW' {t t₂ : TypeId} {x : Operand} {kd kd' : IntKind} {i : Nat} (ho : o.op = .convert t t₂ x) (hd : o.dst = some d) (hN : dOk d N = true) (hgd : o.guard = none) (hx : evO ov x = some (.int kd' (i : Int))) [hc : IC P t t₂ kd] (hs : i < 2 ^ (kd.bits - if kd.signed then 1 else 0) := by first | (simp [IntKind.bits, IntKind.signed]; omega) | omega) (g : GoL P W q N ops (tr ++ [none]) os k ((d, .int kd (i : Int)) :: ov) df h Q) : GoL P W q N ops tr (o :: os) k ov df h Q := GoL.convW ho hd hN hgd hx hs g
theorem GoR.strV' {t t₂ : TypeId} {x : Operand} {a : Option Addr} {len cap : Nat} {zs : List UInt8} (ho : o.op = .convert t t₂ x) (hd : o.dst = some d) (hN : dOk d N = true) (hgd : o.guard = none) (hx : evO ov x = some (.slice a len cap)) [hB : BY P t t₂] (hS : Rv P h 1 a len cap (zs.map bv) := by first | assumption | exact Rv.pushPut (by assumption) _ _ | exact Rv.pushPut (Sv.rv (by assumption)) _ _ | exact Rv.same (h := h) (by assumption) (by assumption) | exact Sv.rv (by assumption) | ((repeat first | assumption | refine Rv.pushPut ?_ _ _ | refine Rv.push ?_ _ | refine Rv.same ?_ (by assumption) | exact Sv.rv (by assumption)) ; fail_if_success focus skip) | fail) (g : GoR P W q N ops b₀ os k ((d, .string ⟨zs.toArray⟩) :: ov) df h Q) : GoR P W q N ops b₀ (o :: os) k ov df h Q := GoR.strV ho hd hN hgd hx hS g
theorem GoL.strV' {t t₂ : TypeId} {x : Operand} {a : Option Addr} {len cap : Nat} {zs : List UInt8} (ho : o.op = .convert t t₂ x) (hd : o.dst = some d) (hN : dOk d N = true) (hgd : o.guard = none) (hx : evO ov x = some (.slice a len cap)) [hB : BY P t t₂] (hS : Rv P h 1 a len cap (zs.map bv) := by first | assumption | exact Rv.pushPut (by assumption) _ _ | exact Rv.pushPut (Sv.rv (by assumption)) _ _ | exact Rv.same (h := h) (by assumption) (by assumption) | exact Sv.rv (by assumption) | ((repeat first | assumption | refine Rv.pushPut ?_ _ _ | refine Rv.push ?_ _ | refine Rv.same ?_ (by assumption) | exact Sv.rv (by assumption)) ; fail_if_success focus skip) | fail) (g : ∀ rd, (∀ i ∈ rd, i ∈ blk a) → GoL P W q N ops (tr ++ [some ⟨h.n, h.n, rd, [], false, true⟩]) os k ((d, .string ⟨zs.toArray⟩) :: ov) df h Q) : GoL P W q N ops tr (o :: os) k ov df h Q := GoL.strV ho hd hN hgd hx hS g
theorem GoR.store' {t ct : TypeId} {x y : Operand} {b off n : Nat} {c l c' : List Value} {v : Value} (ho : o.op = .store t x y) (hd : o.dst = none) (hgd : o.guard = none) (hx : evO ov x = some (.pointer (some ⟨b, off, none⟩))) (hy : evO ov y = some v) [hs : SZ P t n] (hg : h.get b = some (.cells c ct) := by (first | assumption | exact AHeap.get_push_same _ _ | ((repeat first | exact AHeap.get_push_same _ _ | assumption | refine get_push_lt ?_ | exact AHeap.get_put_same _ (by first | omega | (simp only [AHeap.n_push, AHeap.n_put]; omega)) _ | exact get_put_self (by assumption) | apply get_put_self | refine get_put_other (by first | omega | (simp only [AHeap.n_push, AHeap.n_put]; omega)) ?_ | refine Same.get (by assumption) ?_ | refine Keeps.get (by assumption) ?_ (fun hi => by have hx := Own.out (by assumption) hi; omega)) ; fail_if_success focus skip) | fail)) (hl : cellsL v = l) (h1 : l.length = n) (h2 : off + n ≤ c.length := by first | (simp; fail_if_success focus skip) | (simp [cellsL]; fail_if_success focus skip) | (simp [cellsL]; omega)) (h3 : l.all Value.oneCell' = true) (hc : setL c off l = c' := by first | (simp only [setL, cellsL, List.take_zero, List.take_succ_cons, List.drop_succ_cons, List.drop_zero, List.drop_nil, List.length_cons, List.length_nil, List.nil_append, List.cons_append, Nat.zero_add, Nat.reduceAdd, List.take_nil]; rfl) | rfl) (hw : W b := by first | exact .inr (by omega) | exact .inr (by simp only [AHeap.n_push, AHeap.n_put]; omega) | (simp; fail_if_success focus skip) | (simp; omega)) (g : GoR P W q N ops true os k ov df (h.put b (some (.cells c' ct))) Q) : GoR P W q N ops true (o :: os) k ov df h Q := GoR.store ho hd hgd hx hy hg hl h1 h2 h3 hc hw g
theorem GoL.store' {t ct : TypeId} {x y : Operand} {b off n : Nat} {c l c' : List Value} {v : Value} (ho : o.op = .store t x y) (hd : o.dst = none) (hgd : o.guard = none) (hx : evO ov x = some (.pointer (some ⟨b, off, none⟩))) (hy : evO ov y = some v) [hs : SZ P t n] (hg : h.get b = some (.cells c ct) := by (first | assumption | exact AHeap.get_push_same _ _ | ((repeat first | exact AHeap.get_push_same _ _ | assumption | refine get_push_lt ?_ | exact AHeap.get_put_same _ (by first | omega | (simp only [AHeap.n_push, AHeap.n_put]; omega)) _ | exact get_put_self (by assumption) | apply get_put_self | refine get_put_other (by first | omega | (simp only [AHeap.n_push, AHeap.n_put]; omega)) ?_ | refine Same.get (by assumption) ?_ | refine Keeps.get (by assumption) ?_ (fun hi => by have hx := Own.out (by assumption) hi; omega)) ; fail_if_success focus skip) | fail)) (hl : cellsL v = l) (h1 : l.length = n) (h2 : off + n ≤ c.length := by first | (simp; fail_if_success focus skip) | (simp [cellsL]; fail_if_success focus skip) | (simp [cellsL]; omega)) (h3 : l.all Value.oneCell' = true) (hc : setL c off l = c' := by first | (simp only [setL, cellsL, List.take_zero, List.take_succ_cons, List.drop_succ_cons, List.drop_zero, List.drop_nil, List.length_cons, List.length_nil, List.nil_append, List.cons_append, Nat.zero_add, Nat.reduceAdd, List.take_nil]; rfl) | rfl) (hw : W b := by first | exact .inr (by omega) | exact .inr (by simp only [AHeap.n_push, AHeap.n_put]; omega) | (simp; fail_if_success focus skip) | (simp; omega)) (g : GoL P W q N ops (tr ++ [(some ⟨h.n, h.n, [b], [b], false, false⟩)]) os k ov df (h.put b (some (.cells c' ct))) Q) : GoL P W q N ops tr (o :: os) k ov df h Q := GoL.store ho hd hgd hx hy hg hl h1 h2 h3 hc hw g
theorem GoR.store1' {t tt : TypeId} {x y : Operand} {kv sz : Nat} {a : Option Addr} {len cap : Nat} {cs : List Value} {v : Value} (ho : o.op = .store t x y) (hd : o.dst = none) (hgd : o.guard = none) (hx : evO ov x = some (ptA a kv)) (hy : evO ov y = some v) [hs : SZ P t 1] (h1 : v.oneCell' = true) (hS : Sv h tt sz a len cap cs := by first | assumption | exact Sv.same (h := h) (by assumption) (by assumption) | fail) (h2 : kv < cs.length := by first | omega | (simp only [List.length_set, List.length_append, List.length_cons, List.length_nil, List.length_replicate]; omega) | (simp; omega)) (hw : ∀ i ∈ blk a, W i := by exact Own.ok (by assumption) (by omega)) (g : ∀ h', Sv h' tt sz a len cap (cs.set kv v) → Keeps (blk a) h h' → h'.n = h.n → GoR P W q N ops true os k ov df h' Q) : GoR P W q N ops true (o :: os) k ov df h Q := GoR.store1 ho hd hgd hx hy h1 hS h2 hw g
theorem GoL.store1' {t tt : TypeId} {x y : Operand} {kv sz : Nat} {a : Option Addr} {len cap : Nat} {cs : List Value} {v : Value} (ho : o.op = .store t x y) (hd : o.dst = none) (hgd : o.guard = none) (hx : evO ov x = some (ptA a kv)) (hy : evO ov y = some v) [hs : SZ P t 1] (h1 : v.oneCell' = true) (hS : Sv h tt sz a len cap cs := by first | assumption | exact Sv.same (h := h) (by assumption) (by assumption) | fail) (h2 : kv < cs.length := by first | omega | (simp only [List.length_set, List.length_append, List.length_cons, List.length_nil, List.length_replicate]; omega) | (simp; omega)) (hw : ∀ i ∈ blk a, W i := by exact Own.ok (by assumption) (by omega)) (g : ∀ h', Sv h' tt sz a len cap (cs.set kv v) → Keeps (blk a) h h' → h'.n = h.n → GoL P W q N ops (tr ++ [some ⟨h.n, h'.n, blk a, blk a, false, false⟩]) os k ov df h' Q) : GoL P W q N ops tr (o :: os) k ov df h Q := GoL.store1 ho hd hgd hx hy h1 hS h2 hw g
theorem Go.cond_t' {o : Operand} {a b : Code} {B : Bool} (ho : evO ov o = some (.bool B)) (hB : B = true := by first | with_reducible rfl | with_reducible assumption | (with_reducible refine @decide_eq_true _ _ ?_; first | with_reducible rfl | omega) | (with_reducible refine @decide_eq_false _ _ ?_; omega) | with_reducible exact Bool.not_false | with_reducible exact Bool.not_true | (simp; fail_if_success focus skip) | (simp; omega)) (g : Go P W q N (.code a :: k) .normal ov df h Q) : Go P W q N (.code (.cond o a b) :: k) .normal ov df h Q := Go.cond_t ho hB g
theorem Go.cond_f' {o : Operand} {a b : Code} {B : Bool} (ho : evO ov o = some (.bool B)) (hB : B = false := by first | with_reducible rfl | with_reducible assumption | (with_reducible refine @decide_eq_true _ _ ?_; first | with_reducible rfl | omega) | (with_reducible refine @decide_eq_false _ _ ?_; omega) | with_reducible exact Bool.not_false | with_reducible exact Bool.not_true | (simp; fail_if_success focus skip) | (simp; omega)) (g : Go P W q N (.code b :: k) .normal ov df h Q) : Go P W q N (.code (.cond o a b) :: k) .normal ov df h Q := Go.cond_f ho hB g
theorem GoR.build' {c' : List Value} {t : TypeId} {ps : Array (Nat × Operand)} {z : List Value} {pl : List (Nat × Nat)} {vs : List (Nat × Value)} {c : List Value} (ho : o.op = .build t ps) (hd : o.dst = some d) (hN : dOk d N = true) (hgd : o.guard = none) [hs : ST P t z pl] (hp : evPs ov ps.toList = some vs) (hf : fillL (fun i => pl[i]?) z vs = some c) (hn : c = c' := by first | (simp only [setL, Value.cells, List.take_zero, List.take_succ_cons, List.drop_succ_cons, List.drop_zero, List.drop_nil, List.length_cons, List.length_nil, List.nil_append, List.cons_append, Nat.zero_add, Nat.reduceAdd, List.take_nil]; rfl) | rfl) (g : GoR P W q N ops b₀ os k ((d, (.agg c'.toArray)) :: ov) df h Q) : GoR P W q N ops b₀ (o :: os) k ov df h Q := by subst hn; exact GoR.build ho hd hN hgd hp hf g
theorem GoL.build' {c' : List Value} {t : TypeId} {ps : Array (Nat × Operand)} {z : List Value} {pl : List (Nat × Nat)} {vs : List (Nat × Value)} {c : List Value} (ho : o.op = .build t ps) (hd : o.dst = some d) (hN : dOk d N = true) (hgd : o.guard = none) [hs : ST P t z pl] (hp : evPs ov ps.toList = some vs) (hf : fillL (fun i => pl[i]?) z vs = some c) (hn : c = c' := by first | (simp only [setL, Value.cells, List.take_zero, List.take_succ_cons, List.drop_succ_cons, List.drop_zero, List.drop_nil, List.length_cons, List.length_nil, List.nil_append, List.cons_append, Nat.zero_add, Nat.reduceAdd, List.take_nil]; rfl) | rfl) (g : GoL P W q N ops (tr ++ [none]) os k ((d, (.agg c'.toArray)) :: ov) df h Q) : GoL P W q N ops tr (o :: os) k ov df h Q := by subst hn; exact GoL.build ho hd hN hgd hp hf g
theorem Go.fin1 {x : Exit} {a : Tmp} {t ct : TypeId} {n₀ : Nat} {b off : Nat} {c : List Value} {v : Value} {Q : Value → AHeap → Prop} (hx : x = .normal ∨ x = .ret) (ha : ov.find a = some (.pointer (some ⟨b, off, none⟩))) [hc : CT P t none] (hg : h.get b = some (.cells c ct) := by (first | assumption | exact AHeap.get_push_same _ _ | ((repeat first | exact AHeap.get_push_same _ _ | assumption | refine get_push_lt ?_ | exact AHeap.get_put_same _ (by first | omega | (simp only [AHeap.n_push, AHeap.n_put]; omega)) _ | exact get_put_self (by assumption) | apply get_put_self | refine get_put_other (by first | omega | (simp only [AHeap.n_push, AHeap.n_put]; omega)) ?_ | refine Same.get (by assumption) ?_ | refine Keeps.get (by assumption) ?_ (fun hi => by have hx := Own.out (by assumption) hi; omega)) ; fail_if_success focus skip) | fail)) (hv : c[off]? = some v := by (first | rfl | assumption | (simp only [List.getElem?_cons_zero, List.getElem?_cons_succ, Int.toNat_natCast, Nat.mul_one, Nat.add_zero, Nat.zero_add]; first | rfl | assumption))) (hq : Q v h) : Go P W q N [] x ov [] h (Fin P [.cell a t] n₀ Q) := Go.fin (vs := [v]) hx (.cell ha hc hg hv .nil) hq
end
structure Wrap (B : Prop) : Prop where
 out : B
theorem Go.run {A B : Prop} (k : Wrap B → A := by (intro b_; (repeat (first|refine GoR.end ?_|(refine GoR.gd rfl ?_;first|refine GoR.wanted' rfl rfl rfl rfl (g:=?_)|refine GoR.unwanted' rfl rfl rfl rfl (hd:=rfl) (hN:=rfl) (g:=?_)|refine GoR.unwantedU rfl rfl rfl rfl rfl rfl ?_)|(refine GoR.kk 0 rfl ?_;first|refine GoR.move rfl rfl rfl rfl rfl ?_|refine GoR.assign rfl rfl rfl rfl rfl ?_)|(refine GoR.kk 1 rfl ?_;first|refine GoR.load' rfl rfl rfl rfl rfl (g:=?_)|refine GoR.loadA' rfl rfl rfl rfl rfl (hv:=rfl) (g:=?_)|refine GoR.loadV' rfl rfl rfl rfl rfl (g:=?_)|refine GoR.loadVN' rfl rfl rfl rfl rfl (g:=?_))|(refine GoR.kk 2 rfl ?_;first|refine GoR.store' rfl rfl rfl rfl rfl (hl:=rfl) (h1:=rfl) (h3:=rfl) (g:=?_))|(refine GoR.kk 3 rfl ?_;first|refine GoR.fieldAddr rfl rfl rfl rfl rfl ?_|refine GoR.indexN' rfl rfl rfl rfl rfl rfl (g:=?_)|refine GoR.indexNs' rfl rfl rfl rfl rfl rfl (g:=?_)|refine GoR.indexV' rfl rfl rfl rfl rfl rfl (g:=?_)|refine GoR.indexA' rfl rfl rfl rfl rfl rfl (g:=?_)|refine GoR.fieldV' rfl rfl rfl rfl rfl (g:=?_))|(refine GoR.kk 4 rfl ?_;first|refine GoR.eq rfl rfl rfl rfl rfl rfl ?_|refine GoR.ne rfl rfl rfl rfl rfl rfl ?_|refine GoR.lt rfl rfl rfl rfl rfl rfl ?_|refine GoR.le rfl rfl rfl rfl rfl rfl ?_|refine GoR.gt rfl rfl rfl rfl rfl rfl ?_|refine GoR.ge rfl rfl rfl rfl rfl rfl ?_|refine GoR.addN' rfl rfl rfl rfl rfl rfl (g:=?_)|refine GoR.subN' rfl rfl rfl rfl rfl rfl (g:=?_)|refine GoR.add' rfl rfl rfl rfl rfl rfl (g:=?_)|refine GoR.sub' rfl rfl rfl rfl rfl rfl (g:=?_)|refine GoR.addM' rfl rfl rfl rfl rfl rfl (g:=?_)|refine GoR.subM' rfl rfl rfl rfl rfl rfl (g:=?_)|refine GoR.mulM' rfl rfl rfl rfl rfl rfl (g:=?_)|refine GoR.shrN rfl rfl rfl rfl rfl rfl rfl ?_|refine GoR.structEq rfl rfl rfl rfl rfl rfl (by rfl) (by rfl) ?_|refine GoR.structNe rfl rfl rfl rfl rfl rfl (by rfl) (by rfl) ?_|refine GoR.strEq rfl rfl rfl rfl rfl rfl ?_|refine GoR.strNe rfl rfl rfl rfl rfl rfl ?_|refine GoR.remN' rfl rfl rfl rfl rfl rfl (g:=?_)|refine GoR.quoN' rfl rfl rfl rfl rfl rfl (g:=?_)|refine GoR.shlN' rfl rfl rfl rfl rfl rfl rfl (g:=?_)|refine GoR.orN' rfl rfl rfl rfl rfl rfl (g:=?_))|(refine GoR.kk 5 rfl ?_;first|refine GoR.len rfl rfl rfl rfl rfl ?_|refine GoR.lenZ rfl rfl rfl rfl rfl ?_|refine GoR.lenStr rfl rfl rfl rfl rfl ?_|refine GoR.capB rfl rfl rfl rfl rfl ?_)|(refine GoR.kk 7 rfl ?_;first|refine GoR.pickE' rfl rfl rfl rfl rfl (hx:=rfl) (hy:=rfl) (g:=?_)|refine GoR.pickN' rfl rfl rfl rfl rfl (hx:=rfl) (hy:=rfl) (g:=?_)|refine GoR.pickB rfl rfl rfl rfl rfl rfl rfl ?_)|(refine GoR.kk 8 rfl ?_;first|refine GoR.boxA rfl rfl rfl rfl rfl ?_|refine GoR.boxS rfl rfl rfl rfl rfl rfl ?_|refine GoR.alloc rfl rfl rfl rfl ?_)|(refine GoR.kk 9 rfl ?_;first|refine GoR.strV' rfl rfl rfl rfl rfl (g:=?_)|refine GoR.conv_u8 rfl rfl rfl rfl rfl ?_|refine GoR.convW' rfl rfl rfl rfl rfl (g:=?_)|refine GoR.conv_u16 rfl rfl rfl rfl rfl ?_|refine GoR.conv_u32 rfl rfl rfl rfl rfl ?_)|(refine GoR.kk 10 rfl ?_;first|refine GoR.build' rfl rfl rfl rfl rfl rfl (g:=?_))|(refine GoR.kk 11 rfl ?_;first|refine GoR.extract rfl rfl rfl rfl rfl rfl ?_|refine GoR.not rfl rfl rfl rfl rfl ?_|refine GoR.nilCheck rfl rfl rfl rfl rfl ?_|refine GoR.nilCheckF rfl rfl rfl rfl rfl ?_|refine GoR.makeFunc rfl rfl rfl rfl rfl rfl ?_)|(refine Go.kk 0 rfl ?_;refine Go.seq ?_)|(refine Go.kk 1 rfl ?_;refine Go.region (by kernel_rfl) rfl ?_)|(refine Go.kk 2 rfl ?_;refine Go.drawnQ rfl (by kernel_rfl) rfl ?_)|(refine Go.kk 3 rfl ?_;first|refine Go.cond_t' rfl (g:=?_)|refine Go.cond_f' rfl (g:=?_))|(refine Go.kk 4 rfl ?_;refine Go.block ?_)|(refine Go.kk 5 rfl ?_;first|refine Go.skip ?_|refine Go.ret ?_|refine Go.exit ?_|refine Go.scope ?_)|refine Go.leave_normal ?_|refine Go.leave_same ?_|refine Go.leave_ret ?_|refine Go.ret_code ?_|refine Go.exit_code ?_|refine Go.leave_other rfl ?_|refine Go.sc_normal ?_|refine Go.sc_ret ?_|refine Go.sc_exit ?_|refine Go.exit_back ?_|refine Go.ret_back ?_)); exact b_.out)) (g : B) : A := k ⟨g⟩
theorem Go.runL {A B : Prop} (k : Wrap B → A := by (intro b_; (repeat (first|(refine GoL.gd rfl ?_;first|refine GoL.wanted' rfl rfl rfl rfl (g:=?_)|refine GoL.unwanted' rfl rfl rfl rfl (hd:=rfl) (hN:=rfl) (g:=?_)|refine GoL.unwantedU rfl rfl rfl rfl rfl rfl ?_)|(refine GoL.kk 0 rfl ?_;first|refine GoL.move rfl rfl rfl rfl rfl ?_|refine GoL.assign rfl rfl rfl rfl rfl ?_)|(refine GoL.kk 1 rfl ?_;first|refine GoL.load' rfl rfl rfl rfl rfl (g:=?_)|refine GoL.loadA' rfl rfl rfl rfl rfl (hv:=rfl) (g:=?_)|refine GoL.loadV' rfl rfl rfl rfl rfl (g:=?_)|refine GoL.loadVN' rfl rfl rfl rfl rfl (g:=?_))|(refine GoL.kk 3 rfl ?_;first|refine GoL.fieldAddr rfl rfl rfl rfl rfl ?_|refine GoL.indexN' rfl rfl rfl rfl rfl rfl (g:=?_)|refine GoL.indexNs' rfl rfl rfl rfl rfl rfl (g:=?_)|refine GoL.indexV' rfl rfl rfl rfl rfl rfl (g:=?_)|refine GoL.indexA' rfl rfl rfl rfl rfl rfl (g:=?_)|refine GoL.fieldV' rfl rfl rfl rfl rfl (g:=?_))|(refine GoL.kk 4 rfl ?_;first|refine GoL.eq rfl rfl rfl rfl rfl rfl ?_|refine GoL.ne rfl rfl rfl rfl rfl rfl ?_|refine GoL.lt rfl rfl rfl rfl rfl rfl ?_|refine GoL.le rfl rfl rfl rfl rfl rfl ?_|refine GoL.gt rfl rfl rfl rfl rfl rfl ?_|refine GoL.ge rfl rfl rfl rfl rfl rfl ?_|refine GoL.addN' rfl rfl rfl rfl rfl rfl (g:=?_)|refine GoL.subN' rfl rfl rfl rfl rfl rfl (g:=?_)|refine GoL.add' rfl rfl rfl rfl rfl rfl (g:=?_)|refine GoL.sub' rfl rfl rfl rfl rfl rfl (g:=?_)|refine GoL.addM' rfl rfl rfl rfl rfl rfl (g:=?_)|refine GoL.subM' rfl rfl rfl rfl rfl rfl (g:=?_)|refine GoL.mulM' rfl rfl rfl rfl rfl rfl (g:=?_)|refine GoL.shrN rfl rfl rfl rfl rfl rfl rfl ?_|refine GoL.strEq rfl rfl rfl rfl rfl rfl ?_|refine GoL.strNe rfl rfl rfl rfl rfl rfl ?_|refine GoL.remN' rfl rfl rfl rfl rfl rfl (g:=?_)|refine GoL.quoN' rfl rfl rfl rfl rfl rfl (g:=?_)|refine GoL.shlN' rfl rfl rfl rfl rfl rfl rfl (g:=?_)|refine GoL.orN' rfl rfl rfl rfl rfl rfl (g:=?_))|(refine GoL.kk 5 rfl ?_;first|refine GoL.len rfl rfl rfl rfl rfl ?_|refine GoL.lenZ rfl rfl rfl rfl rfl ?_|refine GoL.lenStr rfl rfl rfl rfl rfl ?_|refine GoL.capB rfl rfl rfl rfl rfl ?_)|(refine GoL.kk 7 rfl ?_;first|refine GoL.pickE' rfl rfl rfl rfl rfl (hx:=rfl) (hy:=rfl) (g:=?_)|refine GoL.pickN' rfl rfl rfl rfl rfl (hx:=rfl) (hy:=rfl) (g:=?_))|(refine GoL.kk 8 rfl ?_;first|refine GoL.boxA rfl rfl rfl rfl rfl ?_|refine GoL.boxS rfl rfl rfl rfl rfl rfl ?_|refine GoL.alloc rfl rfl rfl rfl ?_)|(refine GoL.kk 9 rfl ?_;first|refine GoL.conv_u8 rfl rfl rfl rfl rfl ?_|refine GoL.convW' rfl rfl rfl rfl rfl (g:=?_)|refine GoL.conv_u16 rfl rfl rfl rfl rfl ?_|refine GoL.conv_u32 rfl rfl rfl rfl rfl ?_)|(refine GoL.kk 10 rfl ?_;first|refine GoL.build' rfl rfl rfl rfl rfl rfl (g:=?_))|(refine GoL.kk 11 rfl ?_;first|refine GoL.extract rfl rfl rfl rfl rfl rfl ?_|refine GoL.not rfl rfl rfl rfl rfl ?_|refine GoL.nilCheck rfl rfl rfl rfl rfl ?_|refine GoL.nilCheckF rfl rfl rfl rfl rfl ?_|refine GoL.makeFunc rfl rfl rfl rfl rfl rfl ?_))); exact b_.out)) (g : B) : A := k ⟨g⟩
theorem GoL.end_ {P : Program} {W : Nat → Prop} {q : Bool} {N : Nat} {k : List It} {ov : Ov} {df : List Nat} {h : AHeap} {Q : PQ} {ops : Array Oper} {tr : List (Option LE)} (hl : loudP ops tr tr 0 := by (simp only [List.nil_append, List.cons_append]); repeat (first | exact loudP.nil | refine loudP.none ?_ | refine loudP.new (fun _ hb => absurd hb List.not_mem_nil) ?_ | refine loudP.row (by repeat (first | exact loudRowP.nil | refine loudRowP.none ?_ | refine loudRowP.bef (by decide +kernel) ?_ | refine loudRowP.apart (by first | exact .inl rfl | exact .inr (by simp)) rfl (by first | (intro i hi; have hx := Own.out (by assumption) hi; have hy := Sv.lt (by assumption) i hi; refine ⟨?_, ?_, ?_⟩ <;> first | (simp only [List.mem_cons, List.not_mem_nil, or_false, not_false_eq_true]; omega) | (simp; omega) | trivial | simp | omega) | fail) ?_)) ?_)) (g : Go P W q N k .normal ov df h Q) : GoL P W q N ops tr [] k ov df h Q := GoL.end hl g
theorem Go.runN {A B : Prop} (k : Wrap B → A := by (intro b_; (repeat (first|refine GoR.end ?_|(refine GoR.gd rfl ?_;first|refine GoR.wanted' rfl rfl rfl rfl (g:=?_)|refine GoR.unwanted' rfl rfl rfl rfl (hd:=rfl) (hN:=rfl) (g:=?_)|refine GoR.unwantedU rfl rfl rfl rfl rfl rfl ?_)|(refine GoR.kk 0 rfl ?_;first|refine GoR.move rfl rfl rfl rfl rfl ?_|refine GoR.assign rfl rfl rfl rfl rfl ?_)|(refine GoR.kk 1 rfl ?_;first|refine GoR.load' rfl rfl rfl rfl rfl (g:=?_)|refine GoR.loadA' rfl rfl rfl rfl rfl (hv:=rfl) (g:=?_)|refine GoR.loadV' rfl rfl rfl rfl rfl (g:=?_)|refine GoR.loadVN' rfl rfl rfl rfl rfl (g:=?_))|(refine GoR.kk 2 rfl ?_;first|refine GoR.store' rfl rfl rfl rfl rfl (hl:=rfl) (h1:=rfl) (h3:=rfl) (g:=?_))|(refine GoR.kk 3 rfl ?_;first|refine GoR.fieldAddr rfl rfl rfl rfl rfl ?_|refine GoR.indexN' rfl rfl rfl rfl rfl rfl (g:=?_)|refine GoR.indexNs' rfl rfl rfl rfl rfl rfl (g:=?_)|refine GoR.indexV' rfl rfl rfl rfl rfl rfl (g:=?_)|refine GoR.indexA' rfl rfl rfl rfl rfl rfl (g:=?_)|refine GoR.fieldV' rfl rfl rfl rfl rfl (g:=?_))|(refine GoR.kk 4 rfl ?_;first|refine GoR.eq rfl rfl rfl rfl rfl rfl ?_|refine GoR.ne rfl rfl rfl rfl rfl rfl ?_|refine GoR.lt rfl rfl rfl rfl rfl rfl ?_|refine GoR.le rfl rfl rfl rfl rfl rfl ?_|refine GoR.gt rfl rfl rfl rfl rfl rfl ?_|refine GoR.ge rfl rfl rfl rfl rfl rfl ?_|refine GoR.addN' rfl rfl rfl rfl rfl rfl (g:=?_)|refine GoR.subN' rfl rfl rfl rfl rfl rfl (g:=?_)|refine GoR.add' rfl rfl rfl rfl rfl rfl (g:=?_)|refine GoR.sub' rfl rfl rfl rfl rfl rfl (g:=?_)|refine GoR.addM' rfl rfl rfl rfl rfl rfl (g:=?_)|refine GoR.subM' rfl rfl rfl rfl rfl rfl (g:=?_)|refine GoR.mulM' rfl rfl rfl rfl rfl rfl (g:=?_)|refine GoR.shrN rfl rfl rfl rfl rfl rfl rfl ?_|refine GoR.structEq rfl rfl rfl rfl rfl rfl (by rfl) (by rfl) ?_|refine GoR.structNe rfl rfl rfl rfl rfl rfl (by rfl) (by rfl) ?_|refine GoR.strEq rfl rfl rfl rfl rfl rfl ?_|refine GoR.strNe rfl rfl rfl rfl rfl rfl ?_|refine GoR.remN' rfl rfl rfl rfl rfl rfl (g:=?_)|refine GoR.quoN' rfl rfl rfl rfl rfl rfl (g:=?_)|refine GoR.shlN' rfl rfl rfl rfl rfl rfl rfl (g:=?_)|refine GoR.orN' rfl rfl rfl rfl rfl rfl (g:=?_))|(refine GoR.kk 5 rfl ?_;first|refine GoR.len rfl rfl rfl rfl rfl ?_|refine GoR.lenZ rfl rfl rfl rfl rfl ?_|refine GoR.lenStr rfl rfl rfl rfl rfl ?_|refine GoR.capB rfl rfl rfl rfl rfl ?_)|(refine GoR.kk 7 rfl ?_;first|refine GoR.pickE' rfl rfl rfl rfl rfl (hx:=rfl) (hy:=rfl) (g:=?_)|refine GoR.pickN' rfl rfl rfl rfl rfl (hx:=rfl) (hy:=rfl) (g:=?_)|refine GoR.pickB rfl rfl rfl rfl rfl rfl rfl ?_)|(refine GoR.kk 8 rfl ?_;first|refine GoR.boxA rfl rfl rfl rfl rfl ?_|refine GoR.boxS rfl rfl rfl rfl rfl rfl ?_|refine GoR.alloc rfl rfl rfl rfl ?_)|(refine GoR.kk 9 rfl ?_;first|refine GoR.strV' rfl rfl rfl rfl rfl (g:=?_)|refine GoR.conv_u8 rfl rfl rfl rfl rfl ?_|refine GoR.convW' rfl rfl rfl rfl rfl (g:=?_)|refine GoR.conv_u16 rfl rfl rfl rfl rfl ?_|refine GoR.conv_u32 rfl rfl rfl rfl rfl ?_)|(refine GoR.kk 10 rfl ?_;first|refine GoR.build' rfl rfl rfl rfl rfl rfl (g:=?_))|(refine GoR.kk 11 rfl ?_;first|refine GoR.extract rfl rfl rfl rfl rfl rfl ?_|refine GoR.not rfl rfl rfl rfl rfl ?_|refine GoR.nilCheck rfl rfl rfl rfl rfl ?_|refine GoR.nilCheckF rfl rfl rfl rfl rfl ?_|refine GoR.makeFunc rfl rfl rfl rfl rfl rfl ?_)|(refine Go.kk 0 rfl ?_;refine Go.seq ?_)|(refine Go.kk 1 rfl ?_;refine Go.region (by kernel_rfl) rfl ?_)|(refine Go.kk 3 rfl ?_;first|refine Go.cond_t' rfl (g:=?_)|refine Go.cond_f' rfl (g:=?_))|(refine Go.kk 4 rfl ?_;refine Go.block ?_)|(refine Go.kk 5 rfl ?_;first|refine Go.skip ?_|refine Go.ret ?_|refine Go.exit ?_|refine Go.scope ?_)|refine Go.leave_normal ?_|refine Go.leave_same ?_|refine Go.leave_ret ?_|refine Go.ret_code ?_|refine Go.exit_code ?_|refine Go.leave_other rfl ?_|refine Go.sc_normal ?_|refine Go.sc_ret ?_|refine Go.sc_exit ?_|refine Go.exit_back ?_|refine Go.ret_back ?_)); exact b_.out)) (g : B) : A := k ⟨g⟩
theorem Go.one {A B : Prop} (k : Wrap B → A := by (intro b_; ((first|refine GoR.end ?_|(refine GoR.gd rfl ?_;first|refine GoR.wanted' rfl rfl rfl rfl (g:=?_)|refine GoR.unwanted' rfl rfl rfl rfl (hd:=rfl) (hN:=rfl) (g:=?_)|refine GoR.unwantedU rfl rfl rfl rfl rfl rfl ?_)|(refine GoR.kk 0 rfl ?_;first|refine GoR.move rfl rfl rfl rfl rfl ?_|refine GoR.assign rfl rfl rfl rfl rfl ?_)|(refine GoR.kk 1 rfl ?_;first|refine GoR.load' rfl rfl rfl rfl rfl (g:=?_)|refine GoR.loadA' rfl rfl rfl rfl rfl (hv:=rfl) (g:=?_)|refine GoR.loadV' rfl rfl rfl rfl rfl (g:=?_)|refine GoR.loadVN' rfl rfl rfl rfl rfl (g:=?_))|(refine GoR.kk 2 rfl ?_;first|refine GoR.store' rfl rfl rfl rfl rfl (hl:=rfl) (h1:=rfl) (h3:=rfl) (g:=?_))|(refine GoR.kk 3 rfl ?_;first|refine GoR.fieldAddr rfl rfl rfl rfl rfl ?_|refine GoR.indexN' rfl rfl rfl rfl rfl rfl (g:=?_)|refine GoR.indexNs' rfl rfl rfl rfl rfl rfl (g:=?_)|refine GoR.indexV' rfl rfl rfl rfl rfl rfl (g:=?_)|refine GoR.indexA' rfl rfl rfl rfl rfl rfl (g:=?_)|refine GoR.fieldV' rfl rfl rfl rfl rfl (g:=?_))|(refine GoR.kk 4 rfl ?_;first|refine GoR.eq rfl rfl rfl rfl rfl rfl ?_|refine GoR.ne rfl rfl rfl rfl rfl rfl ?_|refine GoR.lt rfl rfl rfl rfl rfl rfl ?_|refine GoR.le rfl rfl rfl rfl rfl rfl ?_|refine GoR.gt rfl rfl rfl rfl rfl rfl ?_|refine GoR.ge rfl rfl rfl rfl rfl rfl ?_|refine GoR.addN' rfl rfl rfl rfl rfl rfl (g:=?_)|refine GoR.subN' rfl rfl rfl rfl rfl rfl (g:=?_)|refine GoR.add' rfl rfl rfl rfl rfl rfl (g:=?_)|refine GoR.sub' rfl rfl rfl rfl rfl rfl (g:=?_)|refine GoR.addM' rfl rfl rfl rfl rfl rfl (g:=?_)|refine GoR.subM' rfl rfl rfl rfl rfl rfl (g:=?_)|refine GoR.mulM' rfl rfl rfl rfl rfl rfl (g:=?_)|refine GoR.shrN rfl rfl rfl rfl rfl rfl rfl ?_|refine GoR.structEq rfl rfl rfl rfl rfl rfl (by rfl) (by rfl) ?_|refine GoR.structNe rfl rfl rfl rfl rfl rfl (by rfl) (by rfl) ?_|refine GoR.strEq rfl rfl rfl rfl rfl rfl ?_|refine GoR.strNe rfl rfl rfl rfl rfl rfl ?_|refine GoR.remN' rfl rfl rfl rfl rfl rfl (g:=?_)|refine GoR.quoN' rfl rfl rfl rfl rfl rfl (g:=?_)|refine GoR.shlN' rfl rfl rfl rfl rfl rfl rfl (g:=?_)|refine GoR.orN' rfl rfl rfl rfl rfl rfl (g:=?_))|(refine GoR.kk 5 rfl ?_;first|refine GoR.len rfl rfl rfl rfl rfl ?_|refine GoR.lenZ rfl rfl rfl rfl rfl ?_|refine GoR.lenStr rfl rfl rfl rfl rfl ?_|refine GoR.capB rfl rfl rfl rfl rfl ?_)|(refine GoR.kk 7 rfl ?_;first|refine GoR.pickE' rfl rfl rfl rfl rfl (hx:=rfl) (hy:=rfl) (g:=?_)|refine GoR.pickN' rfl rfl rfl rfl rfl (hx:=rfl) (hy:=rfl) (g:=?_)|refine GoR.pickB rfl rfl rfl rfl rfl rfl rfl ?_)|(refine GoR.kk 8 rfl ?_;first|refine GoR.boxA rfl rfl rfl rfl rfl ?_|refine GoR.boxS rfl rfl rfl rfl rfl rfl ?_|refine GoR.alloc rfl rfl rfl rfl ?_)|(refine GoR.kk 9 rfl ?_;first|refine GoR.strV' rfl rfl rfl rfl rfl (g:=?_)|refine GoR.conv_u8 rfl rfl rfl rfl rfl ?_|refine GoR.convW' rfl rfl rfl rfl rfl (g:=?_)|refine GoR.conv_u16 rfl rfl rfl rfl rfl ?_|refine GoR.conv_u32 rfl rfl rfl rfl rfl ?_)|(refine GoR.kk 10 rfl ?_;first|refine GoR.build' rfl rfl rfl rfl rfl rfl (g:=?_))|(refine GoR.kk 11 rfl ?_;first|refine GoR.extract rfl rfl rfl rfl rfl rfl ?_|refine GoR.not rfl rfl rfl rfl rfl ?_|refine GoR.nilCheck rfl rfl rfl rfl rfl ?_|refine GoR.nilCheckF rfl rfl rfl rfl rfl ?_|refine GoR.makeFunc rfl rfl rfl rfl rfl rfl ?_)|(refine Go.kk 0 rfl ?_;refine Go.seq ?_)|(refine Go.kk 1 rfl ?_;refine Go.region (by kernel_rfl) rfl ?_)|(refine Go.kk 2 rfl ?_;refine Go.drawnQ rfl (by kernel_rfl) rfl ?_)|(refine Go.kk 3 rfl ?_;first|refine Go.cond_t' rfl (g:=?_)|refine Go.cond_f' rfl (g:=?_))|(refine Go.kk 4 rfl ?_;refine Go.block ?_)|(refine Go.kk 5 rfl ?_;first|refine Go.skip ?_|refine Go.ret ?_|refine Go.exit ?_|refine Go.scope ?_)|refine Go.leave_normal ?_|refine Go.leave_same ?_|refine Go.leave_ret ?_|refine Go.ret_code ?_|refine Go.exit_code ?_|refine Go.leave_other rfl ?_|refine Go.sc_normal ?_|refine Go.sc_ret ?_|refine Go.sc_exit ?_|refine Go.exit_back ?_|refine Go.ret_back ?_)); exact b_.out)) (g : B) : A := k ⟨g⟩
theorem GoL.endN {P : Program} {W : Nat → Prop} {q : Bool} {N : Nat} {k : List It} {ov : Ov} {df : List Nat} {h : AHeap} {Q : PQ} {ops : Array Oper} {tr : List (Option LE)} (hl : loudP ops tr tr 0 := by (simp only [List.nil_append, List.cons_append, AHeap.n_push, AHeap.n_put]); repeat (first | exact loudP.nil | refine loudP.none ?_ | refine loudP.new (fun _ hb => absurd hb List.not_mem_nil) ?_ | refine loudP.row (by repeat (first | exact loudRowP.nil | refine loudRowP.none ?_ | refine loudRowP.bef (by decide +kernel) ?_ | refine loudRowP.apart (by first | exact .inl rfl | exact .inr (by simp)) rfl (fun i hi => by simp only [List.mem_cons, List.not_mem_nil, or_false] at hi; subst hi; first | (simp; fail_if_success focus skip) | (simp; omega)) ?_)) ?_)) (g : Go P W q N k .normal ov df h Q) : GoL P W q N ops tr [] k ov df h Q := GoL.end hl g
theorem GoL.endC {P : Program} {W : Nat → Prop} {q : Bool} {N : Nat} {k : List It} {ov : Ov} {df : List Nat} {h : AHeap} {Q : PQ} {ops : Array Oper} {tr : List (Option LE)} (hl : loudP ops tr tr 0 := by (simp only [List.nil_append, List.cons_append]); repeat (first | exact loudP.nil | refine loudP.none ?_ | refine loudP.new (fun _ hb => absurd hb List.not_mem_nil) ?_ | refine loudP.row (by repeat (first | exact loudRowP.nil | refine loudRowP.none ?_ | refine loudRowP.bef (by decide +kernel) ?_ | refine loudRowP.apart (by first | exact .inl rfl | exact .inr (by simp)) rfl (fun i hi => by first | (have hx := hdis _ hi; first | (simp; fail_if_success focus skip) | (simp; omega) | (simp [hx]; fail_if_success focus skip)) | (have hx := hdis2 _ hi; first | (simp; fail_if_success focus skip) | (simp; omega) | (simp [hx]; fail_if_success focus skip))) ?_)) ?_)) (g : Go P W q N k .normal ov df h Q) : GoL P W q N ops tr [] k ov df h Q := GoL.end hl g
theorem Go.finB {P : Program} {W : Nat → Prop} {q : Bool} {N : Nat} {ov : Ov} {h : AHeap} {x : Exit} {a : Tmp} {t ct : TypeId} {n₀ : Nat} {b off : Nat} {c : List Value} {v : Value} {Q : Value → AHeap → Prop} (ha : ov.find a = some (.pointer (some ⟨b, off, none⟩))) [hc : CT P t none] (hg : h.get b = some (.cells c ct) := by (first | assumption | exact AHeap.get_push_same _ _ | ((repeat first | exact AHeap.get_push_same _ _ | assumption | refine get_push_lt ?_ | exact AHeap.get_put_same _ (by first | omega | (simp only [AHeap.n_push, AHeap.n_put]; omega)) _ | exact get_put_self (by assumption) | apply get_put_self | refine get_put_other (by first | omega | (simp only [AHeap.n_push, AHeap.n_put]; omega)) ?_ | refine Same.get (by assumption) ?_ | refine Keeps.get (by assumption) ?_ (fun hi => by have hx := Own.out (by assumption) hi; omega)) ; fail_if_success focus skip) | fail)) (hv : c[off]? = some v := by (first | rfl | assumption | (simp only [List.getElem?_cons_zero, List.getElem?_cons_succ, Int.toNat_natCast, Nat.mul_one, Nat.add_zero, Nat.zero_add]; first | rfl | assumption))) (hq : Q v h) (hx : x = .normal ∨ x = .ret := by first|exact .inr rfl|exact .inl rfl) : Go P W q N [] x ov [] h (Fin P [.cell a t] n₀ Q) := Go.fin (vs := [v]) hx (.cell ha hc hg hv .nil) hq
theorem GoL.st {A B : Prop} (k : Wrap B → A := by (intro b_; refine GoL.store' rfl rfl rfl rfl rfl (hl:=rfl) (h1:=rfl) (h3:=rfl) (g:=?_); exact b_.out)) (g : B) : A := k ⟨g⟩
theorem hg_ {h : AHeap} {b : Nat} {o : Option AObj} (hg : h.get b = o := by (first | assumption | exact AHeap.get_push_same _ _ | ((repeat first | exact AHeap.get_push_same _ _ | assumption | refine get_push_lt ?_ | exact AHeap.get_put_same _ (by first | omega | (simp only [AHeap.n_push, AHeap.n_put]; omega)) _ | exact get_put_self (by assumption) | apply get_put_self | refine get_put_other (by first | omega | (simp only [AHeap.n_push, AHeap.n_put]; omega)) ?_ | refine Same.get (by assumption) ?_ | refine Keeps.get (by assumption) ?_ (fun hi => by have hx := Own.out (by assumption) hi; omega)) ; fail_if_success focus skip) | fail)) : h.get b = o := hg
theorem Go.finA {P : Program} {W : Nat → Prop} {q : Bool} {N : Nat} {ov : Ov} {h : AHeap} {Q : Value → AHeap → Prop} {x : Exit} {rs : List ResultVar} {n₀ : Nat} {vs : List Value} (hr : evRs ov rs = some vs) (hq : Q (retV vs) h) (hx : x = .normal ∨ x = .ret := by first|exact .inr rfl|exact .inl rfl) : Go P W q N [] x ov [] h (Fin P rs n₀ Q) := .finT hx hr hq
end Go.Proofs.YtncbbeghkpjpbaaDoor
namespace Go.Proofs.YtncbbeghkpjpbaaDoor
def restr (h : AHeap) : List Nat → AHeap
 | [] => ⟨h.n, .nil⟩
 | i :: l => (restr h l).put i (h.get i)
theorem restr_n (h : AHeap) (l : List Nat) : (restr h l).n = h.n := by
 induction l with
 | nil => rfl
 | cons i l ih => simpa [restr] using ih
theorem restr_get (h : AHeap) (l : List Nat) (i : Nat) : (restr h l).get i = if i ∈ l then h.get i else none := by
 induction l with
 | nil =>
  simp only [restr, AHeap.get, List.not_mem_nil, if_false]
  have e : Tr.nil.get i = none := rfl
  rw [e]
  exact ite_self _
 | cons j l ih =>
  simp only [restr]
  rw [AHeap.get_put, restr_n]
  by_cases e : j = i
  ·
   subst e
   simp only [if_true, List.mem_cons, true_or]
   split
   · rfl
   · rw [AHeap.get_out (by omega)]
  ·
   rw [if_neg e, ih]
   have : (i ∈ j :: l) ↔ i ∈ l := by simp [Ne.symm e]
   simp only [this]
theorem restr_some {h : AHeap} {l : List Nat} {i : Nat} {o : AObj} (e : (restr h l).get i = some o) : h.get i = some o ∧ i ∈ l := by
 rw [restr_get] at e
 split at e
 · exact ⟨e, by assumption⟩
 · cases e
theorem merge (h h₂ : AHeap) (hn : h.n ≤ h₂.n) : ∃ h' : AHeap, h'.n = h₂.n ∧ (∀ i, i < h.n → h'.get i = h.get i) ∧ ∀ i, h.n ≤ i → h'.get i = h₂.get i := by
 have key : ∀ k, ∃ g : AHeap, g.n = h.n + k ∧ (∀ i, i < h.n → g.get i = h.get i) ∧ ∀ i, h.n ≤ i → i < h.n + k → g.get i = h₂.get i := by
  intro k
  induction k with
  | zero => exact ⟨h, rfl, fun _ _ => rfl, fun i a b => by omega⟩
  | succ k ih =>
   obtain ⟨g, e1, e2, e3⟩ := ih
   refine ⟨(g.push (.cells [] 0)).put (h.n + k) (h₂.get (h.n + k)), by simp [e1]; omega, fun i hi => ?_, fun i h1 h2 => ?_⟩
   · rw [AHeap.get_put_ne _ _ (by omega), AHeap.get_push_ne _ _ (by omega), e2 i hi]
   ·
    by_cases e : i = h.n + k
    ·
     subst e
     rw [AHeap.get_put_same _ (by simp [e1])]
    · rw [AHeap.get_put_ne _ _ (by omega), AHeap.get_push_ne _ _ (by omega), e3 i h1 (by omega)]
 obtain ⟨g, e1, e2, e3⟩ := key (h₂.n - h.n)
 refine ⟨g, by omega, e2, fun i hi => ?_⟩
 by_cases hl : i < h₂.n
 · exact e3 i hi (by omega)
 · rw [AHeap.get_out (by omega), AHeap.get_out (by omega)]
theorem OpRun.lift {P : Program} {D W W₁ : Nat → Prop} {o : Oper} {tm : List Value} {h h' h₂ : AHeap} {v : Value} {rd : List Nat} (hw : ∀ i, ¬ W₁ i) (k : OpRun P Ev W₁ o tm (restr h rd) v h₂) (hd : ∀ i ∈ rd, D i) (e1 : h'.n = h₂.n) (e2 : ∀ i, i < h.n → h'.get i = h.get i) (e3 : ∀ i, h.n ≤ i → h'.get i = h₂.get i) : OpRun P D W o tm h v h' := by
 have hn : h.n ≤ h₂.n := by have := k.fr.n; rwa [restr_n] at this
 refine ⟨⟨by omega, fun i hi _ => e2 i hi, fun i c t hi e => ⟨c, by rw [← e2 i hi]; exact e, rfl⟩, fun i hi e => by rw [← e2 i hi]; exact e, fun i hi e => AHeap.live_eq (e2 i hi) e, fun i c hi e => by rw [← e2 i hi]; exact e⟩, fun m w A r hm hfr hx H K Q hK => ?_⟩
 refine k.run m w A r hm (fun i a b => hfr i (by rwa [restr_n] at a) (by omega)) hx ?_ K Q fun v' w' m' f hv H' => ?_
 ·
  exact {
      lt := H.lt
      typ := fun i l c t a b => H.typ i l c t a (restr_some b).1
      inj := fun i j l k a b c d => H.inj i j l k a b (by
       rw [restr_get] at c
       split at c
       · exact c
       · exact absurd rfl c) (by
       obtain ⟨o, x, y⟩ := d
       exact ⟨o, (restr_some x).1, y⟩)
      roS := fun i l c a b => H.roS i l c a (restr_some b).1
      obj := fun i l o _ a b => H.obj i l o (hd i (restr_some b).2) a (restr_some b).1 }
 ·
  have fo : ∀ i, (i < h.n ∨ h₂.n ≤ i) → m' i = m i := fun i hi => f.old i (by rwa [restr_n])
  have fn : ∀ i l, h.n ≤ i → i < h₂.n → m' i = some l → w.heap.size ≤ l.b := fun i l a b c => (f.new i l (by rwa [restr_n]) b c).elim id fun ⟨j, _, _, x, _⟩ => absurd x (hw j)
  have fk : ∀ b, b < w.heap.size → w'.heap[b]? = w.heap[b]? := fun b hb => f.keep b hb fun j _ _ x => absurd x (hw j)
  have hle : m.le m' := f.le fun i a b => hfr i (by rwa [restr_n] at a) (by omega)
  have nw : ∀ i, ¬ i < h.n → ∀ {o : AObj}, h'.get i = some o → i < h₂.n := fun i hi o e => by have := AHeap.lt e; omega
  refine hK v' w' m' ⟨fun i hi => fo i (by omega), fun i l a b c => .inl (fn i l a (by omega) c), fun b hb _ => fk b hb, f.size, f.os, f.tape, f.output⟩ hv ?_
  exact {
      lt := H'.lt
      typ := fun i l c t a b => by
       by_cases hi : i < h.n
       · rw [e2 i hi] at b; rw [fo i (.inl hi)] at a; exact H.typ i l c t a b
       · rw [e3 i (by omega)] at b; exact H'.typ i l c t a b
      inj := fun i j l k a b c d e => by
       by_cases hi : i < h.n
       ·
        rw [fo i (.inl hi)] at a
        by_cases hj : j < h.n
        ·
         rw [fo j (.inl hj)] at b
         exact H.inj i j l k a b (by rw [← e2 i hi]; exact c) (AHeap.live_eq (e2 j hj).symm.symm d) e
        ·
         obtain ⟨o, x, _⟩ := d
         have h1 := fn j k (by omega) (nw j hj x) b
         have h2 := H.lt i l a
         omega
       ·
        have hi' : i < h₂.n := by
         cases g : h'.get i with
         | none => exact absurd g c
         | some o => exact nw i hi g
        by_cases hj : j < h.n
        ·
         rw [fo j (.inl hj)] at b
         have h1 := fn i l (by omega) hi' a
         have h2 := H.lt j k b
         omega
        · exact H'.inj i j l k a b (by rw [← e3 i (by omega)]; exact c) (AHeap.live_eq (e3 j (by omega)) d) e
      roS := fun i l c a b => by
       by_cases hi : i < h.n
       · rw [e2 i hi] at b; rw [fo i (.inl hi)] at a; exact H.roS i l c a b
       · rw [e3 i (by omega)] at b; exact H'.roS i l c a b
      obj := fun i l o hD a b => by
       by_cases hi : i < h.n
       ·
        rw [e2 i hi] at b; rw [fo i (.inl hi)] at a
        obtain ⟨o', x, y⟩ := H.obj i l o hD a b
        exact ⟨o', by rw [fk _ (H.lt i l a)]; exact x, y.mono hle⟩
       ·
        rw [e3 i (by omega)] at b
        exact H'.obj i l o trivial a b }
structure News (h h' h₂ : AHeap) : Prop where
 same : Same h h'
 n : h'.n = h₂.n
 get : ∀ i, h.n ≤ i → h'.get i = h₂.get i
theorem News.sv {h h' h₂ : AHeap} {t : TypeId} {sz len cap : Nat} {a : Option Addr} {cs : List Value} (k : News h h' h₂) (s : Sv h₂ t sz a len cap cs) (o : Own h.n a) : Sv h' t sz a len cap cs := by
 cases s with
 | nil => exact .nil
 | mk hg ho hl hc => exact .mk (by rw [k.get _ (o _ (by simp [blk]))]; exact hg) ho hl hc
theorem Rv.restr {P : Program} {h : AHeap} {sz len cap : Nat} {a : Option Addr} {cs : List Value} (k : Rv P h sz a len cap cs) (rd : List Nat) (hr : ∀ i ∈ blk a, i ∈ rd) : Rv P (restr h rd) sz a len cap cs := by
 cases k with
 | nil => exact .nil
 | @mk b o _ _ c _ hg ho hl hc =>
  have e : (Go.Proofs.YtncbbeghkpjpbaaDoor.restr h rd).get b = h.get b := by rw [restr_get, if_pos (hr b (by simp [blk]))]
  exact .mk (by rw [e]; exact hg) ho hl hc
theorem GoL.callR {P : Program} {W : Nat → Prop} {q : Bool} {N : Nat} {k : List It} {ov : Ov} {df : List Nat} {h : AHeap} {Q : PQ} {ops : Array Oper} {os : List Oper} {o : Oper} {d : Nat} {tr : List (Option LE)} {f : Operand} {xs : Array Operand} {ts : Array TypeId} {g : FuncId} {first cap : Array Value} {us : List Value} (rd : List Nat) (ho : o.op = .call ⟨.value f, xs, ts⟩) (hd : o.dst = some d) (hN : dOk d N = true) (hgd : o.guard = none) (hf : evO ov f = some (.func (.func g) first cap)) (hx : evOs ov xs.toList = some us) (hc : calls P g = true)
  (hk : CallS P [] g (first.toList ++ us ++ cap.toList) (restr h rd) fun v h₂ => ∀ h', News h h' h₂ → GoL P W q N ops (tr ++ [some ⟨h.n, h'.n, rd, [], false, false⟩]) os k ((d, v) :: ov) df h' Q) : GoL P W q N ops tr (o :: os) k ov df h Q := by
 obtain ⟨v, h₂, hr, hg⟩ := hk
 have hn : h.n ≤ h₂.n := by have := hr.fr.n; rwa [restr_n] at this
 obtain ⟨h', e1, e2, e3⟩ := merge h h₂ hn
 refine GoL.step (r := ⟨v, h', rd, [], false, false⟩) (some ⟨h.n, h'.n, rd, [], false, false⟩) ⟨rfl, rfl, rfl, rfl, rfl, rfl⟩ hgd hd hN (fun tm hrp => ⟨(fun e => by cases e), fun D W' _ hrd _ => ?_⟩) (fun i hi => absurd hi List.not_mem_nil) (hg h' ⟨⟨by omega, e2⟩, e1, e3⟩)
 obtain ⟨fn, h1, h2, h3⟩ := calls_spec hc
 have e : (first.toList ++ us ++ cap.toList).toArray = first ++ xs.map (evalT tm) ++ cap := by
  apply Array.toList_inj.1
  simp [← evOs_eq hrp hx]
 rw [e] at hr
 exact OpRun.lift (fun i => List.not_mem_nil) (OpRun.call ho (evO_eq hrp hf) h1 h2 h3 hr) hrd e1 e2 e3
section
variable {P : Program} {W : Nat → Prop} {q : Bool} {N : Nat} {k : List It} {ov : Ov} {df : List Nat} {h : AHeap} {Q : PQ} {ops : Array Oper} {os : List Oper} {tr : List (Option LE)} {b₀ : Bool} {x : Exit}
theorem GoL.name (g : ∀ h', h' = h → GoL P W q N ops tr os k ov df h' Q) : GoL P W q N ops tr os k ov df h Q := g h rfl
theorem GoR.name (g : ∀ h', h' = h → GoR P W q N ops b₀ os k ov df h' Q) : GoR P W q N ops b₀ os k ov df h Q := g h rfl
theorem Go.name (g : ∀ h', h' = h → Go P W q N k x ov df h' Q) : Go P W q N k x ov df h Q := g h rfl
end
def Jn {α : Type} (fr : α → Ov) (dfs : α → List Nat) (hp : α → AHeap) (I : α → Prop) : List Value → List Nat → AHeap → Prop := fun tm df h => ∃ a, I a ∧ Rp (fr a) tm ∧ df = dfs a ∧ h = hp a
theorem Gx.join {P : Program} {W : Nat → Prop} {q : Bool} {N : Nat} {k : List It} {Q : PQ} {R : List Value → List Nat → AHeap → Prop} (hR : ∀ tm df h, tm.length = N → R tm df h → Gx P W q k .normal tm df h Q) : ∀ (pre : List It) (x : Exit) (tm : List Value) (df : List Nat) (h : AHeap), tm.length = N → Gx P W q (pre ++ .back R :: k) x tm df h Q → Gx P W q (pre ++ k) x tm df h Q
 | [], x, tm, df, h, hN, g => by
  by_cases hx : x = .normal
  · subst hx; exact hR tm df h hN (g.1 rfl)
  · exact g.2 hx
 | .leave id :: pre, x, tm, df, h, hN, g => Gx.join hR pre (Exit.leave id x) tm df h hN g
 | .sc :: pre, x, tm, df, h, hN, g => ⟨g.1, Gx.join hR pre x tm df h hN g.2⟩
 | .soft _ :: pre, x, tm, df, h, hN, g => Gx.join hR pre x tm df h hN g
 | .back R' :: pre, x, tm, df, h, hN, g => ⟨g.1, fun e => Gx.join hR pre x tm df h hN (g.2 e)⟩
 | .code c :: pre, x, tm, df, h, hN, g => ⟨fun e => by
   obtain ⟨x', tm', df', h', r, n, g'⟩ := g.1 e
   exact ⟨x', tm', df', h', r, n, Gx.join hR pre x' tm' df' h' (n.trans hN) g'⟩, fun e => Gx.join hR pre x tm df h hN (g.2 e)⟩
section
variable {P : Program} {W : Nat → Prop} {q : Bool} {N : Nat} {k : List It} {ov : Ov} {df : List Nat} {h : AHeap} {Q : PQ} {x : Exit}
theorem Go.joinN {α : Type} (pre : List It) (fr : α → Ov) (dfs : α → List Nat) (hp : α → AHeap) (I : α → Prop) (first : Go P W q N (pre ++ .back (Jn fr dfs hp I) :: k) x ov df h Q) (rest : ∀ a, I a → Go P W q N k .normal (fr a) (dfs a) (hp a) Q) : Go P W q N (pre ++ k) x ov df h Q := fun tm hN hr =>
 Gx.join (fun tm df h hN ⟨a, ha, hra, e1, e2⟩ => by subst e1 e2; exact rest a ha tm hN hra) pre x tm df h hN (first tm hN hr)
theorem Go.join1 {α : Type} {i1 : It} (fr : α → Ov) (dfs : α → List Nat) (hp : α → AHeap) (I : α → Prop) (first : Go P W q N (i1 :: .back (Jn fr dfs hp I) :: k) x ov df h Q) (rest : ∀ a, I a → Go P W q N k .normal (fr a) (dfs a) (hp a) Q) : Go P W q N (i1 :: k) x ov df h Q := Go.joinN [i1] fr dfs hp I first rest
theorem Go.joined {α : Type} {fr : α → Ov} {dfs : α → List Nat} {hp : α → AHeap} {I : α → Prop} (a : α) (ha : I a) (hs : Ov.sub ov (fr a)) (hd : df = dfs a) (hh : h = hp a) : Go P W q N (.back (Jn fr dfs hp I) :: k) .normal ov df h Q := fun tm hN hr => ⟨fun _ => ⟨a, ha, hr.sub hs, hd, hh⟩, fun e => absurd rfl e⟩
end
end Go.Proofs.YtncbbeghkpjpbaaDoor
namespace Go.Proofs.YtncbbeghkpjpbaaDoor
def YieldRun (P : Program) (W : Nat → Prop) (l : Nat) (args : List Value) (h : AHeap) (c : Bool) (h' : AHeap) : Prop :=
 AFr W h h' ∧ ∀ (o : Oper) (tm : List Value) (f : Operand) (xs : Array Operand) (ts : Array TypeId), o.op = .call ⟨.value f, xs, ts⟩ → evalT tm f = .func (.yield l) #[] #[] → xs.toList.map (evalT tm) = args → OpRun P Ev W o tm h (.bool c) h'
def YieldS (P : Program) (wr : List Nat) (l : Nat) (args : List Value) (h : AHeap) (Q : Bool → AHeap → Prop) : Prop := ∃ c h', YieldRun P (· ∈ wr) l args h c h' ∧ Q c h'
theorem YieldS.mono {P : Program} {wr : List Nat} {l : Nat} {args : List Value} {h : AHeap} {Q Q' : Bool → AHeap → Prop} (k : YieldS P wr l args h Q) (hq : ∀ c h', Q c h' → Q' c h') : YieldS P wr l args h Q' := let ⟨c, h', a, b⟩ := k; ⟨c, h', a, hq _ _ b⟩
theorem YieldS.keeps {P : Program} {wr : List Nat} {l : Nat} {args : List Value} {h : AHeap} {Q : Bool → AHeap → Prop} (k : YieldS P wr l args h Q) : YieldS P wr l args h fun c h' => Keeps wr h h' ∧ Q c h' := let ⟨c, h', a, b⟩ := k; ⟨c, h', a, ⟨a.1.n, fun i hi hn => a.1.get i hi hn⟩, b⟩
def AsQ (P : Program) (W : Nat → Prop) (l : Nat) (bo : Code) (Q : PQ) : PQ := fun x tm df h => x = .normal ∧ ∃ pe' tmL' ps' as' bo' df', h.get l = some (.loop .ready pe' tmL' ps' as' bo' df') ∧ ∃ x' tm' d' h', Run P W true bo ⟨tm, df, h.put l (some (.loop .busy pe' tmL' ps' as' bo' df'))⟩ x' ⟨tm', d', h'⟩ ∧ Q x' tm' d' h'
def BoQ (l : Nat) (Q : Bool → AHeap → Prop) : PQ := fun x tm df h => ∃ jump st₂ pe₂ tm₂ ps₂ as₂ bo₂ df₂, jumpOf x = some jump ∧ h.get l = some (.loop st₂ pe₂ tm₂ ps₂ as₂ bo₂ df₂) ∧ Q jump.isNone (h.put l (some (.loop (if jump.isNone then .ready else .done) jump tm₂ ps₂ as₂ bo₂ df₂)))
theorem Rp.set {ov : Ov} {tm : List Value} {N d : Nat} (hr : Rp ov tm) (hN : tm.length = N) (hd : dOk d N = true) (v : Value) : Rp ((d, v) :: ov) (tm.set d v) := hr.put hN hd v
def setO : Ov → List Tmp → List Value → Ov
 | ov, p :: ps, v :: vs => setO ((p, v) :: ov) ps vs
 | ov, _, _ => ov
theorem setPs_rp {N : Nat} : ∀ (ps : List Tmp) (vs : List Value) (ov : Ov) (tm : List Value), ps.all (dOk · N) = true → tm.length = N → Rp ov tm → Rp (setO ov ps vs) (setPs tm ps vs) ∧ (setPs tm ps vs).length = N
 | [], _, ov, tm, _, hN, hr => by simpa [setO, setPs] using ⟨hr, hN⟩
 | p :: ps, [], ov, tm, _, hN, hr => by simpa [setO, setPs] using ⟨hr, hN⟩
 | p :: ps, v :: vs, ov, tm, hd, hN, hr => by
  simp only [List.all_cons, Bool.and_eq_true] at hd
  have := setPs_rp ps vs ((p, v) :: ov) (tm.set p v) hd.2 (by simpa using hN) (hr.set hN hd.1 v)
  simpa [setO, setPs] using this
section
variable {P : Program} {W : Nat → Prop} {q : Bool} {N : Nat} {k : List It} {ov : Ov} {df : List Nat} {h : AHeap} {Q : PQ} {x : Exit}
theorem YieldS.of {wr : List Nat} {l d : Nat} {pe : Option Code} {tm : List Value} {ps : Array Tmp} {as bo : Code} {args : List Value} {Q : Bool → AHeap → Prop} {ov' : Ov} (hl : h.get l = some (.loop .ready pe tm ps as bo d)) (htm : tm.length = N) (hr : Rp ov tm) (hsz : args.length = ps.size) (hps : ps.toList.all (dOk · N) = true) (ho : setO ov ps.toList args = ov') (hwl : l ∈ wr)
  (g : Go P (fun i => i ∈ wr ∨ h.n ≤ i) true N [.code as] .normal ov' [] h (AsQ P (fun i => i ∈ wr ∨ h.n ≤ i) l bo (BoQ l Q))) : YieldS P wr l args h Q := by
 subst ho
 obtain ⟨r1, n1⟩ := setPs_rp ps.toList args ov tm hps htm hr
 obtain ⟨x, tm₁, df₁, h₁, ra, la, hx, pe', tmL', ps', as', bo', df', hl₁, x', tm₂, df₂, h₂, rb, jump, st₂, pe₂, tm₃, ps₂, as₂, bo₂, df₃, hj, hl₂, hq⟩ := (g _ n1 r1).1 rfl
 subst hx
 have key : ∀ (o : Oper) (tmc : List Value) (f : Operand) (xs : Array Operand) (ts : Array TypeId), o.op = .call ⟨.value f, xs, ts⟩ → evalT tmc f = .func (.yield l) #[] #[] → xs.toList.map (evalT tmc) = args → OpRun P Ev (· ∈ wr) o tmc h (.bool jump.isNone) (h₂.put l (some (.loop (if jump.isNone then .ready else .done) jump tm₃ ps₂ as₂ bo₂ df₃))) := fun o tmc f xs ts ho hf hxs => by
  have ra' : Run P (fun i => i ∈ wr ∨ h.n ≤ i) true as ⟨setPs tm ps.toList (xs.toList.map (evalT tmc)), [], h⟩ .normal ⟨tm₁, df₁, h₁⟩ := by rw [hxs]; exact ra
  have hsz' : xs.size = ps.size := by rw [← hsz, ← hxs]; simp
  have := OpRun.yield ho hf hl hsz' ra' hl₁ rb hl₂ hj (.inl hwl)
  exact this.old.weak fun i ⟨a, b⟩ => a.resolve_right (by omega)
 refine ⟨_, _, ⟨?_, key⟩, hq⟩
 have a1 : AFr (fun i => i ∈ wr ∨ h.n ≤ i) h₁ (h₁.put l (some (.loop .busy pe' tmL' ps' as' bo' df'))) := .putOther _ (.inl hwl) hl₁ rfl
 have a2 : AFr (fun i => i ∈ wr ∨ h.n ≤ i) h₂ (h₂.put l (some (.loop (if jump.isNone then .ready else .done) jump tm₃ ps₂ as₂ bo₂ df₃))) := .putOther _ (.inl hwl) hl₂ rfl
 have af := ra.fr.trans (a1.trans (rb.fr.trans a2))
 exact ⟨af.n, fun i hi hn => af.get i hi fun hw => hw.elim hn (by omega), af.typ, af.alive, af.live, af.roT⟩
theorem Go.body {l : Nat} {bo : Code} {pe' : Option Code} {tmL' : List Value} {ps' : Array Tmp} {as' bo' : Code} {df' : Nat} {Q : PQ} (hl : h.get l = some (.loop .ready pe' tmL' ps' as' bo' df')) (g : Go P W true N [.code bo] .normal ov df (h.put l (some (.loop .busy pe' tmL' ps' as' bo' df'))) Q) : Go P W q N [] .normal ov df h (AsQ P W l bo Q) := fun tm hN hr => by
 obtain ⟨x', tm', d', h', r, _, hq⟩ := (g tm hN hr).1 rfl
 exact ⟨rfl, _, _, _, _, _, _, hl, x', tm', d', h', r, hq⟩
theorem Go.rangeFunc {g : Operand} {ps : Array Tmp} {as bo : Code} {f : FuncId} {first cap : Array Value} {wr : List Nat} (hg : evO ov g = some (.func (.func f) first cap)) (hk : okOpd P g = true) (hc : calls P f = true)
  (K : ∀ tm : List Value, tm.length = N → Rp ov tm → CallS P wr f (first.toList ++ [.func (.yield (h.n + 1)) #[] #[]] ++ cap.toList) ((h.push (.deferred true)).push (.loop .ready none tm ps as bo h.n)) fun v h₂ => Keeps wr ((h.push (.deferred true)).push (.loop .ready none tm ps as bo h.n)) h₂ → (∀ i ∈ wr, W i) ∧ W (h.n + 1) ∧ ∃ st pe tm' ps' as' bo' df' x, h₂.get (h.n + 1) = some (.loop st pe tm' ps' as' bo' df') ∧ (st == .busy) = false ∧ exitOf pe = some x ∧ Go P W false N k x ov (h.n :: df) (h₂.put (h.n + 1) (some (.loop .exhausted pe tm' ps' as' bo' df'))) Q) : Go P W false N (.code (.rangeFunc g ps as bo) :: k) .normal ov df h Q := Go.code fun tm hN hr => by
 obtain ⟨v, h₂, hcr, hq⟩ := K tm hN hr
 obtain ⟨w1, w2, st, pe, tm', ps', as', bo', df', x, e1, e2, e3, e4⟩ := hq ⟨hcr.fr.n, fun i hi hn => hcr.fr.get i hi hn⟩
 obtain ⟨fn, h1, h2, h3⟩ := calls_spec hc
 have e : (first.toList ++ [Value.func (Fn.yield (h.n + 1)) #[] #[]] ++ cap.toList).toArray = first ++ #[Value.func (Fn.yield (h.n + 1)) #[] #[]] ++ cap := by
  apply Array.toList_inj.1
  simp
 rw [e] at hcr
 have run := Run.rangeFunc (s := ⟨tm, df, h⟩) (ps := ps) (assign := as) (body := bo) hk (evO_eq hr hg) h1 h2 h3 (hcr.weak w1) e1 e2 e3 w2
 exact ⟨x, tm, h.n :: df, _, run, rfl, e4 tm hN hr⟩
theorem GoR.yield {ops : Array Oper} {os : List Oper} {o : Oper} {d : Nat} {f : Operand} {xs : Array Operand} {ts : Array TypeId} {l : Nat} {us : List Value} {wr : List Nat} (ho : o.op = .call ⟨.value f, xs, ts⟩) (hd : o.dst = some d) (hN : dOk d N = true) (hgd : o.guard = none) (hf : evO ov f = some (.func (.yield l) #[] #[])) (hx : evOs ov xs.toList = some us)
  (hk : YieldS P wr l us h fun c h' => Keeps wr h h' → (∀ i ∈ wr, W i) ∧ GoR P W q N ops true os k ((d, .bool c) :: ov) df h' Q) : GoR P W q N ops true (o :: os) k ov df h Q := by
 obtain ⟨c, h', hr, hg⟩ := hk
 have kp : Keeps wr h h' := ⟨hr.1.n, fun i hi hn => hr.1.get i hi hn⟩
 refine GoR.step (r := ⟨.bool c, h', [], wr, true, false⟩) hgd hd hN (fun tm hrp => ⟨(fun e => by cases e), fun D W' hall _ hw => ?_⟩) (.inl rfl) (hg kp).1 (hg kp).2
 rw [hall rfl]
 exact (hr.2 o tm f xs ts ho (evO_eq hrp hf) (evOs_eq hrp hx)).weak fun i hi => (hw i hi).2
end
end Go.Proofs.YtncbbeghkpjpbaaDoor
namespace Go.Proofs.YtncbbeghkpjpbaaDoor
theorem ba_append (a b : List UInt8) : (⟨a.toArray⟩ : ByteArray) ++ ⟨b.toArray⟩ = ⟨(a ++ b).toArray⟩ := by
 apply ByteArray.ext
 simp
theorem strAdd_run {P : Program} {o : Oper} {t t₂ : TypeId} {x y : Operand} (ho : o.op = .binOp .add t x y t₂) (a b : List UInt8) (hl : a.length + b.length < 9223372036854775808) (ρ : Operand → Value) (hx : ρ x = .string ⟨a.toArray⟩) (hy : ρ y = .string ⟨b.toArray⟩) : calm P (execOp ρ o) = some (.value (.string ⟨(a ++ b).toArray⟩)) := by
 simp only [execOp, ho, hx, hy]
 have eb : binOp .add t (.string ⟨a.toArray⟩) (.string ⟨b.toArray⟩) = Sem.pure (.string ⟨(a ++ b).toArray⟩) := by
  show Op.stringOp .add _ _ = _
  have h1 : ¬ (((ByteArray.mk a.toArray).size + (ByteArray.mk b.toArray).size : Nat) : Int) > IntKind.i64.max := by
   rw [ba_size, ba_size]
   have : IntKind.i64.max = 9223372036854775807 := rfl
   omega
  simp only [Op.stringOp, if_neg h1, ba_append]; rfl
 have eg : eqGuard .add t x y (.string ⟨a.toArray⟩) (.string ⟨b.toArray⟩) = Sem.pure () := by unfold eqGuard; split <;> rfl
 rw [eg, eb]
 rfl
theorem aIndex_str {P : Program} {t : TypeId} [hu : UN P t .string] {zs : List UInt8} {k : IntKind} {i : Nat} {z : UInt8} (hi : zs[i]? = some z) : aIndex P t (.string ⟨zs.toArray⟩) (.int k (i : Int)) = some (.int .u8 (z.toNat : Nat)) := by
 have hu' : P.underlying t = some .string := hu.h
 simp [aIndex, hu', hi]
theorem aSlice_str {P : Program} {h : AHeap} {t : TypeId} [hu : UN P t .string] {zs : List UInt8} {lo hi : Option Value} {l r : Nat} (h1 : bnd 0 lo = some l) (h2 : bnd zs.length hi = some r) (h3 : l ≤ r) (h4 : r ≤ zs.length) : aSlice P h t lo hi none (.string ⟨zs.toArray⟩) = some (.string ⟨((zs.take r).drop l).toArray⟩) := by
 have hu' : P.underlying t = some .string := hu.h
 simp only [aSlice, hu', ba_size, h1, h2]
 rw [if_pos ⟨h3, h4, trivial⟩]
theorem opRun_extC {P : Program} {D W : Nat → Prop} {o : Oper} {tm : List Value} {h : AHeap} {f : Operand} {xs : Array Operand} {ts : Array TypeId} {g : FuncId} {fn : Func} {e : Array Value → Sem Value} {us : List Value} {v : Value} (ho : o.op = .call { callee := .value f, args := xs, argTypes := ts }) (hf : evalT tm f = .func (.func g) #[] #[])
  (hg : P.funcs[g]? = some fn) (hn : (fn.name == "runtime.NumGoroutine") = false) (hb : fn.body.isNone = true) (hnx : Extern.findNext fn = none) (he : Extern.find fn = some e) (hx : xs.toList.map (evalT tm) = us) (hfl : us.all flatB = true) (hc : calm P (e us.toArray) = some v) (hv : flatB v = true) : OpRun P D W o tm h v h :=
 .ofPure (by simp [ho]) fun m w A hm hxs H => by
  have hfv := hxs f (by simp [ho, Op.operands, Call.operands])
  rw [hf] at hfv
  generalize hy : A.eval f = y at hfv
  have hargs : xs.map A.eval = us.toArray := by
   apply Array.toList_inj.1
   rw [Array.toList_map, ← hx]
   refine List.map_congr_left fun x hxm => ?_
   have := hxs x (by simp [ho, Op.operands, Call.operands, Array.mem_toList_iff.1 hxm])
   exact VRel.eq_of_flat this (List.all_eq_true.1 hfl _ (by rw [← hx]; exact List.mem_map_of_mem hxm))
  cases hfv with
  | @func _ a b a' b' hfn h1 h2 h3 h4 =>
   obtain rfl : a' = #[] := Array.eq_empty_of_size_eq_zero (by simpa using h1.symm)
   obtain rfl : b' = #[] := Array.eq_empty_of_size_eq_zero (by simpa using h2.symm)
   refine ⟨v, VRel.flat m hv, ?_⟩
   have hrun := run_callFunc_extern hg hn hb hnx he us.toArray w
   rw [calm_run hc w] at hrun
   simp [execOp, ho, resolve, hy, Deferred.ofValue, invoke, hargs]
   exact hrun
section
variable {P : Program} {W : Nat → Prop} {q : Bool} {N : Nat} {k : List It} {ov : Ov} {df : List Nat} {h : AHeap} {Q : PQ} {id : Nat} {ops : Array Oper} {os : List Oper} {o : Oper} {d : Nat} {b₀ : Bool} {tr : List (Option LE)}
theorem GoR.strAdd {t t₂ : TypeId} {x y : Operand} {a b : List UInt8} (ho : o.op = .binOp .add t x y t₂) (hd : o.dst = some d) (hN : dOk d N = true) (hgd : o.guard = none) (hx : evO ov x = some (.string ⟨a.toArray⟩)) (hy : evO ov y = some (.string ⟨b.toArray⟩)) (hl : a.length + b.length < 9223372036854775808) (g : GoR P W q N ops b₀ os k ((d, .string ⟨(a ++ b).toArray⟩) :: ov) df h Q) : GoR P W q N ops b₀ (o :: os) k ov df h Q := by
 refine GoR.calm (u := .string ⟨(a ++ b).toArray⟩) (l := [.string ⟨a.toArray⟩, .string ⟨b.toArray⟩]) hd hN hgd (by simp [ho, Op.operands, evOs, hx, hy]) (by simp [ho]) (by simp [ho]) rfl rfl (fun ρ hρ => ?_) g
 simp only [ho, Op.operands, List.map_cons, List.map_nil, List.cons.injEq, and_true] at hρ
 exact strAdd_run ho a b hl ρ hρ.1 hρ.2
theorem GoL.strAdd {t t₂ : TypeId} {x y : Operand} {a b : List UInt8} (ho : o.op = .binOp .add t x y t₂) (hd : o.dst = some d) (hN : dOk d N = true) (hgd : o.guard = none) (hx : evO ov x = some (.string ⟨a.toArray⟩)) (hy : evO ov y = some (.string ⟨b.toArray⟩)) (hl : a.length + b.length < 9223372036854775808) (g : GoL P W q N ops (tr ++ [none]) os k ((d, .string ⟨(a ++ b).toArray⟩) :: ov) df h Q) : GoL P W q N ops tr (o :: os) k ov df h Q := by
 refine GoL.calm (u := .string ⟨(a ++ b).toArray⟩) (l := [.string ⟨a.toArray⟩, .string ⟨b.toArray⟩]) hd hN hgd (by simp [ho, Op.operands, evOs, hx, hy]) (by simp [ho]) (by simp [ho]) rfl rfl (fun ρ hρ => ?_) g
 simp only [ho, Op.operands, List.map_cons, List.map_nil, List.cons.injEq, and_true] at hρ
 exact strAdd_run ho a b hl ρ hρ.1 hρ.2
theorem GoR.strAt {t : TypeId} {x y : Operand} {zs : List UInt8} {kd : IntKind} {i : Nat} {z : UInt8} (ho : o.op = .index t x y) (hd : o.dst = some d) (hN : dOk d N = true) (hgd : o.guard = none) (hx : evO ov x = some (.string ⟨zs.toArray⟩)) (hy : evO ov y = some (.int kd (i : Int))) [hu : UN P t .string] (hi : zs[i]? = some z) (g : GoR P W q N ops b₀ os k ((d, .int .u8 (z.toNat : Nat)) :: ov) df h Q) : GoR P W q N ops b₀ (o :: os) k ov df h Q := GoR.index ho hd hN hgd hx hy (aIndex_str hi) g
theorem GoR.strAtI {t : TypeId} {x y : Operand} {zs : List UInt8} {kd : IntKind} {i : Int} {z : UInt8} (ho : o.op = .index t x y) (hd : o.dst = some d) (hN : dOk d N = true) (hgd : o.guard = none) (hx : evO ov x = some (.string ⟨zs.toArray⟩)) (hy : evO ov y = some (.int kd i)) [hu : UN P t .string] (h0 : 0 ≤ i) (hi : zs[i.toNat]? = some z) (g : GoR P W q N ops b₀ os k ((d, .int .u8 (z.toNat : Nat)) :: ov) df h Q) : GoR P W q N ops b₀ (o :: os) k ov df h Q := GoR.strAt (i := i.toNat) ho hd hN hgd hx (by rw [hy, Int.toNat_of_nonneg h0]) hi g
theorem GoL.strAt {t : TypeId} {x y : Operand} {zs : List UInt8} {kd : IntKind} {i : Nat} {z : UInt8} (ho : o.op = .index t x y) (hd : o.dst = some d) (hN : dOk d N = true) (hgd : o.guard = none) (hx : evO ov x = some (.string ⟨zs.toArray⟩)) (hy : evO ov y = some (.int kd (i : Int))) [hu : UN P t .string] (hi : zs[i]? = some z) (g : GoL P W q N ops (tr ++ [none]) os k ((d, .int .u8 (z.toNat : Nat)) :: ov) df h Q) : GoL P W q N ops tr (o :: os) k ov df h Q := GoL.index ho hd hN hgd hx hy (aIndex_str hi) g
theorem GoR.strLH {t : TypeId} {x lo hi : Operand} {zs : List UInt8} {kd kd' : IntKind} {l r : Nat} (ho : o.op = .slice t x (some lo) (some hi) none) (hd : o.dst = some d) (hN : dOk d N = true) (hgd : o.guard = none) (hx : evO ov x = some (.string ⟨zs.toArray⟩)) (hlo : evO ov lo = some (.int kd (l : Int))) (hhi : evO ov hi = some (.int kd' (r : Int))) [hu : UN P t .string] (h3 : l ≤ r) (h4 : r ≤ zs.length) (g : GoR P W q N ops b₀ os k ((d, .string ⟨((zs.take r).drop l).toArray⟩) :: ov) df h Q) : GoR P W q N ops b₀ (o :: os) k ov df h Q :=
 GoR.slice (lo' := some (.int kd (l : Int))) (hi' := some (.int kd' (r : Int))) (mx' := none) ho hd hN hgd hx (by simp [hlo]) (by simp [hhi]) rfl (aSlice_str (by simp [bnd]) (by simp [bnd]) h3 h4) g
theorem GoR.strLo {t : TypeId} {x lo : Operand} {zs : List UInt8} {kd : IntKind} {l : Nat} (ho : o.op = .slice t x (some lo) none none) (hd : o.dst = some d) (hN : dOk d N = true) (hgd : o.guard = none) (hx : evO ov x = some (.string ⟨zs.toArray⟩)) (hlo : evO ov lo = some (.int kd (l : Int))) [hu : UN P t .string] (h3 : l ≤ zs.length) (g : GoR P W q N ops b₀ os k ((d, .string ⟨(zs.drop l).toArray⟩) :: ov) df h Q) : GoR P W q N ops b₀ (o :: os) k ov df h Q :=
 GoR.slice (lo' := some (.int kd (l : Int))) (hi' := none) (mx' := none) ho hd hN hgd hx (by simp [hlo]) rfl rfl (by have := aSlice_str (P := P) (h := h) (t := t) (zs := zs) (lo := some (.int kd (l : Int))) (hi := none) (l := l) (r := zs.length) (by simp [bnd]) (by simp [bnd]) h3 (Nat.le_refl _); rwa [List.take_length] at this) g
theorem GoR.strHi {t : TypeId} {x hi : Operand} {zs : List UInt8} {kd : IntKind} {r : Nat} (ho : o.op = .slice t x none (some hi) none) (hd : o.dst = some d) (hN : dOk d N = true) (hgd : o.guard = none) (hx : evO ov x = some (.string ⟨zs.toArray⟩)) (hhi : evO ov hi = some (.int kd (r : Int))) [hu : UN P t .string] (h3 : r ≤ zs.length) (g : GoR P W q N ops b₀ os k ((d, .string ⟨(zs.take r).toArray⟩) :: ov) df h Q) : GoR P W q N ops b₀ (o :: os) k ov df h Q :=
 GoR.slice (lo' := none) (hi' := some (.int kd (r : Int))) (mx' := none) ho hd hN hgd hx rfl (by simp [hhi]) rfl (by have := aSlice_str (P := P) (h := h) (t := t) (zs := zs) (lo := none) (hi := some (.int kd (r : Int))) (l := 0) (r := r) (by simp [bnd]) (by simp [bnd]) (Nat.zero_le _) h3; rwa [List.drop_zero] at this) g
theorem goR_extC {f : Operand} {xs : Array Operand} {ts : Array TypeId} {g : FuncId} {fn : Func} {e : Array Value → Sem Value} {us : List Value} {v : Value} (ho : o.op = .call ⟨.value f, xs, ts⟩) (hd : o.dst = some d) (hN : dOk d N = true) (hgd : o.guard = none) (hf : evO ov f = some (.func (.func g) #[] #[])) (hx : evOs ov xs.toList = some us)
  (hg : P.funcs[g]? = some fn) (hn : (fn.name == "runtime.NumGoroutine") = false) (hb : fn.body.isNone = true) (hnx : Extern.findNext fn = none) (he : Extern.find fn = some e) (hfl : us.all flatB = true) (hc : calm P (e us.toArray) = some v) (hv : flatB v = true) (gg : GoR P W q N ops b₀ os k ((d, v) :: ov) df h Q) : GoR P W q N ops b₀ (o :: os) k ov df h Q :=
 GoR.step (r := ⟨v, h, [], [], false, true⟩) hgd hd hN (fun tm hr => .pure fun D W => opRun_extC ho (evO_eq hr hf) hg hn hb hnx he (evOs_eq hr hx) hfl hc hv) (.inr rfl) (fun i hi => by cases hi) gg
theorem GoR.rangeStr {t : TypeId} {x : Operand} {s : ByteArray} (ho : o.op = .range t x) (hd : o.dst = some d) (hN : dOk d N = true) (hgd : o.guard = none) (hx : evO ov x = some (.string s)) [hu : UN P t .string] (g : GoR P W q N ops b₀ os k ((d, .pointer (some ⟨h.n, 0, none⟩)) :: ov) df (h.push (.iter s 0)) Q) : GoR P W q N ops b₀ (o :: os) k ov df h Q :=
 GoR.step (r := ⟨.pointer (some ⟨h.n, 0, none⟩), h.push (.iter s 0), [], [], false, false⟩) hgd hd hN (fun tm hr => .write fun D W hD _ => OpRun.range ho (by have hu' : P.underlying t = some .string := hu.h; rw [evO_eq hr hx]; simp [aRange, hu']) hD) (.inr rfl) (fun i hi => by cases hi) g
theorem GoR.iterN {x : Operand} {i pos : Nat} {s : ByteArray} (ho : o.op = .next x true) (hd : o.dst = some d) (hN : dOk d N = true) (hgd : o.guard = none) (hx : evO ov x = some (.pointer (some ⟨i, 0, none⟩))) (hg : h.get i = some (.iter s pos)) (hw : W i) (hlt : pos < s.size) (g : GoR P W q N ops true os k ((d, .tuple #[.bool true, .int .i64 pos, .int .i32 (Utf8.decode s pos).1]) :: ov) df (h.put i (some (.iter s (pos + (Utf8.decode s pos).2)))) Q) : GoR P W q N ops true (o :: os) k ov df h Q :=
 GoR.step (r := ⟨_, h.put i (some (.iter s (pos + (Utf8.decode s pos).2))), [i], [i], false, false⟩) hgd hd hN (fun tm hr => .write fun D W hD hW => OpRun.iterN ho (by rw [evO_eq hr hx]; simp [aIterN, hg, hlt]) (hD i (by simp)) (hW i (by simp)).2) (.inl rfl) (fun j hj => by simp at hj; subst hj; exact hw) g
theorem GoR.iterE {x : Operand} {i pos : Nat} {s : ByteArray} (ho : o.op = .next x true) (hd : o.dst = some d) (hN : dOk d N = true) (hgd : o.guard = none) (hx : evO ov x = some (.pointer (some ⟨i, 0, none⟩))) (hg : h.get i = some (.iter s pos)) (hw : W i) (hlt : ¬ pos < s.size) (g : GoR P W q N ops true os k ((d, .tuple #[.bool false]) :: ov) df h Q) : GoR P W q N ops true (o :: os) k ov df h Q :=
 GoR.step (r := ⟨.tuple #[.bool false], h, [i], [i], false, false⟩) hgd hd hN (fun tm hr => .write fun D W hD hW => OpRun.iterN ho (by rw [evO_eq hr hx]; simp [aIterN, hg, hlt]) (hD i (by simp)) (hW i (by simp)).2) (.inl rfl) (fun j hj => by simp at hj; subst hj; exact hw) g
end
end Go.Proofs.YtncbbeghkpjpbaaDoor
namespace Go.Proofs.YtncbbeghkpjpbaaDoor
def dch (d : Nat) : UInt8 := UInt8.ofNat (48 + d)
theorem dch_nat {d : Nat} (h : d < 10) : (dch d).toNat = 48 + d := by
 unfold dch
 rw [UInt8.toNat_ofNat', Nat.mod_eq_of_lt (by omega)]
def dg (n : Nat) : List UInt8 := if h : n < 10 then [dch n] else dg (n / 10) ++ [dch (n % 10)]
termination_by n
decreasing_by omega
theorem dg_small {n : Nat} (h : n < 10) : dg n = [dch n] := by rw [dg, dif_pos h]
theorem dg_big {n : Nat} (h : 10 ≤ n) : dg n = dg (n / 10) ++ [dch (n % 10)] := by rw [dg, dif_neg (by omega)]
def dgI (i : Int) : List UInt8 := if i < 0 then 45 :: dg (-i).toNat else dg i.toNat
theorem dgI_nat (n : Nat) : dgI (n : Int) = dg n := by unfold dgI; rw [if_neg (by omega)]; simp
theorem dgI_neg {n : Nat} (h : 0 < n) : dgI (-(n : Int)) = 45 :: dg n := by unfold dgI; rw [if_pos (by omega)]; simp
def pd : Nat → Nat → List UInt8
 | 0, _ => []
 | k + 1, u => pd k (u / 10) ++ [dch (u % 10)]
theorem pd_len : ∀ k u, (pd k u).length = k
 | 0, _ => rfl
 | k + 1, u => by simp [pd, pd_len k]
theorem pd_dg : ∀ k u, (k = 0 ∨ 10 ^ k ≤ u) → u < 10 ^ (k + 1) → pd (k + 1) u = dg u
 | 0, u, _, h => by
  have h : u < 10 := by simpa using h
  rw [dg_small h]
  simp [pd, Nat.mod_eq_of_lt h]
 | k + 1, u, h0, h => by
  have h0 : 10 ^ (k + 1) ≤ u := h0.resolve_left (by omega)
  have e1 : 10 ^ (k + 1) = 10 * 10 ^ k := by rw [Nat.pow_succ, Nat.mul_comm]
  have e2 : 10 ^ (k + 1 + 1) = 10 * (10 * 10 ^ k) := by rw [Nat.pow_succ, e1, Nat.mul_comm]
  have hp : 0 < 10 ^ k := Nat.pow_pos (by decide)
  generalize 10 ^ k = p at *
  rw [e1] at h0
  rw [e2] at h
  rw [dg_big (by omega), ← pd_dg k (u / 10) (.inr (by omega)) (by rw [e1]; omega)]
  rfl
theorem pd_at : ∀ k u j, j < k → (pd k u)[k - 1 - j]? = some (dch (u / 10 ^ j % 10))
 | k + 1, u, 0, _ => by
  simp only [pd]
  rw [List.getElem?_append_right (by rw [pd_len]; omega), pd_len]
  simp
 | k + 1, u, j + 1, h => by
  simp only [pd]
  rw [List.getElem?_append_left (by rw [pd_len]; omega), show k + 1 - 1 - (j + 1) = k - 1 - j from by omega, pd_at k (u / 10) j (by omega), Nat.div_div_eq_div_mul, Nat.pow_succ, Nat.mul_comm 10]
theorem dg_len (k : Nat) : ∀ u, u < 10 ^ (k + 1) → (dg u).length ≤ k + 1 := by
 induction k with
 | zero => intro u h; rw [dg_small (by simpa using h)]; simp
 | succ k ih =>
  intro u h
  rcases Nat.lt_or_ge u 10 with h1 | h1
  · rw [dg_small h1]; simp
  ·
   rw [dg_big h1]
   have := ih (u / 10) (by rw [Nat.pow_succ] at h; omega)
   simp; omega
theorem dg_pos (u : Nat) : 0 < (dg u).length := by
 rw [dg]
 split <;> simp
def smallsL : List UInt8 := [48, 48, 48, 49, 48, 50, 48, 51, 48, 52, 48, 53, 48, 54, 48, 55, 48, 56, 48, 57, 49, 48, 49, 49, 49, 50, 49, 51, 49, 52, 49, 53, 49, 54, 49, 55, 49, 56, 49, 57, 50, 48, 50, 49, 50, 50, 50, 51, 50, 52, 50, 53, 50, 54, 50, 55, 50, 56, 50, 57, 51, 48, 51, 49, 51, 50, 51, 51, 51, 52, 51, 53, 51, 54, 51, 55, 51, 56, 51, 57, 52, 48, 52, 49, 52, 50, 52, 51, 52, 52, 52, 53, 52, 54, 52, 55, 52, 56, 52, 57, 53, 48, 53, 49, 53, 50, 53, 51, 53, 52, 53, 53, 53, 54, 53, 55, 53, 56, 53, 57, 54, 48, 54, 49, 54, 50, 54, 51, 54, 52, 54, 53, 54, 54, 54, 55, 54, 56, 54, 57, 55, 48, 55, 49, 55, 50, 55, 51, 55, 52, 55, 53, 55, 54, 55, 55, 55, 56, 55, 57, 56, 48, 56, 49, 56, 50, 56, 51, 56, 52, 56, 53, 56, 54, 56, 55, 56, 56, 56, 57, 57, 48, 57, 49, 57, 50, 57, 51, 57, 52, 57, 53, 57, 54, 57, 55, 57, 56, 57, 57]
theorem smalls_len : smallsL.length = 200 := by decide +kernel
theorem smalls_all : ((List.range 100).all fun x => decide (smallsL[x * 2]? = some (dch (x / 10))) && decide (smallsL[x * 2 + 1]? = some (dch (x % 10)))) = true := by decide +kernel
theorem smalls_hi {x : Nat} (h : x < 100) : smallsL[x * 2]? = some (dch (x / 10)) := by
 have := List.all_eq_true.1 smalls_all x (List.mem_range.2 h)
 simp only [Bool.and_eq_true, decide_eq_true_eq] at this
 exact this.1
theorem smalls_lo {x : Nat} (h : x < 100) : smallsL[x * 2 + 1]? = some (dch (x % 10)) := by
 have := List.all_eq_true.1 smalls_all x (List.mem_range.2 h)
 simp only [Bool.and_eq_true, decide_eq_true_eq] at this
 exact this.2
theorem dg_two {x : Nat} (h : x < 100) (h1 : 10 ≤ x) : dg x = [dch (x / 10), dch (x % 10)] := by
 rw [dg_big h1, dg_small (by omega)]
 rfl
def digL : List UInt8 := [48, 49, 50, 51, 52, 53, 54, 55, 56, 57, 97, 98, 99, 100, 101, 102, 103, 104, 105, 106, 107, 108, 109, 110, 111, 112, 113, 114, 115, 116, 117, 118, 119, 120, 121, 122]
theorem digL_len : digL.length = 36 := by decide +kernel
theorem digL_all : ((List.range 10).all fun x => decide ((digL.take (x + 1)).drop x = [dch x])) = true := by decide +kernel
theorem digL_at {x : Nat} (h : x < 10) : (digL.take (x + 1)).drop x = [dch x] := of_decide_eq_true (List.all_eq_true.1 digL_all x (List.mem_range.2 h))
theorem smalls2_all : ((List.range 100).all fun x => decide ((smallsL.take (x * 2 + 2)).drop (x * 2) = [dch (x / 10), dch (x % 10)])) = true := by decide +kernel
theorem smalls2_at {x : Nat} (h : x < 100) : (smallsL.take (x * 2 + 2)).drop (x * 2) = [dch (x / 10), dch (x % 10)] := of_decide_eq_true (List.all_eq_true.1 smalls2_all x (List.mem_range.2 h))
def Bl (x b : Nat) : Prop := x < 2 ^ b ∧ (0 < x → 1 ≤ b ∧ 2 ^ (b - 1) ≤ x)
theorem Bl.up {x y s t : Nat} (h : Bl y t) (hy : x / 2 ^ s = y) (h0 : 0 < y) : Bl x (s + t) := by
 obtain ⟨h1, h2⟩ := h
 obtain ⟨h3, h4⟩ := h2 h0
 have hp : 0 < 2 ^ s := Nat.pow_pos (by decide)
 refine ⟨?_, fun _ => ⟨by omega, ?_⟩⟩
 ·
  rw [Nat.pow_add, Nat.mul_comm]
  exact (Nat.div_lt_iff_lt_mul hp).1 (by rw [hy]; exact h1)
 ·
  rw [show s + t - 1 = s + (t - 1) from by omega, Nat.pow_add]
  have := Nat.div_mul_le_self x (2 ^ s)
  rw [hy] at this
  exact Nat.le_trans (by rw [Nat.mul_comm]; exact Nat.mul_le_mul_right _ h4) this
def len8L : List UInt8 := [0, 1, 2, 2, 3, 3, 3, 3, 4, 4, 4, 4, 4, 4, 4, 4, 5, 5, 5, 5, 5, 5, 5, 5, 5, 5, 5, 5, 5, 5, 5, 5, 6, 6, 6, 6, 6, 6, 6, 6, 6, 6, 6, 6, 6, 6, 6, 6, 6, 6, 6, 6, 6, 6, 6, 6, 6, 6, 6, 6, 6, 6, 6, 6, 7, 7, 7, 7, 7, 7, 7, 7, 7, 7, 7, 7, 7, 7, 7, 7, 7, 7, 7, 7, 7, 7, 7, 7, 7, 7, 7, 7, 7, 7, 7, 7, 7, 7, 7, 7, 7, 7, 7, 7, 7, 7, 7, 7, 7, 7, 7, 7, 7, 7, 7, 7, 7, 7, 7, 7, 7, 7, 7, 7, 7, 7, 7, 7, 8, 8, 8, 8, 8, 8, 8, 8, 8, 8, 8, 8, 8, 8, 8, 8, 8, 8, 8, 8, 8, 8, 8, 8, 8, 8, 8, 8, 8, 8, 8, 8, 8, 8, 8, 8, 8, 8, 8, 8, 8, 8, 8, 8, 8, 8, 8, 8, 8, 8, 8, 8, 8, 8, 8, 8, 8, 8, 8, 8, 8, 8, 8, 8, 8, 8, 8, 8, 8, 8, 8, 8, 8, 8, 8, 8, 8, 8, 8, 8, 8, 8, 8, 8, 8, 8, 8, 8, 8, 8, 8, 8, 8, 8, 8, 8, 8, 8, 8, 8, 8, 8, 8, 8, 8, 8, 8, 8, 8, 8, 8, 8, 8, 8, 8, 8, 8, 8, 8, 8, 8, 8, 8, 8, 8, 8, 8, 8]
theorem len8_all : ((List.range 256).all fun y => let t := (len8L.getD y 0).toNat; decide (len8L[y]? = some (UInt8.ofNat t)) && decide (t ≤ 8) && decide (y < 2 ^ t) && (decide (y = 0) || (decide (1 ≤ t) && decide (2 ^ (t - 1) ≤ y)))) = true := by decide +kernel
theorem len8_at {y : Nat} (h : y < 256) : ∃ t, len8L[y]? = some (UInt8.ofNat t) ∧ t ≤ 8 ∧ Bl y t := by
 have := List.all_eq_true.1 len8_all y (List.mem_range.2 h)
 simp only [Bool.and_eq_true, Bool.or_eq_true, decide_eq_true_eq] at this
 obtain ⟨⟨⟨h1, h2⟩, h3⟩, h4⟩ := this
 exact ⟨_, h1, h2, h3, fun h0 => h4.resolve_left (by omega)⟩
theorem bits_all : ((List.range 65).all fun b => decide (b = 0) || (decide (b * 78913 / 262144 ≤ 19) && decide (2 ^ b ≤ 10 ^ (b * 78913 / 262144 + 1)) && (decide (b * 78913 / 262144 = 0) || decide (10 ^ (b * 78913 / 262144 - 1) ≤ 2 ^ (b - 1))))) = true := by decide +kernel
theorem digits_of {x b : Nat} (h0 : 0 < x) (hb : b ≤ 64) (h : Bl x b) : b * 78913 / 262144 ≤ 19 ∧ ∃ k, k ≤ 19 ∧ k + 1 = b * 78913 / 262144 + (decide (10 ^ (b * 78913 / 262144) ≤ x)).toNat ∧ (k = 0 ∨ 10 ^ k ≤ x) ∧ x < 10 ^ (k + 1) := by
 obtain ⟨h1, h2⟩ := h
 obtain ⟨h3, h4⟩ := h2 h0
 have := List.all_eq_true.1 bits_all b (List.mem_range.2 (by omega))
 simp only [Bool.and_eq_true, Bool.or_eq_true, decide_eq_true_eq] at this
 obtain ⟨⟨a1, a2⟩, a3⟩ := this.resolve_left (by omega)
 generalize b * 78913 / 262144 = n at *
 refine ⟨a1, ?_⟩
 by_cases hc : 10 ^ n ≤ x
 · refine ⟨n, a1, by simp [hc], .inr hc, by omega⟩
 ·
  have hn : n ≠ 0 := fun e => by subst e; simp at hc; omega
  obtain ⟨m, rfl⟩ : ∃ m, n = m + 1 := ⟨n - 1, by omega⟩
  refine ⟨m, by omega, by simp [hc], ?_, by omega⟩
  have := a3.resolve_left (by omega)
  rw [Nat.add_sub_cancel] at this
  exact .inr (Nat.le_trans this h4)
end Go.Proofs.YtncbbeghkpjpbaaDoor
namespace Go.Proofs.YtncbbeghkpjpbaaDoor
open Go.ChangeShapes Go.WideShapes Go.ChangeAt Go.RowKit
def FlatRo (G : AHeap) : Prop := ∀ i o, G.get i = some o → ∃ c, o = .ro c ∧ ∀ x ∈ c, flatB x = true
def Holds (G h : AHeap) : Prop := G.n ≤ h.n ∧ ∀ i o, G.get i = some o → h.get i = some o
theorem Holds.refl (G : AHeap) : Holds G G := ⟨Nat.le_refl _, fun _ _ e => e⟩
theorem Holds.same {G h h' : AHeap} (k : Holds G h) (s : Same h h') : Holds G h' := ⟨Nat.le_trans k.1 s.1, fun i o e => s.get (k.2 i o e)⟩
theorem CallS.knownG {P : Program} {G : AHeap} (hfl : FlatRo G) (hs : P.globals.size ≤ G.n) {f : FuncId} {v : Value} {W' : Nat → Prop} {h' : AHeap} (k : CallRun P W' f #[] G v h') (hv : flatB v = true) (h : AHeap) (hG : Holds G h) : CallS P [] f [] h fun u h' => u = v ∧ h' = h := by
 refine ⟨v, h, ⟨.refl _ _, fun m w args' hm hf har hh => ?_⟩, rfl, rfl⟩
 obtain rfl : args' = #[] := Array.eq_empty_of_size_eq_zero (by simpa using har.1.symm)
 have live : ∀ i, ¬ G.live i := fun i ⟨o, e, ho⟩ => by obtain ⟨c, rfl, _⟩ := hfl i o e; cases ho
 obtain ⟨m₁, hm₁⟩ : ∃ m₁ : Mp, m₁ = fun i => if i < G.n then m i else none := ⟨_, rfl⟩
 have e2 : ∀ i l, m₁ i = some l → i < G.n ∧ m i = some l := fun i l e => by
  rw [hm₁] at e
  by_cases q : i < G.n
  · simp [q] at e; exact ⟨q, e⟩
  · simp [q] at e
 have hr := k.run m₁ w #[] (fun g hg => by
  obtain ⟨l, a, b⟩ := hm g hg
  exact ⟨l, by rw [hm₁]; simp [show g < G.n by omega, a], b⟩) (fun i h1 h2 => by rw [hm₁]; exact if_neg (by omega)) ⟨rfl, fun i u u' e => by simp at e⟩ ?_
 ·
  refine hr.mono ?_
  rintro e w' ⟨v', m', rfl, hF, hV, _⟩
  have keep : ∀ b, b < w.heap.size → w'.heap[b]? = w.heap[b]? := fun b hb => hF.keep b hb fun j k hj _ hl => absurd hl (live j)
  refine ⟨v', m, rfl, ⟨fun _ _ => rfl, fun i l a b _ => by omega, fun b hb _ => keep b hb, hF.size, hF.os, hF.tape, hF.output⟩, ?_, ?_⟩
  · rw [VRel.eq_of_flat hV hv]; exact .flat m hv
  ·
   exact {
       lt := fun i l e => Nat.lt_of_lt_of_le (hh.lt i l e) hF.size
       typ := hh.typ
       inj := hh.inj
       roS := hh.roS
       obj := fun i l o hd e g => by
        obtain ⟨o', a, b⟩ := hh.obj i l o hd e g
        exact ⟨o', by rw [keep l.b (hh.lt i l e)]; exact a, b⟩ }
 ·
  refine ⟨fun i l e => hh.lt _ l (e2 i l e).2, fun i l c t e g => ?_, fun i j l k e e' _ hl _ => absurd hl (live j), fun i l c e g => hh.roS _ l c (e2 i l e).2 (hG.2 i _ g), fun i l o _ e g => ?_⟩
  · obtain ⟨c', e', _⟩ := hfl i _ g; cases e'
  ·
   obtain ⟨c, rfl, hc⟩ := hfl i _ g
   obtain ⟨o', a, b⟩ := hh.obj i l _ trivial (e2 i l e).2 (hG.2 i _ g)
   refine ⟨o', a, ?_⟩
   cases b with
   | ro hs hv =>
    refine .ro hs fun j u e => ?_
    obtain ⟨u', x, y⟩ := hv j u e
    have fu := hc u (List.mem_of_getElem? e)
    rw [VRel.eq_of_flat y fu] at x
    exact ⟨u, x, VRel.flat m₁ fu⟩
theorem calls_impG {P : Program} {W : World} {m : Mp} {h : AHeap} (hg : MOk P m) (I : Im P W m h) {f : FuncId} {args : List Value} {args' : Array Value} {v : Value} (hv : flatB v = true) (hc : CallS P [] f args h fun u _ => u = v) (ha : ARel m args.toArray args') : Calls P f args' W fun e w' => e = .returned v ∧ Below W.heap.size W w' := by
 obtain ⟨u, h', hr, rfl⟩ := hc
 have hr := hr.run m W args' hg (fun i hi _ => I.dom i hi) ha I.rel
 refine (callsIn_wide.1 hr).mono ?_
 rintro e w' ⟨v', m', rfl, hF, hV, _⟩
 refine ⟨by rw [VRel.eq_of_flat hV hv], ?_⟩
 exact ⟨hF.os, hF.tape, hF.output, hF.size, fun b hb => hF.keep b hb fun j k _ hj => by simp at hj⟩
end Go.Proofs.YtncbbeghkpjpbaaDoor
namespace Go.Proofs.YtncbbeghkpjpbaaDoor
section
variable {P : Program} {D W : Nat → Prop} {o : Oper} {tm : List Value} {h : AHeap}
theorem liesAt_at {e : TypeId} (hc : P.cellsOf e = 1) (count off n : Nat) (hn : off + n ≤ count) : liesAt P P.depth e count off e n = true := by
 have hd : P.depth = (2 * (P.types.size + Made.depth) + 1) + 1 := rfl
 rw [hd]
 simp only [liesAt, Bool.or_eq_true]
 left
 rw [hd]
 simp [rowAt, hc, hn, sameLayout, Nat.mod_one]
theorem run_unsafeString_at (w : World) (pt it ty e : TypeId) (hp : P.underlying pt = some (.pointer e)) (hc : P.cellsOf e = 1) (g off cells : Nat) (hsh : w.shape? g = some (e, cells)) (l : List UInt8) (h0 : l ≠ []) (hn : off + l.length ≤ cells) (h63 : l.length ≤ 9223372036854775807)
  (hcell : ∀ j x, l[j]? = some x → w.cell? ((⟨g, off, none⟩ : Addr).add j) = some (.int .u8 x.toNat)) :
  (Builtin.unsafeString_ #[pt, it] ty #[.pointer (some ⟨g, off, none⟩), .int .i64 l.length]).run P w = .ok (.string ⟨l.toArray⟩) (w.freeze ⟨g, off, none⟩ l.length) := by
 have hl : l.length ≠ 0 := by simpa using h0
 have hlb := Go.Lib.run_loadBytes (P := P) w l ⟨g, off, none⟩ .empty hcell
 have hlies := liesAt_at (P := P) hc (cells / P.cellsOf e) off l.length (by rw [hc]; simpa using hn)
 have h63' : ¬ (9223372036854775807 : Int) < (l.length : Int) := by omega
 have hdef : Builtin.unsafeString_ #[pt, it] ty #[.pointer (some ⟨g, off, none⟩), .int .i64 l.length] =
   (do
    let n ← asInt (.int .i64 l.length)
    if n < 0 then runtimePanic (.error "unsafe.String: len out of range")
    if n > IntKind.i64.max then unsupported (.unsafePointer "String: a length above the largest int")
    if n = 0 then pure (.string .empty)
    else if ← variablesAt ⟨g, off, none⟩ (← elemOf pt) n.toNat then do
     let s ← loadBytes ⟨g, off, none⟩ .empty n.toNat
     freeze ⟨g, off, none⟩ n.toNat
     pure (.string s)
    else unsupported (.unsafePointer "String: not so many bytes at ptr")) := rfl
 rw [hdef]
 have hmax : IntKind.i64.max = 9223372036854775807 := rfl
 have hneg : ¬ (l.length : Int) < 0 := by omega
 simp [asInt, asIntOf, hmax, h63', hneg, hl, variablesAt, hsh, elemOf, run_underlying hp, hlies, hlb]
theorem AFr.kill {b : Nat} (hW : W b) : AFr W h (h.put b none) where
 n := by simp
 get i hi hn := by rw [h.get_put_ne _ (show b ≠ i from fun e => hn (e ▸ hW))]
 typ i c t hi e := by
  by_cases hb : b = i
  · subst hb; rw [h.get_put_none] at e; cases e
  · rw [h.get_put_ne _ hb] at e; exact ⟨c, e, rfl⟩
 alive i hi e := by
  by_cases hb : b = i
  · subst hb; rw [h.get_put_none] at e; exact absurd rfl e
  · rwa [h.get_put_ne _ hb] at e
 live i hi e := by
  by_cases hb : b = i
  · subst hb; exact absurd (h.get_put_none b) e.ne
  · exact AHeap.live_eq (h.get_put_ne _ hb) e
 roT i c hi e := by
  by_cases hb : b = i
  · subst hb; rw [h.get_put_none] at e; cases e
  · rwa [h.get_put_ne _ hb] at e
theorem HRel.letGo {m : Mp} {w w' : World} (H : HRel P m D h w) {b : Nat} {l : Loc} (hm : m b = some l) (ha : h.live b) (hs : w'.heap.size = w.heap.size) (ho : ∀ j, j ≠ l.b → w'.heap[j]? = w.heap[j]?) : HRel P m D (h.put b none) w' := by
 have K := H.kill b
 refine ⟨fun i k e => by rw [hs]; exact H.lt i k e, K.typ, K.inj, K.roS, fun i k o hd e g => ?_⟩
 have hbi : b ≠ i := fun e' => by subst e'; rw [h.get_put_none] at g; cases g
 rw [h.get_put_ne _ hbi] at g
 obtain ⟨o', a1, a2⟩ := H.obj i k o hd e g
 refine ⟨o', ?_, a2⟩
 rw [ho k.b fun ek => hbi (H.inj i b k l e hm (by rw [g]; simp) ha ek).symm]
 exact a1
theorem freeze_facts (w : World) (a : Addr) (n : Nat) : (w.freeze a n).heap.size = w.heap.size ∧ (∀ j, j ≠ a.block → (w.freeze a n).heap[j]? = w.heap[j]?) ∧ (w.freeze a n).os = w.os ∧ (w.freeze a n).tape = w.tape ∧ (w.freeze a n).output = w.output := by
 unfold World.freeze
 split
 · exact ⟨rfl, fun _ _ => rfl, rfl, rfl, rfl⟩
 ·
  refine ⟨by simp, fun j hj => ?_, rfl, rfl, rfl⟩
  simp only [Array.getElem?_modify]
  rw [if_neg (by omega)]
theorem OpRun.unsafeStr {p x : Operand} {pt it e : TypeId} {b off : Nat} {c : List Value} {zs : List UInt8} (ho : o.op = .call { callee := .builtin .unsafeString, args := #[p, x], argTypes := #[pt, it] }) (hp : P.underlying pt = some (.pointer e)) (hc1 : P.cellsOf e = 1) (hx : evalT tm p = .pointer (some ⟨b, off, none⟩)) (hn : evalT tm x = .int .i64 (zs.length : Nat)) (hg : h.get b = some (.cells c e)) (h0 : 0 < zs.length) (h63 : zs.length < 9223372036854775808) (hof : off + zs.length ≤ c.length) (hz : (c.drop off).take zs.length = zs.map fun z => Value.int .u8 (z.toNat : Nat)) (hD : D b) (hW : W b) : OpRun P D W o tm h (.string ⟨zs.toArray⟩) (h.put b none) := by
 refine .ofSame (by simp [ho]) (.kill hW) fun m w A hm hxs H => ?_
 have h1 := hxs p (by simp [ho, Op.operands, Call.operands])
 have h2 := hxs x (by simp [ho, Op.operands, Call.operands])
 rw [hx] at h1
 rw [hn] at h2
 have h2 := VRel.eq_of_flat h2 rfl
 generalize hy : A.eval p = y at h1
 cases h1 with
 | @ptr _ _ l hl =>
  obtain ⟨c', fz, hb, hsz, hf, hv⟩ := H.cells hD hl hg
  obtain ⟨s1, s2, s3⟩ := hsz
  have hrun := run_unsafeString_at (P := P) w pt it o.type e hp hc1 l.b (off + l.sh) c'.size (by simp [World.shape?, hb]) zs (fun e => by rw [e] at h0; exact absurd h0 (Nat.lt_irrefl 0)) (by omega) (by omega) fun j z hj => by
   have hjl : j < zs.length := (List.getElem?_eq_some_iff.1 hj).1
   have e1 : c[off + j]? = some (.int .u8 (z.toNat : Nat)) := by
    have := congrArg (·[j]?) hz
    simp only [List.getElem?_map, hj, Option.map_some] at this
    rwa [List.getElem?_take_of_lt hjl, List.getElem?_drop] at this
   obtain ⟨v', a1, a2⟩ := hv _ _ e1
   have a2 := VRel.eq_of_flat a2 rfl
   rw [a2] at a1
   have ea : (⟨l.b, off + l.sh, none⟩ : Addr).add j = ⟨l.b, off + j + l.sh, none⟩ := by
    unfold Addr.add
    by_cases hj0 : j = 0
    · subst hj0; simp
    · simp [hj0]; omega
   rw [ea]
   simp [World.cell?, hb, a1]
  obtain ⟨f1, f2, f3, f4, f5⟩ := freeze_facts w ⟨l.b, off + l.sh, none⟩ zs.length
  have ha : h.live b := AHeap.live_of hg rfl
  refine ⟨.string ⟨zs.toArray⟩, w.freeze ⟨l.b, off + l.sh, none⟩ zs.length, ?_, .string _, ⟨fun _ _ => rfl, fun i k a b => by simp at b; omega, fun q hq hk => f2 q fun e => hk b l (AHeap.lt hg) hW ha hl e.symm, by rw [f1]; exact Nat.le_refl _, f3, f4, f5⟩, H.letGo hl ha f1 f2⟩
  rw [exec_builtin ho]
  simp [hy, h2, builtin, hrun]
end
section
variable {P : Program} {W : Nat → Prop} {q : Bool} {N : Nat} {k : List It} {ov : Ov} {df : List Nat} {h : AHeap} {Q : PQ} {id : Nat} {ops : Array Oper} {os : List Oper} {o : Oper} {d : Nat} {b₀ : Bool} {tr : List (Option LE)}
theorem GoL.unsafeStr {p x : Operand} {pt it e : TypeId} {b off : Nat} {c : List Value} {zs : List UInt8} (ho : o.op = .call ⟨.builtin .unsafeString, #[p, x], #[pt, it]⟩) (hdd : o.dst = some d) (hN : dOk d N = true) (hgd : o.guard = none) (hp : P.underlying pt = some (.pointer e)) (hc1 : P.cellsOf e = 1) (hx : evO ov p = some (.pointer (some ⟨b, off, none⟩))) (hn : evO ov x = some (.int .i64 (zs.length : Nat))) (hg : h.get b = some (.cells c e)) (h0 : 0 < zs.length) (h63 : zs.length < 9223372036854775808) (hof : off + zs.length ≤ c.length) (hz : (c.drop off).take zs.length = zs.map bv) (hW : W b) (g : GoL P W q N ops (tr ++ [some ⟨h.n, h.n, [b], [b], false, false⟩]) os k ((d, .string ⟨zs.toArray⟩) :: ov) df (h.put b none) Q) : GoL P W q N ops tr (o :: os) k ov df h Q :=
 GoL.step (r := ⟨.string ⟨zs.toArray⟩, h.put b none, [b], [b], false, false⟩) (some ⟨h.n, h.n, [b], [b], false, false⟩) ⟨rfl, rfl, rfl, rfl, rfl, rfl⟩ hgd hdd hN (fun tm hr => .write fun D W hD hW => OpRun.unsafeStr ho hp hc1 (evO_eq hr hx) (evO_eq hr hn) hg h0 h63 hof hz (hD b (by simp)) (hW b (by simp)).2) (fun i hi => by simp at hi; subst hi; exact hW) g
end
end Go.Proofs.YtncbbeghkpjpbaaDoor
namespace Go.Proofs.YtncbbeghkpjpbaaDoor
section
variable {P : Program} {W : Nat → Prop} {q : Bool} {N : Nat} {k : List It} {ov : Ov} {df : List Nat} {h : AHeap} {Q : PQ} {ops : Array Oper} {os : List Oper} {o : Oper} {d : Nat} {b₀ : Bool} {tr : List (Option LE)}
theorem S.minI {x y : Operand} {ts : Array TypeId} {kd : IntKind} {i j : Int} (ho : o.op = .call ⟨.builtin .min, #[x, y], ts⟩) (hx : evO ov x = some (.int kd i)) (hy : evO ov y = some (.int kd j)) : ∀ tm, Rp ov tm → OpOk P o tm h (pureO h (.int kd (if j < i then j else i))) := fun tm hr =>
 OpOk.flat (by simp [ho]) rfl fun m w A hA => by
  have h1 := hA x (by simp [ho, Op.operands, Call.operands])
  have h2 := hA y (by simp [ho, Op.operands, Call.operands])
  rw [evO_eq hr hx] at h1
  rw [evO_eq hr hy] at h2
  have e1 := VRel.eq_of_flat h1 rfl
  have e2 := VRel.eq_of_flat h2 rfl
  rw [exec_builtin ho]
  simp [builtin, Builtin.min_, Builtin.min2, e1, e2]
theorem GoR.minI {x y : Operand} {ts : Array TypeId} {kd : IntKind} {i j : Int} (ho : o.op = .call ⟨.builtin .min, #[x, y], ts⟩) (hd : o.dst = some d) (hN : dOk d N = true) (hgd : o.guard = none) (hx : evO ov x = some (.int kd i)) (hy : evO ov y = some (.int kd j)) (g : GoR P W q N ops b₀ os k ((d, .int kd (if j < i then j else i)) :: ov) df h Q) : GoR P W q N ops b₀ (o :: os) k ov df h Q :=
 GoR.step (r := pureO h _) hgd hd hN (S.minI ho hx hy) (.inr rfl) (fun i hi => by cases hi) g
theorem S.boolNe {t t₂ : TypeId} {x y : Operand} {a b : Bool} (ho : o.op = .binOp .neq t x y t₂) (hx : evO ov x = some (.bool a)) (hy : evO ov y = some (.bool b)) (hu : P.underlying t = some .bool) : ∀ tm, Rp ov tm → OpOk P o tm h (pureO h (.bool (!(a == b)))) := fun tm hr =>
 OpOk.flat (by simp [ho]) rfl fun m w A hA => by
  have h1 := hA x (by simp [ho, Op.operands])
  have h2 := hA y (by simp [ho, Op.operands])
  rw [evO_eq hr hx] at h1
  rw [evO_eq hr hy] at h2
  have e1 := VRel.eq_of_flat h1 rfl
  have e2 := VRel.eq_of_flat h2 rfl
  simp [execOp, ho, e1, e2, eqGuard, binOp, run_equal_bool w t a b hu]
theorem GoR.boolNe {t t₂ : TypeId} {x y : Operand} {a b : Bool} (ho : o.op = .binOp .neq t x y t₂) (hd : o.dst = some d) (hN : dOk d N = true) (hgd : o.guard = none) (hx : evO ov x = some (.bool a)) (hy : evO ov y = some (.bool b)) (hu : P.underlying t = some .bool) (g : GoR P W q N ops b₀ os k ((d, .bool (!(a == b))) :: ov) df h Q) : GoR P W q N ops b₀ (o :: os) k ov df h Q :=
 GoR.step (r := pureO h _) hgd hd hN (S.boolNe ho hx hy hu) (.inr rfl) (fun i hi => by cases hi) g
end
end Go.Proofs.YtncbbeghkpjpbaaDoor