/- What the law leans on, part 5. No conditions. -/
import Derived.Maps.RangeRun
import Derived.Laws.Externs
import Derived.Lib.Overlaps
import Derived.SizedLaws
import Derived.Laws.Small
import Derived.Test.YtfdglljlenkkbaaFlightOutPart4
set_option linter.unusedVariables false
set_option linter.unusedSimpArgs false
namespace Go.Proofs.Ytfdglljlenkkbaa
theorem Rv.pushPut {P : Program} {h : AHeap} {sz len cap : Nat} {a : Option Addr} {cs : List Value} (k : Rv P h sz a len cap cs) (A : AObj) (B : Option AObj) : Rv P ((h.push A).put h.n B) sz a len cap cs := k.same (((Same.refl h).push A).put (Nat.le_refl _) B)
section
variable {P : Program} {W : Nat → Prop} {q : Bool} {N : Nat} {k : List It} {ov : Ov} {df : List Nat} {h : AHeap} {Q : PQ} {id : Nat} {ops : Array Oper} {os : List Oper} {o : Oper} {d : Nat} {b₀ : Bool} {tr : List (Option LE)}
theorem GoR.wanted' {j t : Nat} {w B : Bool} {oj : Oper} (hg : o.guard = some (j, w)) (hj : ops[j]? = some oj) (hdj : oj.dst = some t) (hv : ov.find t = some (.bool B)) (hB : B = w := by first | with_reducible rfl | with_reducible assumption | (with_reducible refine @decide_eq_true _ _ ?_; first | with_reducible rfl | omega) | (with_reducible refine @decide_eq_false _ _ ?_; omega) | with_reducible exact Bool.not_false | with_reducible exact Bool.not_true | (simp; fail_if_success focus skip) | (simp; omega)) (g : GoR P W q N ops b₀ ({ o with guard := none } :: os) k ov df h Q) : GoR P W q N ops b₀ (o :: os) k ov df h Q := GoR.wanted hg hj hdj hv hB g
theorem GoL.wanted' {j t : Nat} {w B : Bool} {oj : Oper} (hg : o.guard = some (j, w)) (hj : ops[j]? = some oj) (hdj : oj.dst = some t) (hv : ov.find t = some (.bool B)) (hB : B = w := by first | with_reducible rfl | with_reducible assumption | (with_reducible refine @decide_eq_true _ _ ?_; first | with_reducible rfl | omega) | (with_reducible refine @decide_eq_false _ _ ?_; omega) | with_reducible exact Bool.not_false | with_reducible exact Bool.not_true | (simp; fail_if_success focus skip) | (simp; omega)) (g : GoL P W q N ops tr ({ o with guard := none } :: os) k ov df h Q) : GoL P W q N ops tr (o :: os) k ov df h Q := GoL.wanted hg hj hdj hv hB g
theorem GoR.unwanted' {b : Bool} {j t : Nat} {w B : Bool} {oj : Oper} (hg : o.guard = some (j, w)) (hj : ops[j]? = some oj) (hdj : oj.dst = some t) (hv : ov.find t = some (.bool B)) (hB : B = !w := by first | with_reducible rfl | with_reducible assumption | (with_reducible refine @decide_eq_true _ _ ?_; first | with_reducible rfl | omega) | (with_reducible refine @decide_eq_false _ _ ?_; omega) | with_reducible exact Bool.not_false | with_reducible exact Bool.not_true | (simp; fail_if_success focus skip) | (simp; omega)) (hd : o.dst = some d) (hN : dOk d N = true) (g : GoR P W q N ops b os k ((d, undef) :: ov) df h Q) : GoR P W q N ops b (o :: os) k ov df h Q := GoR.unwanted hg hj hdj hv hB hd hN g
theorem GoL.unwanted' {tr : List (Option LE)} {j t : Nat} {w B : Bool} {oj : Oper} (hg : o.guard = some (j, w)) (hj : ops[j]? = some oj) (hdj : oj.dst = some t) (hv : ov.find t = some (.bool B)) (hB : B = !w := by first | with_reducible rfl | with_reducible assumption | (with_reducible refine @decide_eq_true _ _ ?_; first | with_reducible rfl | omega) | (with_reducible refine @decide_eq_false _ _ ?_; omega) | with_reducible exact Bool.not_false | with_reducible exact Bool.not_true | (simp; fail_if_success focus skip) | (simp; omega)) (hd : o.dst = some d) (hN : dOk d N = true) (g : GoL P W q N ops (tr ++ [none]) os k ((d, undef) :: ov) df h Q) : GoL P W q N ops tr (o :: os) k ov df h Q := GoL.unwanted hg hj hdj hv hB hd hN g
theorem GoR.pickE' {c x y : Operand} {B : Bool} {u v : Value} (ho : o.op = .pick c x y) (hd : o.dst = some d) (hN : dOk d N = true) (hgd : o.guard = none) (hc : evO ov c = some (.bool B)) (hB : B = true := by first | with_reducible rfl | with_reducible assumption | (with_reducible refine @decide_eq_true _ _ ?_; first | with_reducible rfl | omega) | (with_reducible refine @decide_eq_false _ _ ?_; omega) | with_reducible exact Bool.not_false | with_reducible exact Bool.not_true | (simp; fail_if_success focus skip) | (simp; omega)) (hx : evO ov x = some u) (hy : evO ov y = some v) (g : GoR P W q N ops b₀ os k ((d, u) :: ov) df h Q) : GoR P W q N ops b₀ (o :: os) k ov df h Q := GoR.pickE ho hd hN hgd hc hB hx hy g
theorem GoL.pickE' {c x y : Operand} {B : Bool} {u v : Value} (ho : o.op = .pick c x y) (hd : o.dst = some d) (hN : dOk d N = true) (hgd : o.guard = none) (hc : evO ov c = some (.bool B)) (hB : B = true := by first | with_reducible rfl | with_reducible assumption | (with_reducible refine @decide_eq_true _ _ ?_; first | with_reducible rfl | omega) | (with_reducible refine @decide_eq_false _ _ ?_; omega) | with_reducible exact Bool.not_false | with_reducible exact Bool.not_true | (simp; fail_if_success focus skip) | (simp; omega)) (hx : evO ov x = some u) (hy : evO ov y = some v) (g : GoL P W q N ops (tr ++ [none]) os k ((d, u) :: ov) df h Q) : GoL P W q N ops tr (o :: os) k ov df h Q := GoL.pickE ho hd hN hgd hc hB hx hy g
theorem GoR.pickN' {c x y : Operand} {B : Bool} {u v : Value} (ho : o.op = .pick c x y) (hd : o.dst = some d) (hN : dOk d N = true) (hgd : o.guard = none) (hc : evO ov c = some (.bool B)) (hB : B = false := by first | with_reducible rfl | with_reducible assumption | (with_reducible refine @decide_eq_true _ _ ?_; first | with_reducible rfl | omega) | (with_reducible refine @decide_eq_false _ _ ?_; omega) | with_reducible exact Bool.not_false | with_reducible exact Bool.not_true | (simp; fail_if_success focus skip) | (simp; omega)) (hx : evO ov x = some u) (hy : evO ov y = some v) (g : GoR P W q N ops b₀ os k ((d, v) :: ov) df h Q) : GoR P W q N ops b₀ (o :: os) k ov df h Q := GoR.pickN ho hd hN hgd hc hB hx hy g
theorem GoL.pickN' {c x y : Operand} {B : Bool} {u v : Value} (ho : o.op = .pick c x y) (hd : o.dst = some d) (hN : dOk d N = true) (hgd : o.guard = none) (hc : evO ov c = some (.bool B)) (hB : B = false := by first | with_reducible rfl | with_reducible assumption | (with_reducible refine @decide_eq_true _ _ ?_; first | with_reducible rfl | omega) | (with_reducible refine @decide_eq_false _ _ ?_; omega) | with_reducible exact Bool.not_false | with_reducible exact Bool.not_true | (simp; fail_if_success focus skip) | (simp; omega)) (hx : evO ov x = some u) (hy : evO ov y = some v) (g : GoL P W q N ops (tr ++ [none]) os k ((d, v) :: ov) df h Q) : GoL P W q N ops tr (o :: os) k ov df h Q := GoL.pickN ho hd hN hgd hc hB hx hy g
theorem GoR.load' {t ct : TypeId} {x : Operand} {b off : Nat} {c : List Value} {v : Value} (ho : o.op = .load t x) (hd : o.dst = some d) (hN : dOk d N = true) (hgd : o.guard = none) (hx : evO ov x = some (.pointer (some ⟨b, off, none⟩))) [hc : CT P t none] (hg : h.get b = some (.cells c ct) := by (first | assumption | exact AHeap.get_push_same _ _ | ((repeat first | exact AHeap.get_push_same _ _ | assumption | refine get_push_lt ?_ | exact AHeap.get_put_same _ (by first | omega | (simp only [AHeap.n_push, AHeap.n_put]; omega)) _ | exact get_put_self (by assumption) | apply get_put_self | refine get_put_other (by first | omega | (simp only [AHeap.n_push, AHeap.n_put]; omega)) ?_ | refine Same.get (by assumption) ?_ | refine Keeps.get (by assumption) ?_ (fun hi => by have hx := Own.out (by assumption) hi; omega)) ; fail_if_success focus skip) | fail)) (hv : c[off]? = some v := by (first | rfl | assumption | (simp only [List.getElem?_cons_zero, List.getElem?_cons_succ, Int.toNat_natCast, Nat.mul_one, Nat.add_zero, Nat.zero_add]; first | rfl | assumption))) (g : GoR P W q N ops b₀ os k ((d, v) :: ov) df h Q) : GoR P W q N ops b₀ (o :: os) k ov df h Q := GoR.load ho hd hN hgd hx hg hv g
theorem GoL.load' {t ct : TypeId} {x : Operand} {b off : Nat} {c : List Value} {v : Value} (ho : o.op = .load t x) (hd : o.dst = some d) (hN : dOk d N = true) (hgd : o.guard = none) (hx : evO ov x = some (.pointer (some ⟨b, off, none⟩))) [hc : CT P t none] (hg : h.get b = some (.cells c ct) := by (first | assumption | exact AHeap.get_push_same _ _ | ((repeat first | exact AHeap.get_push_same _ _ | assumption | refine get_push_lt ?_ | exact AHeap.get_put_same _ (by first | omega | (simp only [AHeap.n_push, AHeap.n_put]; omega)) _ | exact get_put_self (by assumption) | apply get_put_self | refine get_put_other (by first | omega | (simp only [AHeap.n_push, AHeap.n_put]; omega)) ?_ | refine Same.get (by assumption) ?_ | refine Keeps.get (by assumption) ?_ (fun hi => by have hx := Own.out (by assumption) hi; omega)) ; fail_if_success focus skip) | fail)) (hv : c[off]? = some v := by (first | rfl | assumption | (simp only [List.getElem?_cons_zero, List.getElem?_cons_succ, Int.toNat_natCast, Nat.mul_one, Nat.add_zero, Nat.zero_add]; first | rfl | assumption))) (g : GoL P W q N ops (tr ++ [(some ⟨h.n, h.n, [b], [], false, true⟩)]) os k ((d, v) :: ov) df h Q) : GoL P W q N ops tr (o :: os) k ov df h Q := GoL.load ho hd hN hgd hx hg hv g
theorem GoR.loadA' {t ct : TypeId} {x : Operand} {b off n : Nat} {c l : List Value} (ho : o.op = .load t x) (hd : o.dst = some d) (hN : dOk d N = true) (hgd : o.guard = none) (hx : evO ov x = some (.pointer (some ⟨b, off, none⟩))) [hc : CT P t (some n)] (hg : h.get b = some (.cells c ct) := by (first | assumption | exact AHeap.get_push_same _ _ | ((repeat first | exact AHeap.get_push_same _ _ | assumption | refine get_push_lt ?_ | exact AHeap.get_put_same _ (by first | omega | (simp only [AHeap.n_push, AHeap.n_put]; omega)) _ | exact get_put_self (by assumption) | apply get_put_self | refine get_put_other (by first | omega | (simp only [AHeap.n_push, AHeap.n_put]; omega)) ?_ | refine Same.get (by assumption) ?_ | refine Keeps.get (by assumption) ?_ (fun hi => by have hx := Own.out (by assumption) hi; omega)) ; fail_if_success focus skip) | fail)) (hv : cutL off n c = some l) (g : GoR P W q N ops b₀ os k ((d, .agg l.toArray) :: ov) df h Q) : GoR P W q N ops b₀ (o :: os) k ov df h Q := GoR.loadA ho hd hN hgd hx hg hv g
theorem GoL.loadA' {t ct : TypeId} {x : Operand} {b off n : Nat} {c l : List Value} (ho : o.op = .load t x) (hd : o.dst = some d) (hN : dOk d N = true) (hgd : o.guard = none) (hx : evO ov x = some (.pointer (some ⟨b, off, none⟩))) [hc : CT P t (some n)] (hg : h.get b = some (.cells c ct) := by (first | assumption | exact AHeap.get_push_same _ _ | ((repeat first | exact AHeap.get_push_same _ _ | assumption | refine get_push_lt ?_ | exact AHeap.get_put_same _ (by first | omega | (simp only [AHeap.n_push, AHeap.n_put]; omega)) _ | exact get_put_self (by assumption) | apply get_put_self | refine get_put_other (by first | omega | (simp only [AHeap.n_push, AHeap.n_put]; omega)) ?_ | refine Same.get (by assumption) ?_ | refine Keeps.get (by assumption) ?_ (fun hi => by have hx := Own.out (by assumption) hi; omega)) ; fail_if_success focus skip) | fail)) (hv : cutL off n c = some l) (g : GoL P W q N ops (tr ++ [some ⟨h.n, h.n, [b], [], false, true⟩]) os k ((d, .agg l.toArray) :: ov) df h Q) : GoL P W q N ops tr (o :: os) k ov df h Q := GoL.loadA ho hd hN hgd hx hg hv g
theorem GoR.loadV' {t : TypeId} {x : Operand} {kv : Nat} {v : Value} {sz : Nat} {a : Option Addr} {len cap : Nat} {cs : List Value} (ho : o.op = .load t x) (hd : o.dst = some d) (hN : dOk d N = true) (hgd : o.guard = none) (hx : evO ov x = some (ptA a kv)) [hc : CT P t none] (hS : Rv P h sz a len cap cs := by first | assumption | exact Rv.pushPut (by assumption) _ _ | exact Rv.pushPut (Sv.rv (by assumption)) _ _ | exact Rv.same (h := h) (by assumption) (by assumption) | exact Sv.rv (by assumption) | ((repeat first | assumption | refine Rv.pushPut ?_ _ _ | refine Rv.push ?_ _ | refine Rv.same ?_ (by assumption) | exact Sv.rv (by assumption)) ; fail_if_success focus skip) | fail) (hv : cs[kv]? = some v := by (first | rfl | assumption | (simp only [List.getElem?_cons_zero, List.getElem?_cons_succ, Int.toNat_natCast, Nat.mul_one, Nat.add_zero, Nat.zero_add]; first | rfl | assumption))) (g : GoR P W q N ops b₀ os k ((d, v) :: ov) df h Q) : GoR P W q N ops b₀ (o :: os) k ov df h Q := GoR.loadV ho hd hN hgd hx hS hv g
theorem GoL.loadV' {t : TypeId} {x : Operand} {kv : Nat} {v : Value} {sz : Nat} {a : Option Addr} {len cap : Nat} {cs : List Value} (ho : o.op = .load t x) (hd : o.dst = some d) (hN : dOk d N = true) (hgd : o.guard = none) (hx : evO ov x = some (ptA a kv)) [hc : CT P t none] (hS : Rv P h sz a len cap cs := by first | assumption | exact Rv.pushPut (by assumption) _ _ | exact Rv.pushPut (Sv.rv (by assumption)) _ _ | exact Rv.same (h := h) (by assumption) (by assumption) | exact Sv.rv (by assumption) | ((repeat first | assumption | refine Rv.pushPut ?_ _ _ | refine Rv.push ?_ _ | refine Rv.same ?_ (by assumption) | exact Sv.rv (by assumption)) ; fail_if_success focus skip) | fail) (hv : cs[kv]? = some v := by (first | rfl | assumption | (simp only [List.getElem?_cons_zero, List.getElem?_cons_succ, Int.toNat_natCast, Nat.mul_one, Nat.add_zero, Nat.zero_add]; first | rfl | assumption))) (g : GoL P W q N ops (tr ++ [(some ⟨h.n, h.n, (blk a), [], false, true⟩)]) os k ((d, v) :: ov) df h Q) : GoL P W q N ops tr (o :: os) k ov df h Q := GoL.loadV ho hd hN hgd hx hS hv g
theorem GoR.fieldV' {s : TypeId} {f kk kv : Nat} {x : Operand} {sz : Nat} {a : Option Addr} {len cap : Nat} {cs : List Value} (ho : o.op = .fieldAddr s x f) (hd : o.dst = some d) (hN : dOk d N = true) (hgd : o.guard = none) (hx : evO ov x = some (ptA a kv)) [hf : FO P s f kk] (hS : Rv P h sz a len cap cs := by first | assumption | exact Rv.pushPut (by assumption) _ _ | exact Rv.pushPut (Sv.rv (by assumption)) _ _ | exact Rv.same (h := h) (by assumption) (by assumption) | exact Sv.rv (by assumption) | ((repeat first | assumption | refine Rv.pushPut ?_ _ _ | refine Rv.push ?_ _ | refine Rv.same ?_ (by assumption) | exact Sv.rv (by assumption)) ; fail_if_success focus skip) | fail) (hl : kv < cs.length := by assumption) (g : GoR P W q N ops b₀ os k ((d, (ptA a (kv + kk))) :: ov) df h Q) : GoR P W q N ops b₀ (o :: os) k ov df h Q := GoR.fieldV ho hd hN hgd hx hS hl g
theorem GoL.fieldV' {s : TypeId} {f kk kv : Nat} {x : Operand} {sz : Nat} {a : Option Addr} {len cap : Nat} {cs : List Value} (ho : o.op = .fieldAddr s x f) (hd : o.dst = some d) (hN : dOk d N = true) (hgd : o.guard = none) (hx : evO ov x = some (ptA a kv)) [hf : FO P s f kk] (hS : Rv P h sz a len cap cs := by first | assumption | exact Rv.pushPut (by assumption) _ _ | exact Rv.pushPut (Sv.rv (by assumption)) _ _ | exact Rv.same (h := h) (by assumption) (by assumption) | exact Sv.rv (by assumption) | ((repeat first | assumption | refine Rv.pushPut ?_ _ _ | refine Rv.push ?_ _ | refine Rv.same ?_ (by assumption) | exact Sv.rv (by assumption)) ; fail_if_success focus skip) | fail) (hl : kv < cs.length := by assumption) (g : GoL P W q N ops (tr ++ [none]) os k ((d, (ptA a (kv + kk))) :: ov) df h Q) : GoL P W q N ops tr (o :: os) k ov df h Q := GoL.fieldV ho hd hN hgd hx hS hl g
theorem GoR.loadVN' {t : TypeId} {x : Operand} {kv n : Nat} {l : List Value} {sz : Nat} {a : Option Addr} {len cap : Nat} {cs : List Value} (ho : o.op = .load t x) (hd : o.dst = some d) (hN : dOk d N = true) (hgd : o.guard = none) (hx : evO ov x = some (ptA a kv)) [hc : CT P t (some n)] (hS : Rv P h sz a len cap cs := by first | assumption | exact Rv.pushPut (by assumption) _ _ | exact Rv.pushPut (Sv.rv (by assumption)) _ _ | exact Rv.same (h := h) (by assumption) (by assumption) | exact Sv.rv (by assumption) | ((repeat first | assumption | refine Rv.pushPut ?_ _ _ | refine Rv.push ?_ _ | refine Rv.same ?_ (by assumption) | exact Sv.rv (by assumption)) ; fail_if_success focus skip) | fail) (hl : kv + n ≤ cs.length := by assumption) (hn : 0 < n := by decide) (hv : (cs.drop kv).take n = l := by assumption) (g : GoR P W q N ops b₀ os k ((d, (.agg l.toArray)) :: ov) df h Q) : GoR P W q N ops b₀ (o :: os) k ov df h Q := GoR.loadVN ho hd hN hgd hx hS hl hn hv g
theorem GoL.loadVN' {t : TypeId} {x : Operand} {kv n : Nat} {l : List Value} {sz : Nat} {a : Option Addr} {len cap : Nat} {cs : List Value} (ho : o.op = .load t x) (hd : o.dst = some d) (hN : dOk d N = true) (hgd : o.guard = none) (hx : evO ov x = some (ptA a kv)) [hc : CT P t (some n)] (hS : Rv P h sz a len cap cs := by first | assumption | exact Rv.pushPut (by assumption) _ _ | exact Rv.pushPut (Sv.rv (by assumption)) _ _ | exact Rv.same (h := h) (by assumption) (by assumption) | exact Sv.rv (by assumption) | ((repeat first | assumption | refine Rv.pushPut ?_ _ _ | refine Rv.push ?_ _ | refine Rv.same ?_ (by assumption) | exact Sv.rv (by assumption)) ; fail_if_success focus skip) | fail) (hl : kv + n ≤ cs.length := by assumption) (hn : 0 < n := by decide) (hv : (cs.drop kv).take n = l := by assumption) (g : GoL P W q N ops (tr ++ [(some ⟨h.n, h.n, (blk a), [], false, true⟩)]) os k ((d, (.agg l.toArray)) :: ov) df h Q) : GoL P W q N ops tr (o :: os) k ov df h Q := GoL.loadVN ho hd hN hgd hx hS hl hn hv g
theorem GoR.indexN' {t : TypeId} {x y : Operand} {kk : IntKind} {i : Nat} {a : Option Addr} {len cap : Nat} {cs : List Value} (ho : o.op = .indexAddr t x y) (hd : o.dst = some d) (hN : dOk d N = true) (hgd : o.guard = none) (hx : evO ov x = some (.slice a len cap)) (hy : evO ov y = some (.int kk (i : Int))) [he : EL P t (none, 1)] (hS : Rv P h 1 a len cap cs := by first | assumption | exact Rv.pushPut (by assumption) _ _ | exact Rv.pushPut (Sv.rv (by assumption)) _ _ | exact Rv.same (h := h) (by assumption) (by assumption) | exact Sv.rv (by assumption) | ((repeat first | assumption | refine Rv.pushPut ?_ _ _ | refine Rv.push ?_ _ | refine Rv.same ?_ (by assumption) | exact Sv.rv (by assumption)) ; fail_if_success focus skip) | fail) (h1 : i < len := by first | omega | (simp only [Int.toNat_natCast] at *; omega)) (g : GoR P W q N ops b₀ os k ((d, ptA a i) :: ov) df h Q) : GoR P W q N ops b₀ (o :: os) k ov df h Q := GoR.indexN ho hd hN hgd hx hy hS h1 g
theorem GoL.indexN' {t : TypeId} {x y : Operand} {kk : IntKind} {i : Nat} {a : Option Addr} {len cap : Nat} {cs : List Value} (ho : o.op = .indexAddr t x y) (hd : o.dst = some d) (hN : dOk d N = true) (hgd : o.guard = none) (hx : evO ov x = some (.slice a len cap)) (hy : evO ov y = some (.int kk (i : Int))) [he : EL P t (none, 1)] (hS : Rv P h 1 a len cap cs := by first | assumption | exact Rv.pushPut (by assumption) _ _ | exact Rv.pushPut (Sv.rv (by assumption)) _ _ | exact Rv.same (h := h) (by assumption) (by assumption) | exact Sv.rv (by assumption) | ((repeat first | assumption | refine Rv.pushPut ?_ _ _ | refine Rv.push ?_ _ | refine Rv.same ?_ (by assumption) | exact Sv.rv (by assumption)) ; fail_if_success focus skip) | fail) (h1 : i < len := by first | omega | (simp only [Int.toNat_natCast] at *; omega)) (g : GoL P W q N ops (tr ++ [none]) os k ((d, ptA a i) :: ov) df h Q) : GoL P W q N ops tr (o :: os) k ov df h Q := GoL.indexN ho hd hN hgd hx hy hS h1 g
theorem GoR.indexNs' {t : TypeId} {x y : Operand} {kk : IntKind} {i : Nat} {sz : Nat} {a : Option Addr} {len cap : Nat} {cs : List Value} (ho : o.op = .indexAddr t x y) (hd : o.dst = some d) (hN : dOk d N = true) (hgd : o.guard = none) (hx : evO ov x = some (.slice a len cap)) (hy : evO ov y = some (.int kk (i : Int))) [he : EL P t (none, sz)] (hS : Rv P h sz a len cap cs := by first | assumption | exact Rv.pushPut (by assumption) _ _ | exact Rv.pushPut (Sv.rv (by assumption)) _ _ | exact Rv.same (h := h) (by assumption) (by assumption) | exact Sv.rv (by assumption) | ((repeat first | assumption | refine Rv.pushPut ?_ _ _ | refine Rv.push ?_ _ | refine Rv.same ?_ (by assumption) | exact Sv.rv (by assumption)) ; fail_if_success focus skip) | fail) (h1 : i < len := by first | omega | (simp only [Int.toNat_natCast] at *; omega)) (g : GoR P W q N ops b₀ os k ((d, ptA a (i * sz)) :: ov) df h Q) : GoR P W q N ops b₀ (o :: os) k ov df h Q := GoR.indexNs ho hd hN hgd hx hy hS h1 g
theorem GoL.indexNs' {t : TypeId} {x y : Operand} {kk : IntKind} {i : Nat} {sz : Nat} {a : Option Addr} {len cap : Nat} {cs : List Value} (ho : o.op = .indexAddr t x y) (hd : o.dst = some d) (hN : dOk d N = true) (hgd : o.guard = none) (hx : evO ov x = some (.slice a len cap)) (hy : evO ov y = some (.int kk (i : Int))) [he : EL P t (none, sz)] (hS : Rv P h sz a len cap cs := by first | assumption | exact Rv.pushPut (by assumption) _ _ | exact Rv.pushPut (Sv.rv (by assumption)) _ _ | exact Rv.same (h := h) (by assumption) (by assumption) | exact Sv.rv (by assumption) | ((repeat first | assumption | refine Rv.pushPut ?_ _ _ | refine Rv.push ?_ _ | refine Rv.same ?_ (by assumption) | exact Sv.rv (by assumption)) ; fail_if_success focus skip) | fail) (h1 : i < len := by first | omega | (simp only [Int.toNat_natCast] at *; omega)) (g : GoL P W q N ops (tr ++ [none]) os k ((d, ptA a (i * sz)) :: ov) df h Q) : GoL P W q N ops tr (o :: os) k ov df h Q := GoL.indexNs ho hd hN hgd hx hy hS h1 g
theorem GoR.indexV' {t : TypeId} {x y : Operand} {kk : IntKind} {i : Int} {sz : Nat} {a : Option Addr} {len cap : Nat} {cs : List Value} (ho : o.op = .indexAddr t x y) (hd : o.dst = some d) (hN : dOk d N = true) (hgd : o.guard = none) (hx : evO ov x = some (.slice a len cap)) (hy : evO ov y = some (.int kk i)) [he : EL P t (none, sz)] (hS : Rv P h sz a len cap cs := by first | assumption | exact Rv.pushPut (by assumption) _ _ | exact Rv.pushPut (Sv.rv (by assumption)) _ _ | exact Rv.same (h := h) (by assumption) (by assumption) | exact Sv.rv (by assumption) | ((repeat first | assumption | refine Rv.pushPut ?_ _ _ | refine Rv.push ?_ _ | refine Rv.same ?_ (by assumption) | exact Sv.rv (by assumption)) ; fail_if_success focus skip) | fail) (h0 : 0 ≤ i := by first | omega | (simp only [Int.toNat_natCast] at *; omega)) (h1 : i < (len : Int) := by first | omega | (simp only [Int.toNat_natCast] at *; omega)) (g : GoR P W q N ops b₀ os k ((d, (ptA a (i.toNat * sz))) :: ov) df h Q) : GoR P W q N ops b₀ (o :: os) k ov df h Q := GoR.indexV ho hd hN hgd hx hy hS h0 h1 g
theorem GoL.indexV' {t : TypeId} {x y : Operand} {kk : IntKind} {i : Int} {sz : Nat} {a : Option Addr} {len cap : Nat} {cs : List Value} (ho : o.op = .indexAddr t x y) (hd : o.dst = some d) (hN : dOk d N = true) (hgd : o.guard = none) (hx : evO ov x = some (.slice a len cap)) (hy : evO ov y = some (.int kk i)) [he : EL P t (none, sz)] (hS : Rv P h sz a len cap cs := by first | assumption | exact Rv.pushPut (by assumption) _ _ | exact Rv.pushPut (Sv.rv (by assumption)) _ _ | exact Rv.same (h := h) (by assumption) (by assumption) | exact Sv.rv (by assumption) | ((repeat first | assumption | refine Rv.pushPut ?_ _ _ | refine Rv.push ?_ _ | refine Rv.same ?_ (by assumption) | exact Sv.rv (by assumption)) ; fail_if_success focus skip) | fail) (h0 : 0 ≤ i := by first | omega | (simp only [Int.toNat_natCast] at *; omega)) (h1 : i < (len : Int) := by first | omega | (simp only [Int.toNat_natCast] at *; omega)) (g : GoL P W q N ops (tr ++ [none]) os k ((d, (ptA a (i.toNat * sz))) :: ov) df h Q) : GoL P W q N ops tr (o :: os) k ov df h Q := GoL.indexV ho hd hN hgd hx hy hS h0 h1 g
theorem GoR.indexA' {t : TypeId} {n len : Nat} {x y : Operand} {b off : Nat} {kk : IntKind} {i : Int} (ho : o.op = .indexAddr t x y) (hd : o.dst = some d) (hN : dOk d N = true) (hgd : o.guard = none) (hx : evO ov x = some (.pointer (some ⟨b, off, none⟩))) (hy : evO ov y = some (.int kk i)) [he : EL P t (some len, n)] (h0 : 0 ≤ i := by first | omega | (simp only [Int.toNat_natCast] at *; omega)) (h1 : i < (len : Int) := by first | omega | (simp only [Int.toNat_natCast] at *; omega)) (g : GoR P W q N ops b₀ os k ((d, (.pointer (some ⟨b, off + i.toNat * n, none⟩))) :: ov) df h Q) : GoR P W q N ops b₀ (o :: os) k ov df h Q := GoR.indexA ho hd hN hgd hx hy h0 h1 g
theorem GoL.indexA' {t : TypeId} {n len : Nat} {x y : Operand} {b off : Nat} {kk : IntKind} {i : Int} (ho : o.op = .indexAddr t x y) (hd : o.dst = some d) (hN : dOk d N = true) (hgd : o.guard = none) (hx : evO ov x = some (.pointer (some ⟨b, off, none⟩))) (hy : evO ov y = some (.int kk i)) [he : EL P t (some len, n)] (h0 : 0 ≤ i := by first | omega | (simp only [Int.toNat_natCast] at *; omega)) (h1 : i < (len : Int) := by first | omega | (simp only [Int.toNat_natCast] at *; omega)) (g : GoL P W q N ops (tr ++ [none]) os k ((d, (.pointer (some ⟨b, off + i.toNat * n, none⟩))) :: ov) df h Q) : GoL P W q N ops tr (o :: os) k ov df h Q := GoL.indexA ho hd hN hgd hx hy h0 h1 g
theorem GoR.addN' {t t₂ : TypeId} {x y : Operand} {i j : Nat} (ho : o.op = .binOp .add t x y t₂) (hd : o.dst = some d) (hN : dOk d N = true) (hgd : o.guard = none) (hx : evO ov x = some (.int .i64 (i : Int))) (hy : evO ov y = some (.int .i64 (j : Int))) (h1 : i + j ≤ 9223372036854775807 := by first | omega | (simp only [Int.toNat_natCast] at *; omega)) (g : GoR P W q N ops b₀ os k ((d, .int .i64 ((i + j : Nat) : Int)) :: ov) df h Q) : GoR P W q N ops b₀ (o :: os) k ov df h Q := GoR.addN ho hd hN hgd hx hy h1 g
theorem GoL.addN' {t t₂ : TypeId} {x y : Operand} {i j : Nat} (ho : o.op = .binOp .add t x y t₂) (hd : o.dst = some d) (hN : dOk d N = true) (hgd : o.guard = none) (hx : evO ov x = some (.int .i64 (i : Int))) (hy : evO ov y = some (.int .i64 (j : Int))) (h1 : i + j ≤ 9223372036854775807 := by first | omega | (simp only [Int.toNat_natCast] at *; omega)) (g : GoL P W q N ops (tr ++ [none]) os k ((d, .int .i64 ((i + j : Nat) : Int)) :: ov) df h Q) : GoL P W q N ops tr (o :: os) k ov df h Q := GoL.addN ho hd hN hgd hx hy h1 g
theorem GoR.subN' {t t₂ : TypeId} {x y : Operand} {i j : Nat} (ho : o.op = .binOp .sub t x y t₂) (hd : o.dst = some d) (hN : dOk d N = true) (hgd : o.guard = none) (hx : evO ov x = some (.int .i64 (i : Int))) (hy : evO ov y = some (.int .i64 (j : Int))) (h1 : j ≤ i := by first | omega | (simp only [Int.toNat_natCast] at *; omega)) (h2 : i ≤ 9223372036854775807 := by first | omega | (simp only [Int.toNat_natCast] at *; omega)) (g : GoR P W q N ops b₀ os k ((d, .int .i64 ((i - j : Nat) : Int)) :: ov) df h Q) : GoR P W q N ops b₀ (o :: os) k ov df h Q := GoR.subN ho hd hN hgd hx hy h1 h2 g
theorem GoL.subN' {t t₂ : TypeId} {x y : Operand} {i j : Nat} (ho : o.op = .binOp .sub t x y t₂) (hd : o.dst = some d) (hN : dOk d N = true) (hgd : o.guard = none) (hx : evO ov x = some (.int .i64 (i : Int))) (hy : evO ov y = some (.int .i64 (j : Int))) (h1 : j ≤ i := by first | omega | (simp only [Int.toNat_natCast] at *; omega)) (h2 : i ≤ 9223372036854775807 := by first | omega | (simp only [Int.toNat_natCast] at *; omega)) (g : GoL P W q N ops (tr ++ [none]) os k ((d, .int .i64 ((i - j : Nat) : Int)) :: ov) df h Q) : GoL P W q N ops tr (o :: os) k ov df h Q := GoL.subN ho hd hN hgd hx hy h1 h2 g
theorem GoR.add' {t t₂ : TypeId} {x y : Operand} {i j : Int} (ho : o.op = .binOp .add t x y t₂) (hd : o.dst = some d) (hN : dOk d N = true) (hgd : o.guard = none) (hx : evO ov x = some (.int .i64 i)) (hy : evO ov y = some (.int .i64 j)) (h0 : -9223372036854775808 ≤ i + j := by first | omega | (simp only [Int.toNat_natCast] at *; omega)) (h1 : i + j ≤ 9223372036854775807 := by first | omega | (simp only [Int.toNat_natCast] at *; omega)) (g : GoR P W q N ops b₀ os k ((d, .int .i64 (i + j)) :: ov) df h Q) : GoR P W q N ops b₀ (o :: os) k (ov) df h Q := GoR.add ho hd hN hgd hx hy h0 h1 g
theorem GoL.add' {t t₂ : TypeId} {x y : Operand} {i j : Int} (ho : o.op = .binOp .add t x y t₂) (hd : o.dst = some d) (hN : dOk d N = true) (hgd : o.guard = none) (hx : evO ov x = some (.int .i64 i)) (hy : evO ov y = some (.int .i64 j)) (h0 : -9223372036854775808 ≤ i + j := by first | omega | (simp only [Int.toNat_natCast] at *; omega)) (h1 : i + j ≤ 9223372036854775807 := by first | omega | (simp only [Int.toNat_natCast] at *; omega)) (g : GoL P W q N ops (tr ++ [none]) os k ((d, .int .i64 (i + j)) :: ov) df h Q) : GoL P W q N ops tr (o :: os) k (ov) df h Q := GoL.add ho hd hN hgd hx hy h0 h1 g
theorem GoR.sub' {t t₂ : TypeId} {x y : Operand} {i j : Int} (ho : o.op = .binOp .sub t x y t₂) (hd : o.dst = some d) (hN : dOk d N = true) (hgd : o.guard = none) (hx : evO ov x = some (.int .i64 i)) (hy : evO ov y = some (.int .i64 j)) (h0 : -9223372036854775808 ≤ i - j := by first | omega | (simp only [Int.toNat_natCast] at *; omega)) (h1 : i - j ≤ 9223372036854775807 := by first | omega | (simp only [Int.toNat_natCast] at *; omega)) (g : GoR P W q N ops b₀ os k ((d, .int .i64 (i - j)) :: ov) df h Q) : GoR P W q N ops b₀ (o :: os) k (ov) df h Q := GoR.sub ho hd hN hgd hx hy h0 h1 g
theorem GoL.sub' {t t₂ : TypeId} {x y : Operand} {i j : Int} (ho : o.op = .binOp .sub t x y t₂) (hd : o.dst = some d) (hN : dOk d N = true) (hgd : o.guard = none) (hx : evO ov x = some (.int .i64 i)) (hy : evO ov y = some (.int .i64 j)) (h0 : -9223372036854775808 ≤ i - j := by first | omega | (simp only [Int.toNat_natCast] at *; omega)) (h1 : i - j ≤ 9223372036854775807 := by first | omega | (simp only [Int.toNat_natCast] at *; omega)) (g : GoL P W q N ops (tr ++ [none]) os k ((d, .int .i64 (i - j)) :: ov) df h Q) : GoL P W q N ops tr (o :: os) k (ov) df h Q := GoL.sub ho hd hN hgd hx hy h0 h1 g
theorem GoR.addM' {t t₂ : TypeId} {x y : Operand} {kd : IntKind} {i j : Nat} (ho : o.op = .binOp .add t x y t₂) (hd : o.dst = some d) (hN : dOk d N = true) (hgd : o.guard = none) (hx : evO ov x = some (.int kd (i : Int))) (hy : evO ov y = some (.int kd (j : Int))) (h1 : i + j < 2 ^ (kd.bits - if kd.signed then 1 else 0) := by first | (simp [IntKind.bits, IntKind.signed]; fail_if_success focus skip) | (simp [IntKind.bits, IntKind.signed]; omega)) (g : GoR P W q N ops b₀ os k ((d, .int kd ((i + j : Nat) : Int)) :: ov) df h Q) : GoR P W q N ops b₀ (o :: os) k ov df h Q := GoR.addM ho hd hN hgd hx hy h1 g
theorem GoL.addM' {t t₂ : TypeId} {x y : Operand} {kd : IntKind} {i j : Nat} (ho : o.op = .binOp .add t x y t₂) (hd : o.dst = some d) (hN : dOk d N = true) (hgd : o.guard = none) (hx : evO ov x = some (.int kd (i : Int))) (hy : evO ov y = some (.int kd (j : Int))) (h1 : i + j < 2 ^ (kd.bits - if kd.signed then 1 else 0) := by first | (simp [IntKind.bits, IntKind.signed]; fail_if_success focus skip) | (simp [IntKind.bits, IntKind.signed]; omega)) (g : GoL P W q N ops (tr ++ [none]) os k ((d, .int kd ((i + j : Nat) : Int)) :: ov) df h Q) : GoL P W q N ops tr (o :: os) k ov df h Q := GoL.addM ho hd hN hgd hx hy h1 g
theorem GoR.subM' {t t₂ : TypeId} {x y : Operand} {kd : IntKind} {i j : Nat} (ho : o.op = .binOp .sub t x y t₂) (hd : o.dst = some d) (hN : dOk d N = true) (hgd : o.guard = none) (hx : evO ov x = some (.int kd (i : Int))) (hy : evO ov y = some (.int kd (j : Int))) (h0 : j ≤ i := by first | omega | (simp only [Int.toNat_natCast] at *; omega)) (h1 : i < 2 ^ (kd.bits - if kd.signed then 1 else 0) := by first | (simp [IntKind.bits, IntKind.signed]; fail_if_success focus skip) | (simp [IntKind.bits, IntKind.signed]; omega)) (g : GoR P W q N ops b₀ os k ((d, .int kd ((i - j : Nat) : Int)) :: ov) df h Q) : GoR P W q N ops b₀ (o :: os) k ov df h Q := GoR.subM ho hd hN hgd hx hy h0 h1 g
theorem GoL.subM' {t t₂ : TypeId} {x y : Operand} {kd : IntKind} {i j : Nat} (ho : o.op = .binOp .sub t x y t₂) (hd : o.dst = some d) (hN : dOk d N = true) (hgd : o.guard = none) (hx : evO ov x = some (.int kd (i : Int))) (hy : evO ov y = some (.int kd (j : Int))) (h0 : j ≤ i := by first | omega | (simp only [Int.toNat_natCast] at *; omega)) (h1 : i < 2 ^ (kd.bits - if kd.signed then 1 else 0) := by first | (simp [IntKind.bits, IntKind.signed]; fail_if_success focus skip) | (simp [IntKind.bits, IntKind.signed]; omega)) (g : GoL P W q N ops (tr ++ [none]) os k ((d, .int kd ((i - j : Nat) : Int)) :: ov) df h Q) : GoL P W q N ops tr (o :: os) k ov df h Q := GoL.subM ho hd hN hgd hx hy h0 h1 g
theorem GoR.mulM' {t t₂ : TypeId} {x y : Operand} {kd : IntKind} {i j : Nat} (ho : o.op = .binOp .mul t x y t₂) (hd : o.dst = some d) (hN : dOk d N = true) (hgd : o.guard = none) (hx : evO ov x = some (.int kd (i : Int))) (hy : evO ov y = some (.int kd (j : Int))) (h1 : i * j < 2 ^ (kd.bits - if kd.signed then 1 else 0) := by first | (simp [IntKind.bits, IntKind.signed]; fail_if_success focus skip) | (simp [IntKind.bits, IntKind.signed]; omega)) (g : GoR P W q N ops b₀ os k ((d, .int kd ((i * j : Nat) : Int)) :: ov) df h Q) : GoR P W q N ops b₀ (o :: os) k ov df h Q := GoR.mulM ho hd hN hgd hx hy h1 g
theorem GoL.mulM' {t t₂ : TypeId} {x y : Operand} {kd : IntKind} {i j : Nat} (ho : o.op = .binOp .mul t x y t₂) (hd : o.dst = some d) (hN : dOk d N = true) (hgd : o.guard = none) (hx : evO ov x = some (.int kd (i : Int))) (hy : evO ov y = some (.int kd (j : Int))) (h1 : i * j < 2 ^ (kd.bits - if kd.signed then 1 else 0) := by first | (simp [IntKind.bits, IntKind.signed]; fail_if_success focus skip) | (simp [IntKind.bits, IntKind.signed]; omega)) (g : GoL P W q N ops (tr ++ [none]) os k ((d, .int kd ((i * j : Nat) : Int)) :: ov) df h Q) : GoL P W q N ops tr (o :: os) k ov df h Q := GoL.mulM ho hd hN hgd hx hy h1 g
theorem GoR.shlN' {t t₂ : TypeId} {x y : Operand} {kd kd' : IntKind} {i j : Nat} (ho : o.op = .binOp .shl t x y t₂) (hd : o.dst = some d) (hN : dOk d N = true) (hgd : o.guard = none) (hx : evO ov x = some (.int kd (i : Int))) (hy : evO ov y = some (.int kd' (j : Int))) (h1 : Nat.ble j kd.bits = true) (h2 : i * 2 ^ j < 2 ^ (kd.bits - if kd.signed then 1 else 0) := by first | (simp [IntKind.bits, IntKind.signed]; fail_if_success focus skip) | (simp [IntKind.bits, IntKind.signed]; omega)) (g : GoR P W q N ops b₀ os k ((d, .int kd ((i * 2 ^ j : Nat) : Int)) :: ov) df h Q) : GoR P W q N ops b₀ (o :: os) k ov df h Q := GoR.shlN ho hd hN hgd hx hy h1 h2 g
theorem GoL.shlN' {t t₂ : TypeId} {x y : Operand} {kd kd' : IntKind} {i j : Nat} (ho : o.op = .binOp .shl t x y t₂) (hd : o.dst = some d) (hN : dOk d N = true) (hgd : o.guard = none) (hx : evO ov x = some (.int kd (i : Int))) (hy : evO ov y = some (.int kd' (j : Int))) (h1 : Nat.ble j kd.bits = true) (h2 : i * 2 ^ j < 2 ^ (kd.bits - if kd.signed then 1 else 0) := by first | (simp [IntKind.bits, IntKind.signed]; fail_if_success focus skip) | (simp [IntKind.bits, IntKind.signed]; omega)) (g : GoL P W q N ops (tr ++ [none]) os k ((d, .int kd ((i * 2 ^ j : Nat) : Int)) :: ov) df h Q) : GoL P W q N ops tr (o :: os) k ov df h Q := GoL.shlN ho hd hN hgd hx hy h1 h2 g
theorem GoR.orN' {t t₂ : TypeId} {x y : Operand} {kd : IntKind} {i j : Nat} (ho : o.op = .binOp .or t x y t₂) (hd : o.dst = some d) (hN : dOk d N = true) (hgd : o.guard = none) (hx : evO ov x = some (.int kd (i : Int))) (hy : evO ov y = some (.int kd (j : Int))) (h1 : i < 2 ^ (kd.bits - if kd.signed then 1 else 0) := by first | (simp [IntKind.bits, IntKind.signed]; fail_if_success focus skip) | (simp [IntKind.bits, IntKind.signed]; omega)) (h2 : j < 2 ^ (kd.bits - if kd.signed then 1 else 0) := by first | (simp [IntKind.bits, IntKind.signed]; fail_if_success focus skip) | (simp [IntKind.bits, IntKind.signed]; omega)) (g : GoR P W q N ops b₀ os k ((d, .int kd ((i ||| j : Nat) : Int)) :: ov) df h Q) : GoR P W q N ops b₀ (o :: os) k ov df h Q := GoR.orN ho hd hN hgd hx hy h1 h2 g
theorem GoL.orN' {t t₂ : TypeId} {x y : Operand} {kd : IntKind} {i j : Nat} (ho : o.op = .binOp .or t x y t₂) (hd : o.dst = some d) (hN : dOk d N = true) (hgd : o.guard = none) (hx : evO ov x = some (.int kd (i : Int))) (hy : evO ov y = some (.int kd (j : Int))) (h1 : i < 2 ^ (kd.bits - if kd.signed then 1 else 0) := by first | (simp [IntKind.bits, IntKind.signed]; fail_if_success focus skip) | (simp [IntKind.bits, IntKind.signed]; omega)) (h2 : j < 2 ^ (kd.bits - if kd.signed then 1 else 0) := by first | (simp [IntKind.bits, IntKind.signed]; fail_if_success focus skip) | (simp [IntKind.bits, IntKind.signed]; omega)) (g : GoL P W q N ops (tr ++ [none]) os k ((d, .int kd ((i ||| j : Nat) : Int)) :: ov) df h Q) : GoL P W q N ops tr (o :: os) k ov df h Q := GoL.orN ho hd hN hgd hx hy h1 h2 g
theorem GoR.remN' {t t₂ : TypeId} {x y : Operand} {kd : IntKind} {i j : Nat} (ho : o.op = .binOp .rem t x y t₂) (hd : o.dst = some d) (hN : dOk d N = true) (hgd : o.guard = none) (hx : evO ov x = some (.int kd (i : Int))) (hy : evO ov y = some (.int kd (j : Int))) (h1 : 0 < j := by first | omega | (simp only [Int.toNat_natCast] at *; omega)) (g : GoR P W q N ops b₀ os k ((d, .int kd ((i % j : Nat) : Int)) :: ov) df h Q) : GoR P W q N ops b₀ (o :: os) k ov df h Q := GoR.remN ho hd hN hgd hx hy h1 g
theorem GoL.remN' {t t₂ : TypeId} {x y : Operand} {kd : IntKind} {i j : Nat} (ho : o.op = .binOp .rem t x y t₂) (hd : o.dst = some d) (hN : dOk d N = true) (hgd : o.guard = none) (hx : evO ov x = some (.int kd (i : Int))) (hy : evO ov y = some (.int kd (j : Int))) (h1 : 0 < j := by first | omega | (simp only [Int.toNat_natCast] at *; omega)) (g : GoL P W q N ops (tr ++ [none]) os k ((d, .int kd ((i % j : Nat) : Int)) :: ov) df h Q) : GoL P W q N ops tr (o :: os) k ov df h Q := GoL.remN ho hd hN hgd hx hy h1 g
theorem GoR.quoN' {t t₂ : TypeId} {x y : Operand} {kd : IntKind} {i j : Nat} (ho : o.op = .binOp .quo t x y t₂) (hd : o.dst = some d) (hN : dOk d N = true) (hgd : o.guard = none) (hx : evO ov x = some (.int kd (i : Int))) (hy : evO ov y = some (.int kd (j : Int))) (h1 : 0 < j := by first | omega | (simp only [Int.toNat_natCast] at *; omega)) (h2 : i < 2 ^ (kd.bits - if kd.signed then 1 else 0) := by first | (simp [IntKind.bits, IntKind.signed]; fail_if_success focus skip) | (simp [IntKind.bits, IntKind.signed]; omega)) (g : GoR P W q N ops b₀ os k ((d, .int kd ((i / j : Nat) : Int)) :: ov) df h Q) : GoR P W q N ops b₀ (o :: os) k ov df h Q := GoR.quoN ho hd hN hgd hx hy h1 h2 g
theorem GoL.quoN' {t t₂ : TypeId} {x y : Operand} {kd : IntKind} {i j : Nat} (ho : o.op = .binOp .quo t x y t₂) (hd : o.dst = some d) (hN : dOk d N = true) (hgd : o.guard = none) (hx : evO ov x = some (.int kd (i : Int))) (hy : evO ov y = some (.int kd (j : Int))) (h1 : 0 < j := by first | omega | (simp only [Int.toNat_natCast] at *; omega)) (h2 : i < 2 ^ (kd.bits - if kd.signed then 1 else 0) := by first | (simp [IntKind.bits, IntKind.signed]; fail_if_success focus skip) | (simp [IntKind.bits, IntKind.signed]; omega)) (g : GoL P W q N ops (tr ++ [none]) os k ((d, .int kd ((i / j : Nat) : Int)) :: ov) df h Q) : GoL P W q N ops tr (o :: os) k ov df h Q := GoL.quoN ho hd hN hgd hx hy h1 h2 g
theorem GoR.convW' {t t₂ : TypeId} {x : Operand} {kd kd' : IntKind} {i : Nat} (ho : o.op = .convert t t₂ x) (hd : o.dst = some d) (hN : dOk d N = true) (hgd : o.guard = none) (hx : evO ov x = some (.int kd' (i : Int))) [hc : IC P t t₂ kd] (hs : i < 2 ^ (kd.bits - if kd.signed then 1 else 0) := by first | (simp [IntKind.bits, IntKind.signed]; omega) | omega) (g : GoR P W q N ops b₀ os k ((d, .int kd (i : Int)) :: ov) df h Q) : GoR P W q N ops b₀ (o :: os) k ov df h Q := GoR.convW ho hd hN hgd hx hs g
theorem GoL.convW' {t t₂ : TypeId} {x : Operand} {kd kd' : IntKind} {i : Nat} (ho : o.op = .convert t t₂ x) (hd : o.dst = some d) (hN : dOk d N = true) (hgd : o.guard = none) (hx : evO ov x = some (.int kd' (i : Int))) [hc : IC P t t₂ kd] (hs : i < 2 ^ (kd.bits - if kd.signed then 1 else 0) := by first | (simp [IntKind.bits, IntKind.signed]; omega) | omega) (g : GoL P W q N ops (tr ++ [none]) os k ((d, .int kd (i : Int)) :: ov) df h Q) : GoL P W q N ops tr (o :: os) k ov df h Q := GoL.convW ho hd hN hgd hx hs g
theorem GoR.strV' {t t₂ : TypeId} {x : Operand} {a : Option Addr} {len cap : Nat} {zs : List UInt8} (ho : o.op = .convert t t₂ x) (hd : o.dst = some d) (hN : dOk d N = true) (hgd : o.guard = none) (hx : evO ov x = some (.slice a len cap)) [hB : BY P t t₂] (hS : Rv P h 1 a len cap (zs.map bv) := by first | assumption | exact Rv.pushPut (by assumption) _ _ | exact Rv.pushPut (Sv.rv (by assumption)) _ _ | exact Rv.same (h := h) (by assumption) (by assumption) | exact Sv.rv (by assumption) | ((repeat first | assumption | refine Rv.pushPut ?_ _ _ | refine Rv.push ?_ _ | refine Rv.same ?_ (by assumption) | exact Sv.rv (by assumption)) ; fail_if_success focus skip) | fail) (g : GoR P W q N ops b₀ os k ((d, .string ⟨zs.toArray⟩) :: ov) df h Q) : GoR P W q N ops b₀ (o :: os) k ov df h Q := GoR.strV ho hd hN hgd hx hS g
theorem GoL.strV' {t t₂ : TypeId} {x : Operand} {a : Option Addr} {len cap : Nat} {zs : List UInt8} (ho : o.op = .convert t t₂ x) (hd : o.dst = some d) (hN : dOk d N = true) (hgd : o.guard = none) (hx : evO ov x = some (.slice a len cap)) [hB : BY P t t₂] (hS : Rv P h 1 a len cap (zs.map bv) := by first | assumption | exact Rv.pushPut (by assumption) _ _ | exact Rv.pushPut (Sv.rv (by assumption)) _ _ | exact Rv.same (h := h) (by assumption) (by assumption) | exact Sv.rv (by assumption) | ((repeat first | assumption | refine Rv.pushPut ?_ _ _ | refine Rv.push ?_ _ | refine Rv.same ?_ (by assumption) | exact Sv.rv (by assumption)) ; fail_if_success focus skip) | fail) (g : ∀ rd, (∀ i ∈ rd, i ∈ blk a) → GoL P W q N ops (tr ++ [some ⟨h.n, h.n, rd, [], false, true⟩]) os k ((d, .string ⟨zs.toArray⟩) :: ov) df h Q) : GoL P W q N ops tr (o :: os) k ov df h Q := GoL.strV ho hd hN hgd hx hS g
theorem GoR.store' {t ct : TypeId} {x y : Operand} {b off n : Nat} {c l c' : List Value} {v : Value} (ho : o.op = .store t x y) (hd : o.dst = none) (hgd : o.guard = none) (hx : evO ov x = some (.pointer (some ⟨b, off, none⟩))) (hy : evO ov y = some v) [hs : SZ P t n] (hg : h.get b = some (.cells c ct) := by (first | assumption | exact AHeap.get_push_same _ _ | ((repeat first | exact AHeap.get_push_same _ _ | assumption | refine get_push_lt ?_ | exact AHeap.get_put_same _ (by first | omega | (simp only [AHeap.n_push, AHeap.n_put]; omega)) _ | exact get_put_self (by assumption) | apply get_put_self | refine get_put_other (by first | omega | (simp only [AHeap.n_push, AHeap.n_put]; omega)) ?_ | refine Same.get (by assumption) ?_ | refine Keeps.get (by assumption) ?_ (fun hi => by have hx := Own.out (by assumption) hi; omega)) ; fail_if_success focus skip) | fail)) (hl : cellsL v = l) (h1 : l.length = n) (h2 : off + n ≤ c.length := by first | (simp; fail_if_success focus skip) | (simp [cellsL]; fail_if_success focus skip) | (simp [cellsL]; omega)) (h3 : l.all Value.oneCell' = true) (hc : setL c off l = c' := by first | (simp only [setL, cellsL, List.take_zero, List.take_succ_cons, List.drop_succ_cons, List.drop_zero, List.drop_nil, List.length_cons, List.length_nil, List.nil_append, List.cons_append, Nat.zero_add, Nat.reduceAdd, List.take_nil]; rfl) | rfl) (hw : W b := by first | exact .inr (by omega) | exact .inr (by simp only [AHeap.n_push, AHeap.n_put]; omega) | (simp; fail_if_success focus skip) | (simp; omega)) (g : GoR P W q N ops true os k ov df (h.put b (some (.cells c' ct))) Q) : GoR P W q N ops true (o :: os) k ov df h Q := GoR.store ho hd hgd hx hy hg hl h1 h2 h3 hc hw g
theorem GoL.store' {t ct : TypeId} {x y : Operand} {b off n : Nat} {c l c' : List Value} {v : Value} (ho : o.op = .store t x y) (hd : o.dst = none) (hgd : o.guard = none) (hx : evO ov x = some (.pointer (some ⟨b, off, none⟩))) (hy : evO ov y = some v) [hs : SZ P t n] (hg : h.get b = some (.cells c ct) := by (first | assumption | exact AHeap.get_push_same _ _ | ((repeat first | exact AHeap.get_push_same _ _ | assumption | refine get_push_lt ?_ | exact AHeap.get_put_same _ (by first | omega | (simp only [AHeap.n_push, AHeap.n_put]; omega)) _ | exact get_put_self (by assumption) | apply get_put_self | refine get_put_other (by first | omega | (simp only [AHeap.n_push, AHeap.n_put]; omega)) ?_ | refine Same.get (by assumption) ?_ | refine Keeps.get (by assumption) ?_ (fun hi => by have hx := Own.out (by assumption) hi; omega)) ; fail_if_success focus skip) | fail)) (hl : cellsL v = l) (h1 : l.length = n) (h2 : off + n ≤ c.length := by first | (simp; fail_if_success focus skip) | (simp [cellsL]; fail_if_success focus skip) | (simp [cellsL]; omega)) (h3 : l.all Value.oneCell' = true) (hc : setL c off l = c' := by first | (simp only [setL, cellsL, List.take_zero, List.take_succ_cons, List.drop_succ_cons, List.drop_zero, List.drop_nil, List.length_cons, List.length_nil, List.nil_append, List.cons_append, Nat.zero_add, Nat.reduceAdd, List.take_nil]; rfl) | rfl) (hw : W b := by first | exact .inr (by omega) | exact .inr (by simp only [AHeap.n_push, AHeap.n_put]; omega) | (simp; fail_if_success focus skip) | (simp; omega)) (g : GoL P W q N ops (tr ++ [(some ⟨h.n, h.n, [b], [b], false, false⟩)]) os k ov df (h.put b (some (.cells c' ct))) Q) : GoL P W q N ops tr (o :: os) k ov df h Q := GoL.store ho hd hgd hx hy hg hl h1 h2 h3 hc hw g
theorem GoR.store1' {t tt : TypeId} {x y : Operand} {kv sz : Nat} {a : Option Addr} {len cap : Nat} {cs : List Value} {v : Value} (ho : o.op = .store t x y) (hd : o.dst = none) (hgd : o.guard = none) (hx : evO ov x = some (ptA a kv)) (hy : evO ov y = some v) [hs : SZ P t 1] (h1 : v.oneCell' = true) (hS : Sv h tt sz a len cap cs := by first | assumption | exact Sv.same (h := h) (by assumption) (by assumption) | fail) (h2 : kv < cs.length := by first | omega | (simp only [List.length_set, List.length_append, List.length_cons, List.length_nil, List.length_replicate]; omega) | (simp; omega)) (hw : ∀ i ∈ blk a, W i := by exact Own.ok (by assumption) (by omega)) (g : ∀ h', Sv h' tt sz a len cap (cs.set kv v) → Keeps (blk a) h h' → h'.n = h.n → GoR P W q N ops true os k ov df h' Q) : GoR P W q N ops true (o :: os) k ov df h Q := GoR.store1 ho hd hgd hx hy h1 hS h2 hw g
theorem GoL.store1' {t tt : TypeId} {x y : Operand} {kv sz : Nat} {a : Option Addr} {len cap : Nat} {cs : List Value} {v : Value} (ho : o.op = .store t x y) (hd : o.dst = none) (hgd : o.guard = none) (hx : evO ov x = some (ptA a kv)) (hy : evO ov y = some v) [hs : SZ P t 1] (h1 : v.oneCell' = true) (hS : Sv h tt sz a len cap cs := by first | assumption | exact Sv.same (h := h) (by assumption) (by assumption) | fail) (h2 : kv < cs.length := by first | omega | (simp only [List.length_set, List.length_append, List.length_cons, List.length_nil, List.length_replicate]; omega) | (simp; omega)) (hw : ∀ i ∈ blk a, W i := by exact Own.ok (by assumption) (by omega)) (g : ∀ h', Sv h' tt sz a len cap (cs.set kv v) → Keeps (blk a) h h' → h'.n = h.n → GoL P W q N ops (tr ++ [some ⟨h.n, h'.n, blk a, blk a, false, false⟩]) os k ov df h' Q) : GoL P W q N ops tr (o :: os) k ov df h Q := GoL.store1 ho hd hgd hx hy h1 hS h2 hw g
theorem Go.cond_t' {o : Operand} {a b : Code} {B : Bool} (ho : evO ov o = some (.bool B)) (hB : B = true := by first | with_reducible rfl | with_reducible assumption | (with_reducible refine @decide_eq_true _ _ ?_; first | with_reducible rfl | omega) | (with_reducible refine @decide_eq_false _ _ ?_; omega) | with_reducible exact Bool.not_false | with_reducible exact Bool.not_true | (simp; fail_if_success focus skip) | (simp; omega)) (g : Go P W q N (.code a :: k) .normal ov df h Q) : Go P W q N (.code (.cond o a b) :: k) .normal ov df h Q := Go.cond_t ho hB g
theorem Go.cond_f' {o : Operand} {a b : Code} {B : Bool} (ho : evO ov o = some (.bool B)) (hB : B = false := by first | with_reducible rfl | with_reducible assumption | (with_reducible refine @decide_eq_true _ _ ?_; first | with_reducible rfl | omega) | (with_reducible refine @decide_eq_false _ _ ?_; omega) | with_reducible exact Bool.not_false | with_reducible exact Bool.not_true | (simp; fail_if_success focus skip) | (simp; omega)) (g : Go P W q N (.code b :: k) .normal ov df h Q) : Go P W q N (.code (.cond o a b) :: k) .normal ov df h Q := Go.cond_f ho hB g
theorem GoR.build' {c' : List Value} {t : TypeId} {ps : Array (Nat × Operand)} {z : List Value} {pl : List (Nat × Nat)} {vs : List (Nat × Value)} {c : List Value} (ho : o.op = .build t ps) (hd : o.dst = some d) (hN : dOk d N = true) (hgd : o.guard = none) [hs : ST P t z pl] (hp : evPs ov ps.toList = some vs) (hf : fillL (fun i => pl[i]?) z vs = some c) (hn : c = c' := by first | (simp only [setL, Value.cells, List.take_zero, List.take_succ_cons, List.drop_succ_cons, List.drop_zero, List.drop_nil, List.length_cons, List.length_nil, List.nil_append, List.cons_append, Nat.zero_add, Nat.reduceAdd, List.take_nil]; rfl) | rfl) (g : GoR P W q N ops b₀ os k ((d, (.agg c'.toArray)) :: ov) df h Q) : GoR P W q N ops b₀ (o :: os) k ov df h Q := by subst hn; exact GoR.build ho hd hN hgd hp hf g
theorem GoL.build' {c' : List Value} {t : TypeId} {ps : Array (Nat × Operand)} {z : List Value} {pl : List (Nat × Nat)} {vs : List (Nat × Value)} {c : List Value} (ho : o.op = .build t ps) (hd : o.dst = some d) (hN : dOk d N = true) (hgd : o.guard = none) [hs : ST P t z pl] (hp : evPs ov ps.toList = some vs) (hf : fillL (fun i => pl[i]?) z vs = some c) (hn : c = c' := by first | (simp only [setL, Value.cells, List.take_zero, List.take_succ_cons, List.drop_succ_cons, List.drop_zero, List.drop_nil, List.length_cons, List.length_nil, List.nil_append, List.cons_append, Nat.zero_add, Nat.reduceAdd, List.take_nil]; rfl) | rfl) (g : GoL P W q N ops (tr ++ [none]) os k ((d, (.agg c'.toArray)) :: ov) df h Q) : GoL P W q N ops tr (o :: os) k ov df h Q := by subst hn; exact GoL.build ho hd hN hgd hp hf g
theorem Go.fin1 {x : Exit} {a : Tmp} {t ct : TypeId} {n₀ : Nat} {b off : Nat} {c : List Value} {v : Value} {Q : Value → AHeap → Prop} (hx : x = .normal ∨ x = .ret) (ha : ov.find a = some (.pointer (some ⟨b, off, none⟩))) [hc : CT P t none] (hg : h.get b = some (.cells c ct) := by (first | assumption | exact AHeap.get_push_same _ _ | ((repeat first | exact AHeap.get_push_same _ _ | assumption | refine get_push_lt ?_ | exact AHeap.get_put_same _ (by first | omega | (simp only [AHeap.n_push, AHeap.n_put]; omega)) _ | exact get_put_self (by assumption) | apply get_put_self | refine get_put_other (by first | omega | (simp only [AHeap.n_push, AHeap.n_put]; omega)) ?_ | refine Same.get (by assumption) ?_ | refine Keeps.get (by assumption) ?_ (fun hi => by have hx := Own.out (by assumption) hi; omega)) ; fail_if_success focus skip) | fail)) (hv : c[off]? = some v := by (first | rfl | assumption | (simp only [List.getElem?_cons_zero, List.getElem?_cons_succ, Int.toNat_natCast, Nat.mul_one, Nat.add_zero, Nat.zero_add]; first | rfl | assumption))) (hq : Q v h) : Go P W q N [] x ov [] h (Fin P [.cell a t] n₀ Q) := Go.fin (vs := [v]) hx (.cell ha hc hg hv .nil) hq
end
structure Wrap (B : Prop) : Prop where
 out : B
theorem Go.run {A B : Prop} (k : Wrap B → A := by (intro b_; (repeat (first|refine GoR.end ?_|(refine GoR.gd rfl ?_;first|refine GoR.wanted' rfl rfl rfl rfl (g:=?_)|refine GoR.unwanted' rfl rfl rfl rfl (hd:=rfl) (hN:=rfl) (g:=?_)|refine GoR.unwantedU rfl rfl rfl rfl rfl rfl ?_)|(refine GoR.kk 0 rfl ?_;first|refine GoR.move rfl rfl rfl rfl rfl ?_|refine GoR.assign rfl rfl rfl rfl rfl ?_)|(refine GoR.kk 1 rfl ?_;first|refine GoR.load' rfl rfl rfl rfl rfl (g:=?_)|refine GoR.loadA' rfl rfl rfl rfl rfl (hv:=rfl) (g:=?_)|refine GoR.loadV' rfl rfl rfl rfl rfl (g:=?_)|refine GoR.loadVN' rfl rfl rfl rfl rfl (g:=?_))|(refine GoR.kk 2 rfl ?_;first|refine GoR.store' rfl rfl rfl rfl rfl (hl:=rfl) (h1:=rfl) (h3:=rfl) (g:=?_))|(refine GoR.kk 3 rfl ?_;first|refine GoR.fieldAddr rfl rfl rfl rfl rfl ?_|refine GoR.indexN' rfl rfl rfl rfl rfl rfl (g:=?_)|refine GoR.indexNs' rfl rfl rfl rfl rfl rfl (g:=?_)|refine GoR.indexV' rfl rfl rfl rfl rfl rfl (g:=?_)|refine GoR.indexA' rfl rfl rfl rfl rfl rfl (g:=?_)|refine GoR.fieldV' rfl rfl rfl rfl rfl (g:=?_))|(refine GoR.kk 4 rfl ?_;first|refine GoR.eq rfl rfl rfl rfl rfl rfl ?_|refine GoR.ne rfl rfl rfl rfl rfl rfl ?_|refine GoR.lt rfl rfl rfl rfl rfl rfl ?_|refine GoR.le rfl rfl rfl rfl rfl rfl ?_|refine GoR.gt rfl rfl rfl rfl rfl rfl ?_|refine GoR.ge rfl rfl rfl rfl rfl rfl ?_|refine GoR.addN' rfl rfl rfl rfl rfl rfl (g:=?_)|refine GoR.subN' rfl rfl rfl rfl rfl rfl (g:=?_)|refine GoR.add' rfl rfl rfl rfl rfl rfl (g:=?_)|refine GoR.sub' rfl rfl rfl rfl rfl rfl (g:=?_)|refine GoR.addM' rfl rfl rfl rfl rfl rfl (g:=?_)|refine GoR.subM' rfl rfl rfl rfl rfl rfl (g:=?_)|refine GoR.mulM' rfl rfl rfl rfl rfl rfl (g:=?_)|refine GoR.shrN rfl rfl rfl rfl rfl rfl rfl ?_|refine GoR.structEq rfl rfl rfl rfl rfl rfl (by rfl) (by rfl) ?_|refine GoR.structNe rfl rfl rfl rfl rfl rfl (by rfl) (by rfl) ?_|refine GoR.strEq rfl rfl rfl rfl rfl rfl ?_|refine GoR.strNe rfl rfl rfl rfl rfl rfl ?_|refine GoR.remN' rfl rfl rfl rfl rfl rfl (g:=?_)|refine GoR.quoN' rfl rfl rfl rfl rfl rfl (g:=?_)|refine GoR.shlN' rfl rfl rfl rfl rfl rfl rfl (g:=?_)|refine GoR.orN' rfl rfl rfl rfl rfl rfl (g:=?_))|(refine GoR.kk 5 rfl ?_;first|refine GoR.len rfl rfl rfl rfl rfl ?_|refine GoR.lenStr rfl rfl rfl rfl rfl ?_|refine GoR.capB rfl rfl rfl rfl rfl ?_)|(refine GoR.kk 7 rfl ?_;first|refine GoR.pickE' rfl rfl rfl rfl rfl (hx:=rfl) (hy:=rfl) (g:=?_)|refine GoR.pickN' rfl rfl rfl rfl rfl (hx:=rfl) (hy:=rfl) (g:=?_)|refine GoR.pickB rfl rfl rfl rfl rfl rfl rfl ?_)|(refine GoR.kk 8 rfl ?_;first|refine GoR.boxA rfl rfl rfl rfl rfl ?_|refine GoR.boxS rfl rfl rfl rfl rfl rfl ?_|refine GoR.alloc rfl rfl rfl rfl ?_)|(refine GoR.kk 9 rfl ?_;first|refine GoR.strV' rfl rfl rfl rfl rfl (g:=?_)|refine GoR.conv_u8 rfl rfl rfl rfl rfl ?_|refine GoR.convW' rfl rfl rfl rfl rfl (g:=?_)|refine GoR.conv_u16 rfl rfl rfl rfl rfl ?_|refine GoR.conv_u32 rfl rfl rfl rfl rfl ?_)|(refine GoR.kk 10 rfl ?_;first|refine GoR.build' rfl rfl rfl rfl rfl rfl (g:=?_))|(refine GoR.kk 11 rfl ?_;first|refine GoR.extract rfl rfl rfl rfl rfl rfl ?_|refine GoR.not rfl rfl rfl rfl rfl ?_|refine GoR.nilCheck rfl rfl rfl rfl rfl ?_|refine GoR.nilCheckF rfl rfl rfl rfl rfl ?_|refine GoR.makeFunc rfl rfl rfl rfl rfl rfl ?_)|(refine Go.kk 0 rfl ?_;refine Go.seq ?_)|(refine Go.kk 1 rfl ?_;refine Go.region (by kernel_rfl) rfl ?_)|(refine Go.kk 2 rfl ?_;refine Go.drawnQ rfl (by kernel_rfl) rfl ?_)|(refine Go.kk 3 rfl ?_;first|refine Go.cond_t' rfl (g:=?_)|refine Go.cond_f' rfl (g:=?_))|(refine Go.kk 4 rfl ?_;refine Go.block ?_)|(refine Go.kk 5 rfl ?_;first|refine Go.skip ?_|refine Go.ret ?_|refine Go.exit ?_|refine Go.scope ?_)|refine Go.leave_normal ?_|refine Go.leave_same ?_|refine Go.leave_ret ?_|refine Go.ret_code ?_|refine Go.exit_code ?_|refine Go.leave_other rfl ?_|refine Go.sc_normal ?_|refine Go.sc_ret ?_|refine Go.sc_exit ?_|refine Go.exit_back ?_|refine Go.ret_back ?_)); exact b_.out)) (g : B) : A := k ⟨g⟩
theorem Go.runL {A B : Prop} (k : Wrap B → A := by (intro b_; (repeat (first|(refine GoL.gd rfl ?_;first|refine GoL.wanted' rfl rfl rfl rfl (g:=?_)|refine GoL.unwanted' rfl rfl rfl rfl (hd:=rfl) (hN:=rfl) (g:=?_)|refine GoL.unwantedU rfl rfl rfl rfl rfl rfl ?_)|(refine GoL.kk 0 rfl ?_;first|refine GoL.move rfl rfl rfl rfl rfl ?_|refine GoL.assign rfl rfl rfl rfl rfl ?_)|(refine GoL.kk 1 rfl ?_;first|refine GoL.load' rfl rfl rfl rfl rfl (g:=?_)|refine GoL.loadA' rfl rfl rfl rfl rfl (hv:=rfl) (g:=?_)|refine GoL.loadV' rfl rfl rfl rfl rfl (g:=?_)|refine GoL.loadVN' rfl rfl rfl rfl rfl (g:=?_))|(refine GoL.kk 3 rfl ?_;first|refine GoL.fieldAddr rfl rfl rfl rfl rfl ?_|refine GoL.indexN' rfl rfl rfl rfl rfl rfl (g:=?_)|refine GoL.indexNs' rfl rfl rfl rfl rfl rfl (g:=?_)|refine GoL.indexV' rfl rfl rfl rfl rfl rfl (g:=?_)|refine GoL.indexA' rfl rfl rfl rfl rfl rfl (g:=?_)|refine GoL.fieldV' rfl rfl rfl rfl rfl (g:=?_))|(refine GoL.kk 4 rfl ?_;first|refine GoL.eq rfl rfl rfl rfl rfl rfl ?_|refine GoL.ne rfl rfl rfl rfl rfl rfl ?_|refine GoL.lt rfl rfl rfl rfl rfl rfl ?_|refine GoL.le rfl rfl rfl rfl rfl rfl ?_|refine GoL.gt rfl rfl rfl rfl rfl rfl ?_|refine GoL.ge rfl rfl rfl rfl rfl rfl ?_|refine GoL.addN' rfl rfl rfl rfl rfl rfl (g:=?_)|refine GoL.subN' rfl rfl rfl rfl rfl rfl (g:=?_)|refine GoL.add' rfl rfl rfl rfl rfl rfl (g:=?_)|refine GoL.sub' rfl rfl rfl rfl rfl rfl (g:=?_)|refine GoL.addM' rfl rfl rfl rfl rfl rfl (g:=?_)|refine GoL.subM' rfl rfl rfl rfl rfl rfl (g:=?_)|refine GoL.mulM' rfl rfl rfl rfl rfl rfl (g:=?_)|refine GoL.shrN rfl rfl rfl rfl rfl rfl rfl ?_|refine GoL.strEq rfl rfl rfl rfl rfl rfl ?_|refine GoL.strNe rfl rfl rfl rfl rfl rfl ?_|refine GoL.remN' rfl rfl rfl rfl rfl rfl (g:=?_)|refine GoL.quoN' rfl rfl rfl rfl rfl rfl (g:=?_)|refine GoL.shlN' rfl rfl rfl rfl rfl rfl rfl (g:=?_)|refine GoL.orN' rfl rfl rfl rfl rfl rfl (g:=?_))|(refine GoL.kk 5 rfl ?_;first|refine GoL.len rfl rfl rfl rfl rfl ?_|refine GoL.lenStr rfl rfl rfl rfl rfl ?_|refine GoL.capB rfl rfl rfl rfl rfl ?_)|(refine GoL.kk 7 rfl ?_;first|refine GoL.pickE' rfl rfl rfl rfl rfl (hx:=rfl) (hy:=rfl) (g:=?_)|refine GoL.pickN' rfl rfl rfl rfl rfl (hx:=rfl) (hy:=rfl) (g:=?_))|(refine GoL.kk 8 rfl ?_;first|refine GoL.boxA rfl rfl rfl rfl rfl ?_|refine GoL.boxS rfl rfl rfl rfl rfl rfl ?_|refine GoL.alloc rfl rfl rfl rfl ?_)|(refine GoL.kk 9 rfl ?_;first|refine GoL.conv_u8 rfl rfl rfl rfl rfl ?_|refine GoL.convW' rfl rfl rfl rfl rfl (g:=?_)|refine GoL.conv_u16 rfl rfl rfl rfl rfl ?_|refine GoL.conv_u32 rfl rfl rfl rfl rfl ?_)|(refine GoL.kk 10 rfl ?_;first|refine GoL.build' rfl rfl rfl rfl rfl rfl (g:=?_))|(refine GoL.kk 11 rfl ?_;first|refine GoL.extract rfl rfl rfl rfl rfl rfl ?_|refine GoL.not rfl rfl rfl rfl rfl ?_|refine GoL.nilCheck rfl rfl rfl rfl rfl ?_|refine GoL.nilCheckF rfl rfl rfl rfl rfl ?_|refine GoL.makeFunc rfl rfl rfl rfl rfl rfl ?_))); exact b_.out)) (g : B) : A := k ⟨g⟩
theorem GoL.end_ {P : Program} {W : Nat → Prop} {q : Bool} {N : Nat} {k : List It} {ov : Ov} {df : List Nat} {h : AHeap} {Q : PQ} {ops : Array Oper} {tr : List (Option LE)} (hl : loudP ops tr tr 0 := by (simp only [List.nil_append, List.cons_append]); repeat (first | exact loudP.nil | refine loudP.none ?_ | refine loudP.new (fun _ hb => absurd hb List.not_mem_nil) ?_ | refine loudP.row (by repeat (first | exact loudRowP.nil | refine loudRowP.none ?_ | refine loudRowP.bef (by decide +kernel) ?_ | refine loudRowP.apart (by first | exact .inl rfl | exact .inr (by simp)) rfl (by first | (intro i hi; have hx := Own.out (by assumption) hi; have hy := Sv.lt (by assumption) i hi; refine ⟨?_, ?_, ?_⟩ <;> first | (simp only [List.mem_cons, List.not_mem_nil, or_false, not_false_eq_true]; omega) | (simp; omega) | trivial | simp | omega) | fail) ?_)) ?_)) (g : Go P W q N k .normal ov df h Q) : GoL P W q N ops tr [] k ov df h Q := GoL.end hl g
theorem Go.runN {A B : Prop} (k : Wrap B → A := by (intro b_; (repeat (first|refine GoR.end ?_|(refine GoR.gd rfl ?_;first|refine GoR.wanted' rfl rfl rfl rfl (g:=?_)|refine GoR.unwanted' rfl rfl rfl rfl (hd:=rfl) (hN:=rfl) (g:=?_)|refine GoR.unwantedU rfl rfl rfl rfl rfl rfl ?_)|(refine GoR.kk 0 rfl ?_;first|refine GoR.move rfl rfl rfl rfl rfl ?_|refine GoR.assign rfl rfl rfl rfl rfl ?_)|(refine GoR.kk 1 rfl ?_;first|refine GoR.load' rfl rfl rfl rfl rfl (g:=?_)|refine GoR.loadA' rfl rfl rfl rfl rfl (hv:=rfl) (g:=?_)|refine GoR.loadV' rfl rfl rfl rfl rfl (g:=?_)|refine GoR.loadVN' rfl rfl rfl rfl rfl (g:=?_))|(refine GoR.kk 2 rfl ?_;first|refine GoR.store' rfl rfl rfl rfl rfl (hl:=rfl) (h1:=rfl) (h3:=rfl) (g:=?_))|(refine GoR.kk 3 rfl ?_;first|refine GoR.fieldAddr rfl rfl rfl rfl rfl ?_|refine GoR.indexN' rfl rfl rfl rfl rfl rfl (g:=?_)|refine GoR.indexNs' rfl rfl rfl rfl rfl rfl (g:=?_)|refine GoR.indexV' rfl rfl rfl rfl rfl rfl (g:=?_)|refine GoR.indexA' rfl rfl rfl rfl rfl rfl (g:=?_)|refine GoR.fieldV' rfl rfl rfl rfl rfl (g:=?_))|(refine GoR.kk 4 rfl ?_;first|refine GoR.eq rfl rfl rfl rfl rfl rfl ?_|refine GoR.ne rfl rfl rfl rfl rfl rfl ?_|refine GoR.lt rfl rfl rfl rfl rfl rfl ?_|refine GoR.le rfl rfl rfl rfl rfl rfl ?_|refine GoR.gt rfl rfl rfl rfl rfl rfl ?_|refine GoR.ge rfl rfl rfl rfl rfl rfl ?_|refine GoR.addN' rfl rfl rfl rfl rfl rfl (g:=?_)|refine GoR.subN' rfl rfl rfl rfl rfl rfl (g:=?_)|refine GoR.add' rfl rfl rfl rfl rfl rfl (g:=?_)|refine GoR.sub' rfl rfl rfl rfl rfl rfl (g:=?_)|refine GoR.addM' rfl rfl rfl rfl rfl rfl (g:=?_)|refine GoR.subM' rfl rfl rfl rfl rfl rfl (g:=?_)|refine GoR.mulM' rfl rfl rfl rfl rfl rfl (g:=?_)|refine GoR.shrN rfl rfl rfl rfl rfl rfl rfl ?_|refine GoR.structEq rfl rfl rfl rfl rfl rfl (by rfl) (by rfl) ?_|refine GoR.structNe rfl rfl rfl rfl rfl rfl (by rfl) (by rfl) ?_|refine GoR.strEq rfl rfl rfl rfl rfl rfl ?_|refine GoR.strNe rfl rfl rfl rfl rfl rfl ?_|refine GoR.remN' rfl rfl rfl rfl rfl rfl (g:=?_)|refine GoR.quoN' rfl rfl rfl rfl rfl rfl (g:=?_)|refine GoR.shlN' rfl rfl rfl rfl rfl rfl rfl (g:=?_)|refine GoR.orN' rfl rfl rfl rfl rfl rfl (g:=?_))|(refine GoR.kk 5 rfl ?_;first|refine GoR.len rfl rfl rfl rfl rfl ?_|refine GoR.lenStr rfl rfl rfl rfl rfl ?_|refine GoR.capB rfl rfl rfl rfl rfl ?_)|(refine GoR.kk 7 rfl ?_;first|refine GoR.pickE' rfl rfl rfl rfl rfl (hx:=rfl) (hy:=rfl) (g:=?_)|refine GoR.pickN' rfl rfl rfl rfl rfl (hx:=rfl) (hy:=rfl) (g:=?_)|refine GoR.pickB rfl rfl rfl rfl rfl rfl rfl ?_)|(refine GoR.kk 8 rfl ?_;first|refine GoR.boxA rfl rfl rfl rfl rfl ?_|refine GoR.boxS rfl rfl rfl rfl rfl rfl ?_|refine GoR.alloc rfl rfl rfl rfl ?_)|(refine GoR.kk 9 rfl ?_;first|refine GoR.strV' rfl rfl rfl rfl rfl (g:=?_)|refine GoR.conv_u8 rfl rfl rfl rfl rfl ?_|refine GoR.convW' rfl rfl rfl rfl rfl (g:=?_)|refine GoR.conv_u16 rfl rfl rfl rfl rfl ?_|refine GoR.conv_u32 rfl rfl rfl rfl rfl ?_)|(refine GoR.kk 10 rfl ?_;first|refine GoR.build' rfl rfl rfl rfl rfl rfl (g:=?_))|(refine GoR.kk 11 rfl ?_;first|refine GoR.extract rfl rfl rfl rfl rfl rfl ?_|refine GoR.not rfl rfl rfl rfl rfl ?_|refine GoR.nilCheck rfl rfl rfl rfl rfl ?_|refine GoR.nilCheckF rfl rfl rfl rfl rfl ?_|refine GoR.makeFunc rfl rfl rfl rfl rfl rfl ?_)|(refine Go.kk 0 rfl ?_;refine Go.seq ?_)|(refine Go.kk 1 rfl ?_;refine Go.region (by kernel_rfl) rfl ?_)|(refine Go.kk 3 rfl ?_;first|refine Go.cond_t' rfl (g:=?_)|refine Go.cond_f' rfl (g:=?_))|(refine Go.kk 4 rfl ?_;refine Go.block ?_)|(refine Go.kk 5 rfl ?_;first|refine Go.skip ?_|refine Go.ret ?_|refine Go.exit ?_|refine Go.scope ?_)|refine Go.leave_normal ?_|refine Go.leave_same ?_|refine Go.leave_ret ?_|refine Go.ret_code ?_|refine Go.exit_code ?_|refine Go.leave_other rfl ?_|refine Go.sc_normal ?_|refine Go.sc_ret ?_|refine Go.sc_exit ?_|refine Go.exit_back ?_|refine Go.ret_back ?_)); exact b_.out)) (g : B) : A := k ⟨g⟩
theorem Go.one {A B : Prop} (k : Wrap B → A := by (intro b_; ((first|refine GoR.end ?_|(refine GoR.gd rfl ?_;first|refine GoR.wanted' rfl rfl rfl rfl (g:=?_)|refine GoR.unwanted' rfl rfl rfl rfl (hd:=rfl) (hN:=rfl) (g:=?_)|refine GoR.unwantedU rfl rfl rfl rfl rfl rfl ?_)|(refine GoR.kk 0 rfl ?_;first|refine GoR.move rfl rfl rfl rfl rfl ?_|refine GoR.assign rfl rfl rfl rfl rfl ?_)|(refine GoR.kk 1 rfl ?_;first|refine GoR.load' rfl rfl rfl rfl rfl (g:=?_)|refine GoR.loadA' rfl rfl rfl rfl rfl (hv:=rfl) (g:=?_)|refine GoR.loadV' rfl rfl rfl rfl rfl (g:=?_)|refine GoR.loadVN' rfl rfl rfl rfl rfl (g:=?_))|(refine GoR.kk 2 rfl ?_;first|refine GoR.store' rfl rfl rfl rfl rfl (hl:=rfl) (h1:=rfl) (h3:=rfl) (g:=?_))|(refine GoR.kk 3 rfl ?_;first|refine GoR.fieldAddr rfl rfl rfl rfl rfl ?_|refine GoR.indexN' rfl rfl rfl rfl rfl rfl (g:=?_)|refine GoR.indexNs' rfl rfl rfl rfl rfl rfl (g:=?_)|refine GoR.indexV' rfl rfl rfl rfl rfl rfl (g:=?_)|refine GoR.indexA' rfl rfl rfl rfl rfl rfl (g:=?_)|refine GoR.fieldV' rfl rfl rfl rfl rfl (g:=?_))|(refine GoR.kk 4 rfl ?_;first|refine GoR.eq rfl rfl rfl rfl rfl rfl ?_|refine GoR.ne rfl rfl rfl rfl rfl rfl ?_|refine GoR.lt rfl rfl rfl rfl rfl rfl ?_|refine GoR.le rfl rfl rfl rfl rfl rfl ?_|refine GoR.gt rfl rfl rfl rfl rfl rfl ?_|refine GoR.ge rfl rfl rfl rfl rfl rfl ?_|refine GoR.addN' rfl rfl rfl rfl rfl rfl (g:=?_)|refine GoR.subN' rfl rfl rfl rfl rfl rfl (g:=?_)|refine GoR.add' rfl rfl rfl rfl rfl rfl (g:=?_)|refine GoR.sub' rfl rfl rfl rfl rfl rfl (g:=?_)|refine GoR.addM' rfl rfl rfl rfl rfl rfl (g:=?_)|refine GoR.subM' rfl rfl rfl rfl rfl rfl (g:=?_)|refine GoR.mulM' rfl rfl rfl rfl rfl rfl (g:=?_)|refine GoR.shrN rfl rfl rfl rfl rfl rfl rfl ?_|refine GoR.structEq rfl rfl rfl rfl rfl rfl (by rfl) (by rfl) ?_|refine GoR.structNe rfl rfl rfl rfl rfl rfl (by rfl) (by rfl) ?_|refine GoR.strEq rfl rfl rfl rfl rfl rfl ?_|refine GoR.strNe rfl rfl rfl rfl rfl rfl ?_|refine GoR.remN' rfl rfl rfl rfl rfl rfl (g:=?_)|refine GoR.quoN' rfl rfl rfl rfl rfl rfl (g:=?_)|refine GoR.shlN' rfl rfl rfl rfl rfl rfl rfl (g:=?_)|refine GoR.orN' rfl rfl rfl rfl rfl rfl (g:=?_))|(refine GoR.kk 5 rfl ?_;first|refine GoR.len rfl rfl rfl rfl rfl ?_|refine GoR.lenStr rfl rfl rfl rfl rfl ?_|refine GoR.capB rfl rfl rfl rfl rfl ?_)|(refine GoR.kk 7 rfl ?_;first|refine GoR.pickE' rfl rfl rfl rfl rfl (hx:=rfl) (hy:=rfl) (g:=?_)|refine GoR.pickN' rfl rfl rfl rfl rfl (hx:=rfl) (hy:=rfl) (g:=?_)|refine GoR.pickB rfl rfl rfl rfl rfl rfl rfl ?_)|(refine GoR.kk 8 rfl ?_;first|refine GoR.boxA rfl rfl rfl rfl rfl ?_|refine GoR.boxS rfl rfl rfl rfl rfl rfl ?_|refine GoR.alloc rfl rfl rfl rfl ?_)|(refine GoR.kk 9 rfl ?_;first|refine GoR.strV' rfl rfl rfl rfl rfl (g:=?_)|refine GoR.conv_u8 rfl rfl rfl rfl rfl ?_|refine GoR.convW' rfl rfl rfl rfl rfl (g:=?_)|refine GoR.conv_u16 rfl rfl rfl rfl rfl ?_|refine GoR.conv_u32 rfl rfl rfl rfl rfl ?_)|(refine GoR.kk 10 rfl ?_;first|refine GoR.build' rfl rfl rfl rfl rfl rfl (g:=?_))|(refine GoR.kk 11 rfl ?_;first|refine GoR.extract rfl rfl rfl rfl rfl rfl ?_|refine GoR.not rfl rfl rfl rfl rfl ?_|refine GoR.nilCheck rfl rfl rfl rfl rfl ?_|refine GoR.nilCheckF rfl rfl rfl rfl rfl ?_|refine GoR.makeFunc rfl rfl rfl rfl rfl rfl ?_)|(refine Go.kk 0 rfl ?_;refine Go.seq ?_)|(refine Go.kk 1 rfl ?_;refine Go.region (by kernel_rfl) rfl ?_)|(refine Go.kk 2 rfl ?_;refine Go.drawnQ rfl (by kernel_rfl) rfl ?_)|(refine Go.kk 3 rfl ?_;first|refine Go.cond_t' rfl (g:=?_)|refine Go.cond_f' rfl (g:=?_))|(refine Go.kk 4 rfl ?_;refine Go.block ?_)|(refine Go.kk 5 rfl ?_;first|refine Go.skip ?_|refine Go.ret ?_|refine Go.exit ?_|refine Go.scope ?_)|refine Go.leave_normal ?_|refine Go.leave_same ?_|refine Go.leave_ret ?_|refine Go.ret_code ?_|refine Go.exit_code ?_|refine Go.leave_other rfl ?_|refine Go.sc_normal ?_|refine Go.sc_ret ?_|refine Go.sc_exit ?_|refine Go.exit_back ?_|refine Go.ret_back ?_)); exact b_.out)) (g : B) : A := k ⟨g⟩
theorem GoL.endN {P : Program} {W : Nat → Prop} {q : Bool} {N : Nat} {k : List It} {ov : Ov} {df : List Nat} {h : AHeap} {Q : PQ} {ops : Array Oper} {tr : List (Option LE)} (hl : loudP ops tr tr 0 := by (simp only [List.nil_append, List.cons_append, AHeap.n_push, AHeap.n_put]); repeat (first | exact loudP.nil | refine loudP.none ?_ | refine loudP.new (fun _ hb => absurd hb List.not_mem_nil) ?_ | refine loudP.row (by repeat (first | exact loudRowP.nil | refine loudRowP.none ?_ | refine loudRowP.bef (by decide +kernel) ?_ | refine loudRowP.apart (by first | exact .inl rfl | exact .inr (by simp)) rfl (fun i hi => by simp only [List.mem_cons, List.not_mem_nil, or_false] at hi; subst hi; first | (simp; fail_if_success focus skip) | (simp; omega)) ?_)) ?_)) (g : Go P W q N k .normal ov df h Q) : GoL P W q N ops tr [] k ov df h Q := GoL.end hl g
theorem GoL.endC {P : Program} {W : Nat → Prop} {q : Bool} {N : Nat} {k : List It} {ov : Ov} {df : List Nat} {h : AHeap} {Q : PQ} {ops : Array Oper} {tr : List (Option LE)} (hl : loudP ops tr tr 0 := by (simp only [List.nil_append, List.cons_append]); repeat (first | exact loudP.nil | refine loudP.none ?_ | refine loudP.new (fun _ hb => absurd hb List.not_mem_nil) ?_ | refine loudP.row (by repeat (first | exact loudRowP.nil | refine loudRowP.none ?_ | refine loudRowP.bef (by decide +kernel) ?_ | refine loudRowP.apart (by first | exact .inl rfl | exact .inr (by simp)) rfl (fun i hi => by first | (have hx := hdis _ hi; first | (simp; fail_if_success focus skip) | (simp; omega) | (simp [hx]; fail_if_success focus skip)) | (have hx := hdis2 _ hi; first | (simp; fail_if_success focus skip) | (simp; omega) | (simp [hx]; fail_if_success focus skip))) ?_)) ?_)) (g : Go P W q N k .normal ov df h Q) : GoL P W q N ops tr [] k ov df h Q := GoL.end hl g
theorem Go.finB {P : Program} {W : Nat → Prop} {q : Bool} {N : Nat} {ov : Ov} {h : AHeap} {x : Exit} {a : Tmp} {t ct : TypeId} {n₀ : Nat} {b off : Nat} {c : List Value} {v : Value} {Q : Value → AHeap → Prop} (ha : ov.find a = some (.pointer (some ⟨b, off, none⟩))) [hc : CT P t none] (hg : h.get b = some (.cells c ct) := by (first | assumption | exact AHeap.get_push_same _ _ | ((repeat first | exact AHeap.get_push_same _ _ | assumption | refine get_push_lt ?_ | exact AHeap.get_put_same _ (by first | omega | (simp only [AHeap.n_push, AHeap.n_put]; omega)) _ | exact get_put_self (by assumption) | apply get_put_self | refine get_put_other (by first | omega | (simp only [AHeap.n_push, AHeap.n_put]; omega)) ?_ | refine Same.get (by assumption) ?_ | refine Keeps.get (by assumption) ?_ (fun hi => by have hx := Own.out (by assumption) hi; omega)) ; fail_if_success focus skip) | fail)) (hv : c[off]? = some v := by (first | rfl | assumption | (simp only [List.getElem?_cons_zero, List.getElem?_cons_succ, Int.toNat_natCast, Nat.mul_one, Nat.add_zero, Nat.zero_add]; first | rfl | assumption))) (hq : Q v h) (hx : x = .normal ∨ x = .ret := by first|exact .inr rfl|exact .inl rfl) : Go P W q N [] x ov [] h (Fin P [.cell a t] n₀ Q) := Go.fin (vs := [v]) hx (.cell ha hc hg hv .nil) hq
theorem GoL.st {A B : Prop} (k : Wrap B → A := by (intro b_; refine GoL.store' rfl rfl rfl rfl rfl (hl:=rfl) (h1:=rfl) (h3:=rfl) (g:=?_); exact b_.out)) (g : B) : A := k ⟨g⟩
theorem hg_ {h : AHeap} {b : Nat} {o : Option AObj} (hg : h.get b = o := by (first | assumption | exact AHeap.get_push_same _ _ | ((repeat first | exact AHeap.get_push_same _ _ | assumption | refine get_push_lt ?_ | exact AHeap.get_put_same _ (by first | omega | (simp only [AHeap.n_push, AHeap.n_put]; omega)) _ | exact get_put_self (by assumption) | apply get_put_self | refine get_put_other (by first | omega | (simp only [AHeap.n_push, AHeap.n_put]; omega)) ?_ | refine Same.get (by assumption) ?_ | refine Keeps.get (by assumption) ?_ (fun hi => by have hx := Own.out (by assumption) hi; omega)) ; fail_if_success focus skip) | fail)) : h.get b = o := hg
theorem Go.finA {P : Program} {W : Nat → Prop} {q : Bool} {N : Nat} {ov : Ov} {h : AHeap} {Q : Value → AHeap → Prop} {x : Exit} {rs : List ResultVar} {n₀ : Nat} {vs : List Value} (hr : evRs ov rs = some vs) (hq : Q (retV vs) h) (hx : x = .normal ∨ x = .ret := by first|exact .inr rfl|exact .inl rfl) : Go P W q N [] x ov [] h (Fin P rs n₀ Q) := .finT hx hr hq
end Go.Proofs.Ytfdglljlenkkbaa
namespace Go.Proofs.Ytfdglljlenkkbaa
def restr (h : AHeap) : List Nat → AHeap
 | [] => ⟨h.n, .nil⟩
 | i :: l => (restr h l).put i (h.get i)
theorem restr_n (h : AHeap) (l : List Nat) : (restr h l).n = h.n := by
 induction l with
 | nil => rfl
 | cons i l ih => simpa [restr] using ih
theorem restr_get (h : AHeap) (l : List Nat) (i : Nat) : (restr h l).get i = if i ∈ l then h.get i else none := by
 induction l with
 | nil =>
  simp only [restr, AHeap.get, List.not_mem_nil, if_false]
  have e : Tr.nil.get i = none := rfl
  rw [e]
  exact ite_self _
 | cons j l ih =>
  simp only [restr]
  rw [AHeap.get_put, restr_n]
  by_cases e : j = i
  ·
   subst e
   simp only [if_true, List.mem_cons, true_or]
   split
   · rfl
   · rw [AHeap.get_out (by omega)]
  ·
   rw [if_neg e, ih]
   have : (i ∈ j :: l) ↔ i ∈ l := by simp [Ne.symm e]
   simp only [this]
theorem restr_some {h : AHeap} {l : List Nat} {i : Nat} {o : AObj} (e : (restr h l).get i = some o) : h.get i = some o ∧ i ∈ l := by
 rw [restr_get] at e
 split at e
 · exact ⟨e, by assumption⟩
 · cases e
structure News (h h' h₂ : AHeap) : Prop where
 same : Same h h'
 n : h'.n = h₂.n
 get : ∀ i, h.n ≤ i → h'.get i = h₂.get i
theorem News.sv {h h' h₂ : AHeap} {t : TypeId} {sz len cap : Nat} {a : Option Addr} {cs : List Value} (k : News h h' h₂) (s : Sv h₂ t sz a len cap cs) (o : Own h.n a) : Sv h' t sz a len cap cs := by
 cases s with
 | nil => exact .nil
 | mk hg ho hl hc => exact .mk (by rw [k.get _ (o _ (by simp [blk]))]; exact hg) ho hl hc
theorem Rv.restr {P : Program} {h : AHeap} {sz len cap : Nat} {a : Option Addr} {cs : List Value} (k : Rv P h sz a len cap cs) (rd : List Nat) (hr : ∀ i ∈ blk a, i ∈ rd) : Rv P (restr h rd) sz a len cap cs := by
 cases k with
 | nil => exact .nil
 | @mk b o _ _ c _ hg ho hl hc =>
  have e : (Go.Proofs.Ytfdglljlenkkbaa.restr h rd).get b = h.get b := by rw [restr_get, if_pos (hr b (by simp [blk]))]
  exact .mk (by rw [e]; exact hg) ho hl hc
section
variable {P : Program} {W : Nat → Prop} {q : Bool} {N : Nat} {k : List It} {ov : Ov} {df : List Nat} {h : AHeap} {Q : PQ} {ops : Array Oper} {os : List Oper} {tr : List (Option LE)} {b₀ : Bool} {x : Exit}
theorem GoL.name (g : ∀ h', h' = h → GoL P W q N ops tr os k ov df h' Q) : GoL P W q N ops tr os k ov df h Q := g h rfl
theorem GoR.name (g : ∀ h', h' = h → GoR P W q N ops b₀ os k ov df h' Q) : GoR P W q N ops b₀ os k ov df h Q := g h rfl
theorem Go.name (g : ∀ h', h' = h → Go P W q N k x ov df h' Q) : Go P W q N k x ov df h Q := g h rfl
end
def Jn {α : Type} (fr : α → Ov) (dfs : α → List Nat) (hp : α → AHeap) (I : α → Prop) : List Value → List Nat → AHeap → Prop := fun tm df h => ∃ a, I a ∧ Rp (fr a) tm ∧ df = dfs a ∧ h = hp a
theorem Gx.join {P : Program} {W : Nat → Prop} {q : Bool} {N : Nat} {k : List It} {Q : PQ} {R : List Value → List Nat → AHeap → Prop} (hR : ∀ tm df h, tm.length = N → R tm df h → Gx P W q k .normal tm df h Q) : ∀ (pre : List It) (x : Exit) (tm : List Value) (df : List Nat) (h : AHeap), tm.length = N → Gx P W q (pre ++ .back R :: k) x tm df h Q → Gx P W q (pre ++ k) x tm df h Q
 | [], x, tm, df, h, hN, g => by
  by_cases hx : x = .normal
  · subst hx; exact hR tm df h hN (g.1 rfl)
  · exact g.2 hx
 | .leave id :: pre, x, tm, df, h, hN, g => Gx.join hR pre (Exit.leave id x) tm df h hN g
 | .sc :: pre, x, tm, df, h, hN, g => ⟨g.1, Gx.join hR pre x tm df h hN g.2⟩
 | .soft _ :: pre, x, tm, df, h, hN, g => Gx.join hR pre x tm df h hN g
 | .back R' :: pre, x, tm, df, h, hN, g => ⟨g.1, fun e => Gx.join hR pre x tm df h hN (g.2 e)⟩
 | .code c :: pre, x, tm, df, h, hN, g => ⟨fun e => by
   obtain ⟨x', tm', df', h', r, n, g'⟩ := g.1 e
   exact ⟨x', tm', df', h', r, n, Gx.join hR pre x' tm' df' h' (n.trans hN) g'⟩, fun e => Gx.join hR pre x tm df h hN (g.2 e)⟩
section
variable {P : Program} {W : Nat → Prop} {q : Bool} {N : Nat} {k : List It} {ov : Ov} {df : List Nat} {h : AHeap} {Q : PQ} {x : Exit}
theorem Go.joinN {α : Type} (pre : List It) (fr : α → Ov) (dfs : α → List Nat) (hp : α → AHeap) (I : α → Prop) (first : Go P W q N (pre ++ .back (Jn fr dfs hp I) :: k) x ov df h Q) (rest : ∀ a, I a → Go P W q N k .normal (fr a) (dfs a) (hp a) Q) : Go P W q N (pre ++ k) x ov df h Q := fun tm hN hr =>
 Gx.join (fun tm df h hN ⟨a, ha, hra, e1, e2⟩ => by subst e1 e2; exact rest a ha tm hN hra) pre x tm df h hN (first tm hN hr)
theorem Go.join1 {α : Type} {i1 : It} (fr : α → Ov) (dfs : α → List Nat) (hp : α → AHeap) (I : α → Prop) (first : Go P W q N (i1 :: .back (Jn fr dfs hp I) :: k) x ov df h Q) (rest : ∀ a, I a → Go P W q N k .normal (fr a) (dfs a) (hp a) Q) : Go P W q N (i1 :: k) x ov df h Q := Go.joinN [i1] fr dfs hp I first rest
theorem Go.join2 {α : Type} {i1 i2 : It} (fr : α → Ov) (dfs : α → List Nat) (hp : α → AHeap) (I : α → Prop) (first : Go P W q N (i1 :: i2 :: .back (Jn fr dfs hp I) :: k) x ov df h Q) (rest : ∀ a, I a → Go P W q N k .normal (fr a) (dfs a) (hp a) Q) : Go P W q N (i1 :: i2 :: k) x ov df h Q := Go.joinN [i1, i2] fr dfs hp I first rest
theorem Go.joined {α : Type} {fr : α → Ov} {dfs : α → List Nat} {hp : α → AHeap} {I : α → Prop} (a : α) (ha : I a) (hs : Ov.sub ov (fr a)) (hd : df = dfs a) (hh : h = hp a) : Go P W q N (.back (Jn fr dfs hp I) :: k) .normal ov df h Q := fun tm hN hr => ⟨fun _ => ⟨a, ha, hr.sub hs, hd, hh⟩, fun e => absurd rfl e⟩
end
end Go.Proofs.Ytfdglljlenkkbaa
namespace Go.Proofs.Ytfdglljlenkkbaa
def YieldRun (P : Program) (W : Nat → Prop) (l : Nat) (args : List Value) (h : AHeap) (c : Bool) (h' : AHeap) : Prop :=
 AFr W h h' ∧ ∀ (o : Oper) (tm : List Value) (f : Operand) (xs : Array Operand) (ts : Array TypeId), o.op = .call ⟨.value f, xs, ts⟩ → evalT tm f = .func (.yield l) #[] #[] → xs.toList.map (evalT tm) = args → OpRun P Ev W o tm h (.bool c) h'
def YieldS (P : Program) (wr : List Nat) (l : Nat) (args : List Value) (h : AHeap) (Q : Bool → AHeap → Prop) : Prop := ∃ c h', YieldRun P (· ∈ wr) l args h c h' ∧ Q c h'
theorem YieldS.mono {P : Program} {wr : List Nat} {l : Nat} {args : List Value} {h : AHeap} {Q Q' : Bool → AHeap → Prop} (k : YieldS P wr l args h Q) (hq : ∀ c h', Q c h' → Q' c h') : YieldS P wr l args h Q' := let ⟨c, h', a, b⟩ := k; ⟨c, h', a, hq _ _ b⟩
theorem YieldS.keeps {P : Program} {wr : List Nat} {l : Nat} {args : List Value} {h : AHeap} {Q : Bool → AHeap → Prop} (k : YieldS P wr l args h Q) : YieldS P wr l args h fun c h' => Keeps wr h h' ∧ Q c h' := let ⟨c, h', a, b⟩ := k; ⟨c, h', a, ⟨a.1.n, fun i hi hn => a.1.get i hi hn⟩, b⟩
def AsQ (P : Program) (W : Nat → Prop) (l : Nat) (bo : Code) (Q : PQ) : PQ := fun x tm df h => x = .normal ∧ ∃ pe' tmL' ps' as' bo' df', h.get l = some (.loop .ready pe' tmL' ps' as' bo' df') ∧ ∃ x' tm' d' h', Run P W true bo ⟨tm, df, h.put l (some (.loop .busy pe' tmL' ps' as' bo' df'))⟩ x' ⟨tm', d', h'⟩ ∧ Q x' tm' d' h'
def BoQ (l : Nat) (Q : Bool → AHeap → Prop) : PQ := fun x tm df h => ∃ jump st₂ pe₂ tm₂ ps₂ as₂ bo₂ df₂, jumpOf x = some jump ∧ h.get l = some (.loop st₂ pe₂ tm₂ ps₂ as₂ bo₂ df₂) ∧ Q jump.isNone (h.put l (some (.loop (if jump.isNone then .ready else .done) jump tm₂ ps₂ as₂ bo₂ df₂)))
theorem Rp.set {ov : Ov} {tm : List Value} {N d : Nat} (hr : Rp ov tm) (hN : tm.length = N) (hd : dOk d N = true) (v : Value) : Rp ((d, v) :: ov) (tm.set d v) := hr.put hN hd v
def setO : Ov → List Tmp → List Value → Ov
 | ov, p :: ps, v :: vs => setO ((p, v) :: ov) ps vs
 | ov, _, _ => ov
theorem setPs_rp {N : Nat} : ∀ (ps : List Tmp) (vs : List Value) (ov : Ov) (tm : List Value), ps.all (dOk · N) = true → tm.length = N → Rp ov tm → Rp (setO ov ps vs) (setPs tm ps vs) ∧ (setPs tm ps vs).length = N
 | [], _, ov, tm, _, hN, hr => by simpa [setO, setPs] using ⟨hr, hN⟩
 | p :: ps, [], ov, tm, _, hN, hr => by simpa [setO, setPs] using ⟨hr, hN⟩
 | p :: ps, v :: vs, ov, tm, hd, hN, hr => by
  simp only [List.all_cons, Bool.and_eq_true] at hd
  have := setPs_rp ps vs ((p, v) :: ov) (tm.set p v) hd.2 (by simpa using hN) (hr.set hN hd.1 v)
  simpa [setO, setPs] using this
section
variable {P : Program} {W : Nat → Prop} {q : Bool} {N : Nat} {k : List It} {ov : Ov} {df : List Nat} {h : AHeap} {Q : PQ} {x : Exit}
theorem YieldS.of {wr : List Nat} {l d : Nat} {pe : Option Code} {tm : List Value} {ps : Array Tmp} {as bo : Code} {args : List Value} {Q : Bool → AHeap → Prop} {ov' : Ov} (hl : h.get l = some (.loop .ready pe tm ps as bo d)) (htm : tm.length = N) (hr : Rp ov tm) (hsz : args.length = ps.size) (hps : ps.toList.all (dOk · N) = true) (ho : setO ov ps.toList args = ov') (hwl : l ∈ wr)
  (g : Go P (fun i => i ∈ wr ∨ h.n ≤ i) true N [.code as] .normal ov' [] h (AsQ P (fun i => i ∈ wr ∨ h.n ≤ i) l bo (BoQ l Q))) : YieldS P wr l args h Q := by
 subst ho
 obtain ⟨r1, n1⟩ := setPs_rp ps.toList args ov tm hps htm hr
 obtain ⟨x, tm₁, df₁, h₁, ra, la, hx, pe', tmL', ps', as', bo', df', hl₁, x', tm₂, df₂, h₂, rb, jump, st₂, pe₂, tm₃, ps₂, as₂, bo₂, df₃, hj, hl₂, hq⟩ := (g _ n1 r1).1 rfl
 subst hx
 have key : ∀ (o : Oper) (tmc : List Value) (f : Operand) (xs : Array Operand) (ts : Array TypeId), o.op = .call ⟨.value f, xs, ts⟩ → evalT tmc f = .func (.yield l) #[] #[] → xs.toList.map (evalT tmc) = args → OpRun P Ev (· ∈ wr) o tmc h (.bool jump.isNone) (h₂.put l (some (.loop (if jump.isNone then .ready else .done) jump tm₃ ps₂ as₂ bo₂ df₃))) := fun o tmc f xs ts ho hf hxs => by
  have ra' : Run P (fun i => i ∈ wr ∨ h.n ≤ i) true as ⟨setPs tm ps.toList (xs.toList.map (evalT tmc)), [], h⟩ .normal ⟨tm₁, df₁, h₁⟩ := by rw [hxs]; exact ra
  have hsz' : xs.size = ps.size := by rw [← hsz, ← hxs]; simp
  have := OpRun.yield ho hf hl hsz' ra' hl₁ rb hl₂ hj (.inl hwl)
  exact this.old.weak fun i ⟨a, b⟩ => a.resolve_right (by omega)
 refine ⟨_, _, ⟨?_, key⟩, hq⟩
 have a1 : AFr (fun i => i ∈ wr ∨ h.n ≤ i) h₁ (h₁.put l (some (.loop .busy pe' tmL' ps' as' bo' df'))) := .putOther _ (.inl hwl) hl₁ rfl
 have a2 : AFr (fun i => i ∈ wr ∨ h.n ≤ i) h₂ (h₂.put l (some (.loop (if jump.isNone then .ready else .done) jump tm₃ ps₂ as₂ bo₂ df₃))) := .putOther _ (.inl hwl) hl₂ rfl
 have af := ra.fr.trans (a1.trans (rb.fr.trans a2))
 exact ⟨af.n, fun i hi hn => af.get i hi fun hw => hw.elim hn (by omega), af.typ, af.alive, af.live, af.roT⟩
theorem YieldS.of' {wr : List Nat} {l d : Nat} {pe : Option Code} {tm : List Value} {ps ps₀ : Array Tmp} {as bo as₀ bo₀ : Code} {args : List Value} {Q : Bool → AHeap → Prop} {ov' : Ov} (hl : h.get l = some (.loop .ready pe tm ps as bo d)) (htm : tm.length = N) (hr : Rp ov tm) (eps : ps = ps₀) (eas : as = as₀) (ebo : bo = bo₀) (hsz : args.length = ps₀.size) (hps : ps₀.toList.all (dOk · N) = true) (ho : setO ov ps₀.toList args = ov') (hwl : l ∈ wr)
  (g : Go P (fun i => i ∈ wr ∨ h.n ≤ i) true N [.code as₀] .normal ov' [] h (AsQ P (fun i => i ∈ wr ∨ h.n ≤ i) l bo₀ (BoQ l Q))) : YieldS P wr l args h Q := by
 subst eps eas ebo
 exact YieldS.of hl htm hr hsz hps ho hwl g
theorem Go.body {l : Nat} {bo : Code} {pe' : Option Code} {tmL' : List Value} {ps' : Array Tmp} {as' bo' : Code} {df' : Nat} {Q : PQ} (hl : h.get l = some (.loop .ready pe' tmL' ps' as' bo' df')) (g : Go P W true N [.code bo] .normal ov df (h.put l (some (.loop .busy pe' tmL' ps' as' bo' df'))) Q) : Go P W q N [] .normal ov df h (AsQ P W l bo Q) := fun tm hN hr => by
 obtain ⟨x', tm', d', h', r, _, hq⟩ := (g tm hN hr).1 rfl
 exact ⟨rfl, _, _, _, _, _, _, hl, x', tm', d', h', r, hq⟩
theorem Go.roundEnd {l : Nat} {Q : Bool → AHeap → Prop} {jump : Option Code} {st₂ : LoopState} {pe₂ : Option Code} {tm₂ : List Value} {ps₂ : Array Tmp} {as₂ bo₂ : Code} {df₂ : Nat} (hj : jumpOf x = some jump) (hl : h.get l = some (.loop st₂ pe₂ tm₂ ps₂ as₂ bo₂ df₂)) (hq : Q jump.isNone (h.put l (some (.loop (if jump.isNone then .ready else .done) jump tm₂ ps₂ as₂ bo₂ df₂)))) : Go P W q N [] x ov df h (BoQ l Q) := fun tm hN hr => ⟨jump, _, _, _, _, _, _, _, hj, hl, hq⟩
theorem Go.rangeFunc {g : Operand} {ps : Array Tmp} {as bo : Code} {f : FuncId} {first cap : Array Value} {wr : List Nat} (hg : evO ov g = some (.func (.func f) first cap)) (hk : okOpd P g = true) (hc : calls P f = true)
  (K : ∀ tm : List Value, tm.length = N → Rp ov tm → CallS P wr f (first.toList ++ [.func (.yield (h.n + 1)) #[] #[]] ++ cap.toList) ((h.push (.deferred true)).push (.loop .ready none tm ps as bo h.n)) fun v h₂ => Keeps wr ((h.push (.deferred true)).push (.loop .ready none tm ps as bo h.n)) h₂ → (∀ i ∈ wr, W i) ∧ W (h.n + 1) ∧ ∃ st pe tm' ps' as' bo' df' x, h₂.get (h.n + 1) = some (.loop st pe tm' ps' as' bo' df') ∧ (st == .busy) = false ∧ exitOf pe = some x ∧ Go P W false N k x ov (h.n :: df) (h₂.put (h.n + 1) (some (.loop .exhausted pe tm' ps' as' bo' df'))) Q) : Go P W false N (.code (.rangeFunc g ps as bo) :: k) .normal ov df h Q := Go.code fun tm hN hr => by
 obtain ⟨v, h₂, hcr, hq⟩ := K tm hN hr
 obtain ⟨w1, w2, st, pe, tm', ps', as', bo', df', x, e1, e2, e3, e4⟩ := hq ⟨hcr.fr.n, fun i hi hn => hcr.fr.get i hi hn⟩
 obtain ⟨fn, h1, h2, h3⟩ := calls_spec hc
 have e : (first.toList ++ [Value.func (Fn.yield (h.n + 1)) #[] #[]] ++ cap.toList).toArray = first ++ #[Value.func (Fn.yield (h.n + 1)) #[] #[]] ++ cap := by
  apply Array.toList_inj.1
  simp
 rw [e] at hcr
 have run := Run.rangeFunc (s := ⟨tm, df, h⟩) (ps := ps) (assign := as) (body := bo) hk (evO_eq hr hg) h1 h2 h3 (hcr.weak w1) e1 e2 e3 w2
 exact ⟨x, tm, h.n :: df, _, run, rfl, e4 tm hN hr⟩
theorem Go.rangeFunc' {g : Operand} {ps : Array Tmp} {as bo : Code} {f : FuncId} {first cap : Array Value} {wr : List Nat} (hg : evO ov g = some (.func (.func f) first cap)) (hk : okOpd P g = true) (hc : calls P f = true)
  (K : ∀ (tm : List Value) (ps' : Array Tmp) (as' bo' : Code) (H : AHeap), ps' = ps → as' = as → bo' = bo → H = ((h.push (.deferred true)).push (.loop .ready none tm ps' as' bo' h.n)) → tm.length = N → Rp ov tm → CallS P wr f (first.toList ++ [.func (.yield (h.n + 1)) #[] #[]] ++ cap.toList) H fun v h₂ => Keeps wr H h₂ → (∀ i ∈ wr, W i) ∧ W (h.n + 1) ∧ ∃ st pe tm' ps' as' bo' df' x, h₂.get (h.n + 1) = some (.loop st pe tm' ps' as' bo' df') ∧ (st == .busy) = false ∧ exitOf pe = some x ∧ Go P W false N k x ov (h.n :: df) (h₂.put (h.n + 1) (some (.loop .exhausted pe tm' ps' as' bo' df'))) Q) : Go P W false N (.code (.rangeFunc g ps as bo) :: k) .normal ov df h Q :=
 Go.rangeFunc hg hk hc fun tm hN hr => K tm _ _ _ _ rfl rfl rfl rfl hN hr
theorem GoR.yield {ops : Array Oper} {os : List Oper} {o : Oper} {d : Nat} {f : Operand} {xs : Array Operand} {ts : Array TypeId} {l : Nat} {us : List Value} {wr : List Nat} (ho : o.op = .call ⟨.value f, xs, ts⟩) (hd : o.dst = some d) (hN : dOk d N = true) (hgd : o.guard = none) (hf : evO ov f = some (.func (.yield l) #[] #[])) (hx : evOs ov xs.toList = some us)
  (hk : YieldS P wr l us h fun c h' => Keeps wr h h' → (∀ i ∈ wr, W i) ∧ GoR P W q N ops true os k ((d, .bool c) :: ov) df h' Q) : GoR P W q N ops true (o :: os) k ov df h Q := by
 obtain ⟨c, h', hr, hg⟩ := hk
 have kp : Keeps wr h h' := ⟨hr.1.n, fun i hi hn => hr.1.get i hi hn⟩
 refine GoR.step (r := ⟨.bool c, h', [], wr, true, false⟩) hgd hd hN (fun tm hrp => ⟨(fun e => by cases e), fun D W' hall _ hw => ?_⟩) (.inl rfl) (hg kp).1 (hg kp).2
 rw [hall rfl]
 exact (hr.2 o tm f xs ts ho (evO_eq hrp hf) (evOs_eq hrp hx)).weak fun i hi => (hw i hi).2
end
end Go.Proofs.Ytfdglljlenkkbaa
namespace Go.Proofs.Ytfdglljlenkkbaa
class CL (P : Program) (t : TypeId) (e : outParam TypeId) (sz : outParam Nat) : Prop where
 h : ∃ z, P.underlying t = some (.slice e) ∧ zeroT P e = some z ∧ flatB z = true ∧ z.cells.toList.length = sz ∧ z.cells.toList.all Value.oneCell' = true
section
variable {P : Program} {h : AHeap} {o : Oper} {ov : Ov} {W : Nat → Prop} {q : Bool} {N : Nat} {ops : Array Oper} {os : List Oper} {k : List It} {df : List Nat} {Q : PQ}
end
end Go.Proofs.Ytfdglljlenkkbaa
namespace Go.Proofs.Ytfdglljlenkkbaa
theorem Sv.front {h : AHeap} {e : TypeId} {sz : Nat} {a : Option Addr} {m cap : Nat} {cs : List Value} (k : Sv h e sz a m cap cs) {r : Nat} (hr : r ≤ m) : Sv h e sz a r cap (cs.take (r * sz)) := by
 cases k with
 | nil =>
      obtain rfl : r = 0 := by omega
      simpa using Sv.nil
 | mk hg ho hl hc =>
  subst hc
  refine .mk hg ho (by omega) ?_
  rw [List.take_take, Nat.min_eq_left (Nat.mul_le_mul_right _ hr)]
section
variable {P : Program} {h : AHeap} {o : Oper} {ov : Ov} {W : Nat → Prop} {q : Bool} {N : Nat} {ops : Array Oper} {os : List Oper} {k : List It} {df : List Nat} {Q : PQ} {d : Nat} {tr : List (Option LE)}
end
end Go.Proofs.Ytfdglljlenkkbaa
namespace Go.Proofs.Ytfdglljlenkkbaa
def FreeFrom (m : Mp) (a : Nat) : Prop := ∀ i, a ≤ i → m i = none
theorem FreeFrom.fresh {m : Mp} {h h' : AHeap} (k : FreeFrom m h.n) : Fresh m h h' := fun i a b => k i a
theorem FreeFrom.step {m m' : Mp} {W : Nat → Prop} {h h' : AHeap} {w w' : World} (k : FreeFrom m h.n) (hn : h.n ≤ h'.n) (f : Fr m m' W h h' w w') : FreeFrom m' h'.n := fun i a => by rw [f.old i (.inr a)]; exact k i (by omega)
def DRun (P : Program) (W : Nat → Prop) (q : Bool) (c : Code) (s : ASt) (R : Exit → ASt → Prop) : Prop :=
 ∀ (m : Mp) (w : World) (A : Act) (r : Option Nat), (q = false → r = none) → MOk P m → FreeFrom m s.h.n → SRel P m s A w → c.wpIn (WF r) 0 P (fun x' A' w' => ∃ s', R x' s' ∧ AFr W s.h s'.h ∧ ∃ m', Fr m m' W s.h s'.h w w' ∧ SRel P m' s' A' w') A w
section
variable {P : Program} {W : Nat → Prop} {q : Bool} {c c₁ c₂ : Code} {s s₁ s₂ s' : ASt} {x : Exit} {R R' : Exit → ASt → Prop}
theorem DRun.mono (k : DRun P W q c s R) (h : ∀ x s', R x s' → R' x s') : DRun P W q c s R' := fun m w A r hq hm hf hs => wpIn_mono (k m w A r hq hm hf hs) fun e a' w' ⟨s', h1, h2⟩ => ⟨s', h _ _ h1, h2⟩
theorem DRun.of_run (k : Run P W q c s x s') (hR : R x s') : DRun P W q c s R := fun m w A r hq hm hf hs => wpIn_mono (k.run m w A r hq hm hf.fresh hs) fun e a' w' ⟨he, m', f, sr⟩ => ⟨s', by rw [he]; exact hR, k.fr, m', f, sr⟩
theorem DRun.seq {R₁ : Exit → ASt → Prop} (h1 : DRun P W q c₁ s R₁) (h2 : ∀ s₁, R₁ .normal s₁ → DRun P W q c₂ s₁ R) (h3 : ∀ x s₁, x ≠ .normal → R₁ x s₁ → R x s₁) : DRun P W q (.seq c₁ c₂) s R := by
 refine fun m w A r hq hm hf hs => wpIn_seq (wpIn_mono (h1 m w A r hq hm hf hs) ?_)
 rintro e a₁ w₁ ⟨s₁, r₁, af1, m₁, f1, hs1⟩
 cases e with
 | normal =>
  refine wpIn_mono (h2 s₁ r₁ m₁ w₁ a₁ r hq (hm.mono (f1.le hf.fresh)) (hf.step af1.n f1) hs1) ?_
  rintro e a₂ w₂ ⟨s₂, r₂, af2, m₂, f2, hs2⟩
  exact ⟨s₂, r₂, af1.trans af2, m₂, Fr.trans af1 af2.n f1 f2, hs2⟩
 | _ => exact ⟨s₁, h3 _ _ (by simp) r₁, af1, m₁, f1, hs1⟩
theorem DRun.cond {o : Operand} {b : Bool} (he : evalT s.tm o = .bool b) (h1 : DRun P W q (if b then c₁ else c₂) s R) : DRun P W q (.cond o c₁ c₂) s R := fun m w A r hq hm hf hs => wpIn_cond (hs.tm.eval hm he) (h1 m w A r hq hm hf hs)
theorem DRun.block {id : Nat} (h1 : DRun P W q c s fun x s' => R (Exit.leave id x) s') : DRun P W q (.block id c) s R := by
 refine fun m w A r hq hm hf hs => wpIn_block (wpIn_mono (h1 m w A r hq hm hf hs) ?_)
 rintro e a₁ w₁ ⟨s₁, r₁, h⟩
 cases e with
 | exit i =>
  simp only [Exit.inBlock]
  simp only [Exit.leave] at r₁
  split
  ·
   rename_i hi
   rw [if_pos hi] at r₁
   exact ⟨s₁, r₁, h⟩
  ·
   rename_i hi
   rw [if_neg hi] at r₁
   exact ⟨s₁, r₁, h⟩
 | _ => exact ⟨s₁, r₁, h⟩
theorem DRun.loop {I : Nat → ASt → Prop} (body : ∀ k s, I k s → DRun P W q c s fun x s' => (x = .normal ∧ ∃ k', k' < k ∧ I k' s') ∨ (x ≠ .normal ∧ R x s')) {k₀ : Nat} (hI : I k₀ s) : DRun P W q (.loop c) s R := by
 have main : ∀ (n k : Nat) (s : ASt), k < n → I k s → ∀ (m : Mp) (w : World) (A : Act) (r : Option Nat), (q = false → r = none) → MOk P m → FreeFrom m s.h.n → SRel P m s A w → ∀ (b : Frame) (k : List Item) (cs : List Frame), b.roundOf = r → ∃ e a' w', (∃ s', R e s' ∧ AFr W s.h s'.h ∧ ∃ m', Fr m m' W s.h s'.h w w' ∧ SRel P m' s' a' w') ∧ ArrivesIn (Machine.fenced P (WF r)) P (lone (b.atR A (.code c :: .inLoop c :: k)) cs w) b k cs e a' w' := by
  intro n
  induction n with
  | zero => intro k s h; omega
  | succ n ih =>
   intro k₁ s hn hI m w A r hq hm hf hs b k cs hb
   obtain ⟨e, a₁, w₁, ⟨s₁, r₁, af1, m₁, f1, hs1⟩, harr⟩ := body k₁ s hI m w A r hq hm hf hs b (.inLoop c :: k) cs hb trivial (WF.room _ _)
   rcases r₁ with ⟨he, k₂, hms, hI1⟩ | ⟨he, hR⟩
   ·
    subst he
    obtain ⟨e₂, a₂, w₂, ⟨s₂, r₂, af2, m₂, f2, hs2⟩, harr₂⟩ := ih k₂ s₁ (by omega) hI1 m₁ w₁ a₁ r hq (hm.mono (f1.le hf.fresh)) (hf.step af1.n f1) hs1 b k cs hb
    exact ⟨e₂, a₂, w₂, ⟨s₂, r₂, af1.trans af2, m₂, Fr.trans af1 af2.n f1 f2, hs2⟩, .of_steps (StepsIn.trans harr (.one (fenced_calm (F := WF r) (n := 0) trivial (WF.room _ _) rfl) stepR_inLoop)) harr₂⟩
   · exact ⟨e, a₁, w₁, ⟨s₁, hR, af1, m₁, f1, hs1⟩, .pass (x := .inLoop c) rfl (fun _ _ => .inl he) harr⟩
 intro m w A r hq hm hf hs b k cs hb h1 h2
 obtain ⟨e, a', w', hq, harr⟩ := main _ _ s (Nat.lt_succ_self _) hI m w A r hq hm hf hs b k cs hb
 exact ⟨e, a', w', hq, .of_steps (.one (fenced_calm (F := WF r) h1 h2 rfl) stepR_loop) harr⟩
end
def OpD (P : Program) (W : Nat → Prop) (o : Oper) (tm : List Value) (h : AHeap) (R : Value → AHeap → Prop) : Prop :=
 ∀ (m : Mp) (w : World) (A : Act) (r : Option Nat), MOk P m → FreeFrom m h.n → (∀ x ∈ o.op.operands, VRel m (evalT tm x) (A.eval x)) → HRel P m Ev h w →
  ∀ (K : Act → World → Prop) (Q : Exit → Act → World → Prop), (∀ v h' v' w' m', R v h' → AFr W h h' → Fr m m' W h h' w w' → VRel m' v v' → HRel P m' Ev h' w' → K (A.put o.dst v') w') → o.wpIn (WF r) 0 P A w K Q
theorem OpD.of_run {P : Program} {W : Nat → Prop} {o : Oper} {tm : List Value} {h h' : AHeap} {v : Value} {R : Value → AHeap → Prop} (k : OpRun P Ev W o tm h v h') (hR : R v h') : OpD P W o tm h R := fun m w A r hm hf hx H K Q hK => k.run m w A r hm hf.fresh hx H K Q fun v' w' m' f x y => hK v h' v' w' m' hR k.fr f x y
def OpsD (P : Program) (W : Nat → Prop) (ops : Array Oper) : List Nat → List Value → AHeap → (List Value → AHeap → Prop) → Prop
 | [], tm, h, R => R tm h
 | i :: is, tm, h, R => ∃ o, ops[i]? = some o ∧ ((Region.wanted o (yielded ops tm.toArray) = false ∧ OpsD P W ops is (putT tm o.dst undef) h R) ∨ (Region.wanted o (yielded ops tm.toArray) = true ∧ ∃ R₁, OpD P W o tm h R₁ ∧ ∀ v h', R₁ v h' → OpsD P W ops is (putT tm o.dst v) h' R))
theorem OpsD.run {P : Program} {W : Nat → Prop} {ops : Array Oper} (hk : opsOk P ops = true) {r : Option Nat} {R : List Value → AHeap → Prop} : ∀ (is : List Nat) (tm : List Value) (h : AHeap), OpsD P W ops is tm h R → ∀ (m : Mp) (A : Act) (w : World), MOk P m → FreeFrom m h.n → ARel m tm.toArray A.tmps → HRel P m Ev h w →
  ∀ Q : Exit → Act → World → Prop, (∀ tm' h' m' A' w', R tm' h' → AFr W h h' → Fr m m' W h h' w w' → ARel m' tm'.toArray A'.tmps → A'.defers = A.defers → HRel P m' Ev h' w' → Q .normal A' w') → wpOpsIn (WF r) 0 P ops Q is A w
 | [], tm, h, k => fun m A w hm hf ht hh Q hQ => hQ tm h m A w k (.refl _ _) (.refl _ _ _ _) ht rfl hh
 | i :: is, tm, h, k => fun m A w hm hf ht hh Q hQ => by
  obtain ⟨o, ho, k⟩ := k
  rw [wpOpsIn_cons]
  unfold wpOpIn
  have hlen : A.tmps.size = tm.length := by have := ht.1; simpa using this.symm
  rcases k with ⟨hw, k⟩ | ⟨hw, R₁, k1, k2⟩
  ·
   have hw' : Region.wanted o (yielded ops A.tmps) = false := by
    rw [← hw]; unfold Region.wanted
    cases o.guard with
    | none => rfl
    | some gw => simp only; rw [yielded_rel (m := m) hlen gw.1 fun d _ => by simpa using ht.getD d]
   simp only [ho, hw', Bool.false_eq_true, if_false]
   refine ⟨fun _ _ => trivial, OpsD.run hk is _ h k m _ w hm hf (putT_rel ht (.tuple rfl fun i v v' e => by simp at e)) hh Q fun tm' h' m' A' w' hr af f a d b => hQ tm' h' m' A' w' hr af f a ?_ b⟩
   rw [d]; cases o.dst <;> rfl
  ·
   have hw' : Region.wanted o (yielded ops A.tmps) = true := by
    rw [← hw]; unfold Region.wanted
    cases o.guard with
    | none => rfl
    | some gw => simp only; rw [yielded_rel (m := m) hlen gw.1 fun d _ => by simpa using ht.getD d]
   simp only [ho, hw', if_true]
   refine k1 m w A r hm hf (fun x hx => opd_rel hm ?_ fun t _ => by simpa using ht.getD t) hh _ _ fun v h' v' w' m' hr1 af1 f hv hh' => ?_
   · exact List.all_eq_true.1 (List.all_eq_true.1 hk o (by simpa using Array.mem_of_getElem? ho)) x (by simpa using hx)
   ·
    refine OpsD.run hk is _ h' (k2 v h' hr1) m' _ w' (hm.mono (f.le hf.fresh)) (hf.step af1.n f) (putT_rel (ht.mono (f.le hf.fresh)) hv) hh' Q fun tm'' h'' m'' A' w'' hr af f' a d b => hQ tm'' h'' m'' A' w'' hr (af1.trans af) (Fr.trans af1 af.n f f') a ?_ b
    rw [d]; cases o.dst <;> rfl
theorem DRun.region {P : Program} {W : Nat → Prop} {q : Bool} {id : Nat} {ops : Array Oper} {s : ASt} {R : Exit → ASt → Prop} (hk : opsOk P ops = true) (k : OpsD P W ops (List.range ops.size) s.tm s.h fun tm' h' => R .normal ⟨tm', s.df, h'⟩) : DRun P W q (.region id ops false) s R :=
 fun m w A r _ hm hf hs => wpIn_region (OpsD.run hk _ _ _ k m A w hm hf hs.tm hs.h _ fun tm' h' m' A' w' hr af f a d b => ⟨⟨tm', s.df, h'⟩, hr, af, m', f, ⟨a, by rw [d]; exact hs.df.mono (f.le hf.fresh), b⟩⟩)
theorem ERel.at {m : Mp} {es es' : Array MapEntry} (k : ERel m es es') {e' : MapEntry} (he : e' ∈ es'.toList) : ∃ e ∈ es.toList, VRel m e.key e'.key ∧ VRel m e.val e'.val ∧ e.born = e'.born := by
 obtain ⟨j, hj, rfl⟩ := List.getElem_of_mem he
 have hj' : j < es'.size := by simpa using hj
 have hj2 : j < es.size := by rw [k.1]; exact hj'
 refine ⟨es[j], by simp, ?_⟩
 have := k.2 j es[j] es'[j] (by simp [hj2]) (by simp [hj'])
 simpa using this
theorem ERel.at' {m : Mp} {es es' : Array MapEntry} (k : ERel m es es') {e : MapEntry} (he : e ∈ es.toList) : ∃ e' ∈ es'.toList, VRel m e.key e'.key ∧ VRel m e.val e'.val ∧ e.born = e'.born := by
 obtain ⟨j, hj, rfl⟩ := List.getElem_of_mem he
 have hj' : j < es.size := by simpa using hj
 have hj2 : j < es'.size := by rw [← k.1]; exact hj'
 refine ⟨es'[j], by simp, ?_⟩
 have := k.2 j es[j] es'[j] (by simp [hj']) (by simp [hj2])
 simpa using this
def NextR (h : AHeap) (i r c : Nat) (seen : List Nat) (es : Array MapEntry) (v : Value) (h' : AHeap) : Prop :=
 ((∀ e ∈ es.toList, e.born ∈ seen) ∧ v = .tuple #[.bool false] ∧ h' = h) ∨ ∃ e ∈ es.toList, e.born ∉ seen ∧ v = .tuple #[.bool true, e.key, e.val] ∧ h' = h.put i (some (.mit (some r) c (seen ++ [e.born])))
theorem OpD.next {P : Program} {W : Nat → Prop} {o : Oper} {tm : List Value} {h : AHeap} {x : Operand} {i r c : Nat} {seen : List Nat} {es : Array MapEntry} (ho : o.op = .next x false) (hx : evalT tm x = .pointer (some ⟨i, 0, none⟩)) (hi : h.get i = some (.mit (some r) c seen)) (hr : h.get r = some (.map es c)) (hb : ∀ e ∈ es.toList, e.born < c) (hW : W i) : OpD P W o tm h (NextR h i r c seen es) := fun m w A r' hm hf hxs H K Q hK => by
 have h1 := hxs x (by simp [ho, Op.operands])
 rw [hx] at h1
 generalize hy : A.eval x = x' at h1
 cases h1 with
 | @ptr _ _ l hl =>
 obtain ⟨o', a1, a2⟩ := H.obj i l _ trivial hl hi
 cases a2 with
 | @mit _ _ lr _ hs hlr =>
 obtain ⟨o2, b1, b2⟩ := H.obj r lr _ trivial hlr hr
 cases b2 with
 | @map _ es' _ er =>
 have hold : ∀ x ∈ es'.toList, x.born < c := fun e' he' => by
  obtain ⟨e, h1, -, -, h4⟩ := er.at he'
  have := hb e h1; omega
 have ad : (⟨l.b, 0 + l.sh, none⟩ : Addr) = ⟨l.b, 0, none⟩ := by rw [hs]
 rw [ad] at hy
 have hd : ∀ c, o.op ≠ .defer c := by simp [ho]
 rcases run_next_at w o.type l.b lr.b c c seen.toArray es' c a1 b1 hold (Nat.le_refl _) (P := P) with ⟨h0, hrun⟩ | ⟨e', he', w1, hw1, hrun⟩
 ·
  refine wpIn_value hd (v := .tuple #[.bool false]) (w' := w) ?_ (hK _ h _ w m (.inl ⟨fun e he => ?_, rfl, rfl⟩) (.refl _ _) (.refl _ _ _ _) (VRel.flat _ rfl) H)
  ·
   simp [execOp, ho, hy, hrun, Sem.run_bind, Result.andThen]
   try rfl
  ·
   obtain ⟨e', he', -, -, hbb⟩ := er.at' he
   have : e' ∉ (leftOf es' seen.toArray).toList := by
    rw [Array.eq_empty_of_size_eq_zero h0]; simp
   simp only [leftOf, Array.toList_filter, List.mem_filter, he', true_and, Bool.not_eq_true'] at this
   have : seen.toArray.contains e'.born = true := by simpa using this
   rw [hbb]; simpa using this
 ·
  simp only [leftOf, Array.toList_filter, List.mem_filter, Bool.not_eq_true'] at he'
  obtain ⟨e, he, hk, hv, hbb⟩ := er.at he'.1
  have hni : e.born ∉ seen := by rw [hbb]; simpa using he'.2
  have hou : (AObj.mit (some r) c (seen ++ [e.born])).other = true := rfl
  have Fd : Fr m m W h h w w1 := by
   rcases hw1 with rfl | rfl
   · exact .refl _ _ _ _
   · exact Fr.drew m W h w _
  have H1 : HRel P m Ev h w1 := by
   rcases hw1 with rfl | rfl
   · exact H
   · exact H.world rfl
  have hob : ORel P m l (.mit (some r) c (seen ++ [e.born])) (.mapIter (some lr.b) c (seen.toArray.push e'.born) c) := by
   have := ORel.mit (P := P) (m := m) (l := l) (r := r) (k := c) (lr := lr) (seen := seen ++ [e.born]) hs hlr
   rw [hbb] at this ⊢
   simpa using this
  refine wpIn_value hd (v := .tuple #[.bool true, e'.key, e'.val]) (w' := ChangeMaps.setBlock w1 l.b (.mapIter (some lr.b) c (seen.toArray.push e'.born) c)) ?_ (hK (.tuple #[.bool true, e.key, e.val]) (h.put i (some (.mit (some r) c (seen ++ [e.born])))) _ _ m (.inr ⟨e, he, hni, rfl, rfl⟩) (AFr.putOther h hW hi hou) ?_ ?_ ?_)
  ·
   simp [execOp, ho, hy, hrun, Sem.run_bind, Result.andThen]
   try rfl
  · exact Fr.trans (AFr.refl W h) (by simp) Fd (Fr.putOther hW hl hi _ _)
  ·
   refine .tuple rfl fun j u u' e1 e2 => ?_
   match j, e1, e2 with
   | 0, e1, e2 => simp at e1 e2; subst e1 e2; exact .bool _
   | 1, e1, e2 => simp at e1 e2; subst e1 e2; exact hk
   | 2, e1, e2 => simp at e1 e2; subst e1 e2; exact hv
   | j + 3, e1, e2 => simp at e1
  · exact H1.putOther hl hi hou hob
end Go.Proofs.Ytfdglljlenkkbaa
namespace Go.Proofs.Ytfdglljlenkkbaa
def GxD (P : Program) (W : Nat → Prop) (q : Bool) : List It → Exit → List Value → List Nat → AHeap → PQ → Prop
 | [], x, tm, df, h, Q => Q x tm df h
 | .leave id :: k, x, tm, df, h, Q => GxD P W q k (Exit.leave id x) tm df h Q
 | .sc :: k, x, tm, df, h, Q => (∀ l, x ≠ .goto l) ∧ GxD P W q k x tm df h Q
 | .back R :: k, x, tm, df, h, Q => (x = .normal → R tm df h) ∧ (x ≠ .normal → GxD P W q k x tm df h Q)
 | .soft _ :: k, x, tm, df, h, Q => GxD P W q k x tm df h Q
 | .code c :: k, x, tm, df, h, Q => (x = .normal → DRun P W q c ⟨tm, df, h⟩ fun x' s' => s'.tm.length = tm.length ∧ GxD P W q k x' s'.tm s'.df s'.h Q) ∧ (x ≠ .normal → GxD P W q k x tm df h Q)
def GoD (P : Program) (W : Nat → Prop) (q : Bool) (n : Nat) (k : List It) (x : Exit) (ov : Ov) (df : List Nat) (h : AHeap) (Q : PQ) : Prop :=
 ∀ tm : List Value, tm.length = n → Rp ov tm → GxD P W q k x tm df h Q
def SegQ (P : Program) (W : Nat → Prop) (q : Bool) (k : List It) (Q : PQ) : PQ := fun x tm df h => GxD P W q k x tm df h Q
section
variable {P : Program} {W : Nat → Prop} {q : Bool} {n : Nat} {k : List It} {x : Exit} {ov : Ov} {df : List Nat} {h : AHeap} {Q : PQ}
theorem GoD.name (g : ∀ h', h' = h → GoD P W q n k x ov df h' Q) : GoD P W q n k x ov df h Q := g h rfl
theorem GoD.skip_code {c : Code} (hx : x ≠ .normal) (g : GoD P W q n k x ov df h Q) : GoD P W q n (.code c :: k) x ov df h Q := fun tm hN hr => ⟨fun e => absurd e hx, fun _ => g tm hN hr⟩
theorem GoD.leave {id : Nat} (g : GoD P W q n k (Exit.leave id x) ov df h Q) : GoD P W q n (.leave id :: k) x ov df h Q := g
theorem GoD.seq {a b : Code} (g : GoD P W q n (.code a :: .code b :: k) .normal ov df h Q) : GoD P W q n (.code (.seq a b) :: k) .normal ov df h Q := fun tm hN hr => by
 refine ⟨fun _ => ?_, fun e => absurd rfl e⟩
 refine DRun.seq ((g tm hN hr).1 rfl) (fun s₁ ⟨n1, g1⟩ => (g1.1 rfl).mono fun x s' ⟨n2, g2⟩ => ⟨n2.trans n1, g2⟩) fun x s₁ hx ⟨n1, g1⟩ => ⟨n1, g1.2 hx⟩
theorem GoD.block {id : Nat} {c : Code} (g : GoD P W q n (.code c :: .leave id :: k) .normal ov df h Q) : GoD P W q n (.code (.block id c) :: k) .normal ov df h Q := fun tm hN hr => ⟨fun _ => DRun.block (((g tm hN hr).1 rfl).mono fun x s' ⟨n1, g1⟩ => ⟨n1, g1⟩), fun e => absurd rfl e⟩
theorem Gx.drun {c : Code} {tm : List Value} (g : Gx P W q [.code c] .normal tm df h (SegQ P W q k Q)) : GxD P W q (.code c :: k) .normal tm df h Q := by
 obtain ⟨x', tm', df', h', r, hl, g'⟩ := g.1 rfl
 exact ⟨fun _ => DRun.of_run r ⟨hl, g'⟩, fun e => absurd rfl e⟩
theorem GoD.seg {c : Code} (g : Go P W q n [.code c] .normal ov df h (SegQ P W q k Q)) : GoD P W q n (.code c :: k) .normal ov df h Q := fun tm hN hr => Gx.drun (g tm hN hr)
theorem GoD.back (g : GoD P W q n k x ov df h Q) : Go P W q n [] x ov df h (SegQ P W q k Q) := fun tm hN hr => g tm hN hr
theorem GoD.loop {α : Type} (fr : α → Ov) (dfs : α → List Nat) (hp : α → AHeap) (I : α → Prop) (ms : α → Nat) (a₀ : α) {c : Code}
  (h0 : I a₀) (hs : Ov.sub ov (fr a₀)) (hd : df = dfs a₀) (hh : h = hp a₀)
  (round : ∀ a, I a → GoD P W q n (.code c :: .back (Round fr dfs hp I ms (ms a)) :: k) .normal (fr a) (dfs a) (hp a) Q) : GoD P W q n (.code (.loop c) :: k) .normal ov df h Q := fun tm hN hr => by
 refine ⟨fun _ => ?_, fun e => absurd rfl e⟩
 subst hd hh
 refine DRun.loop (I := fun j s => ∃ a, I a ∧ ms a = j ∧ s.tm.length = n ∧ Rp (fr a) s.tm ∧ s.df = dfs a ∧ s.h = hp a) (k₀ := ms a₀) ?_ ⟨a₀, h0, rfl, hN, hr.sub hs, rfl, rfl⟩
 rintro j ⟨tm1, df1, h1⟩ ⟨a, ha, rfl, hl, hrp, e1, e2⟩
 simp only at hl hrp e1 e2
 subst e1 e2
 refine ((round a ha tm1 hl hrp).1 rfl).mono fun x' s' ⟨n1, g1⟩ => ?_
 by_cases hx : x' = .normal
 ·
  obtain ⟨b, hb, hm, hrb, f1, f2⟩ := g1.1 hx
  exact .inl ⟨hx, ms b, hm, b, hb, rfl, n1.trans hl, hrb, f1, f2⟩
 · exact .inr ⟨hx, (n1.trans hl).trans hN.symm, g1.2 hx⟩
theorem GoD.again {α : Type} {fr : α → Ov} {dfs : α → List Nat} {hp : α → AHeap} {I : α → Prop} {ms : α → Nat} {j : Nat} (a : α) (ha : I a) (hm : ms a < j) (hs : Ov.sub ov (fr a)) (hd : df = dfs a) (hh : h = hp a) : GoD P W q n (.back (Round fr dfs hp I ms j) :: k) .normal ov df h Q := fun tm hN hr => ⟨fun _ => ⟨a, ha, hm, hr.sub hs, hd, hh⟩, fun e => absurd rfl e⟩
theorem range2 : List.range 2 = [0, 1] := rfl
theorem GoD.next {id : Nat} {o1 o2 : Oper} {d1 d2 : Tmp} {xo : Operand} {i r c : Nat} {seen : List Nat} {es : Array MapEntry} (hk : opsOk P #[o1, o2] = true) (h1 : o1.op = .next xo false) (hd1 : o1.dst = some d1) (hN1 : dOk d1 n = true) (hg1 : o1.guard = none) (h2 : o2.op = .extract (.tmp d1) 0) (hd2 : o2.dst = some d2) (hN2 : dOk d2 n = true) (hg2 : o2.guard = none)
  (hx : evO ov xo = some (.pointer (some ⟨i, 0, none⟩))) (hi : h.get i = some (.mit (some r) c seen)) (hr : h.get r = some (.map es c)) (hb : ∀ e ∈ es.toList, e.born < c) (hW : W i)
  (g0 : (∀ e ∈ es.toList, e.born ∈ seen) → GoD P W q n k .normal ((d2, .bool false) :: (d1, .tuple #[.bool false]) :: ov) df h Q)
  (g1 : ∀ e ∈ es.toList, e.born ∉ seen → GoD P W q n k .normal ((d2, .bool true) :: (d1, .tuple #[.bool true, e.key, e.val]) :: ov) df (h.put i (some (.mit (some r) c (seen ++ [e.born])))) Q) :
  GoD P W q n (.code (.region id #[o1, o2] false) :: k) .normal ov df h Q := fun tm hN hrp => by
 refine ⟨fun _ => DRun.region hk ?_, fun e => absurd rfl e⟩
 show OpsD P W #[o1, o2] (List.range 2) tm h _
 rw [range2]
 refine ⟨o1, rfl, .inr ⟨by simp [Region.wanted, hg1], NextR h i r c seen es, OpD.next h1 (evO_eq hrp hx) hi hr hb hW, fun v h' hR => ?_⟩⟩
 have rp1 : Rp ((d1, v) :: ov) (putT tm o1.dst v) := by rw [hd1]; exact hrp.put hN hN1 v
 have l1 : (putT tm o1.dst v).length = n := by rw [putT_len]; exact hN
 rcases hR with ⟨hall, rfl, rfl⟩ | ⟨e, he, hs, rfl, rfl⟩
 ·
  refine ⟨o2, rfl, .inr ⟨by simp [Region.wanted, hg2], fun u h'' => u = .bool false ∧ h'' = h', OpD.of_run (OpRun.extract h2 (v := .bool false) ?_) ⟨rfl, rfl⟩, ?_⟩⟩
  · rw [evO_eq rp1 (x := .tmp d1) (v := .tuple #[.bool false]) (by simp [evO, Ov.find])]; rfl
  ·
   rintro u h'' ⟨rfl, rfl⟩
   refine ⟨?_, ?_⟩
   · rw [putT_len, putT_len]
   · exact g0 hall _ (by rw [putT_len]; exact l1) (by rw [hd2]; exact rp1.put l1 hN2 _)
 ·
  refine ⟨o2, rfl, .inr ⟨by simp [Region.wanted, hg2], fun u h'' => u = .bool true ∧ h'' = h.put i (some (.mit (some r) c (seen ++ [e.born]))), OpD.of_run (OpRun.extract h2 (v := .bool true) ?_) ⟨rfl, rfl⟩, ?_⟩⟩
  · rw [evO_eq rp1 (x := .tmp d1) (v := .tuple #[.bool true, e.key, e.val]) (by simp [evO, Ov.find])]; rfl
  ·
   rintro u h'' ⟨rfl, rfl⟩
   refine ⟨?_, ?_⟩
   · rw [putT_len, putT_len]
   · exact g1 e he hs _ (by rw [putT_len]; exact l1) (by rw [hd2]; exact rp1.put l1 hN2 _)
end
section
variable {P : Program} {W : Nat → Prop} {q : Bool} {N : Nat} {k : List It} {ov : Ov} {df : List Nat} {h : AHeap} {Q : PQ} {ops : Array Oper} {b₀ : Bool} {o : Oper} {os : List Oper} {d : Tmp}
theorem GoR.range {t : TypeId} {x : Operand} {r ck : Nat} {es : Array MapEntry} {kt e : TypeId} (ho : o.op = .range t x) (hd : o.dst = some d) (hN : dOk d N = true) (hgd : o.guard = none) (hx : evO ov x = some (.map (some r))) (hu : P.underlying t = some (.map kt e)) (hr : h.get r = some (.map es ck)) (g : GoR P W q N ops b₀ os k ((d, .pointer (some ⟨h.n, 0, none⟩)) :: ov) df (h.push (.mit (some r) ck [])) Q) : GoR P W q N ops b₀ (o :: os) k ov df h Q :=
 GoR.step (r := ⟨.pointer (some ⟨h.n, 0, none⟩), h.push (.mit (some r) ck []), [r], [], false, false⟩) hgd hd hN (fun tm hr' => .write fun D W' h1 h2 => OpRun.range ho (by rw [evO_eq hr' hx]; simp [aRange, hu, hr]) h1) (.inr rfl) (fun i hi => by cases hi) g
end
end Go.Proofs.Ytfdglljlenkkbaa
namespace Go.Proofs.Ytfdglljlenkkbaa
theorem HRel.fewer {P : Program} {m : Mp} {h H : AHeap} {w : World} (hh : HRel P m Ev h w) (sub : ∀ i o, H.get i = some o → h.get i = some o) : HRel P m Ev H w where
 lt := hh.lt
 typ := fun i l c t a b => hh.typ i l c t a (sub i _ b)
 inj := fun i j l k a b c d e => by
  refine hh.inj i j l k a b (fun q => c ?_) ?_ e
  ·
   cases hc : H.get i with
   | none => rfl
   | some o => rw [sub i o hc] at q; cases q
  ·
   obtain ⟨o, x, y⟩ := d
   exact ⟨o, sub j o x, y⟩
 roS := fun i l c a b => hh.roS i l c a (sub i _ b)
 obj := fun i l o _ a b => hh.obj i l o trivial a (sub i _ b)
theorem CallRun.frame {P : Program} {C : Nat → Prop} {f : FuncId} {args : Array Value} {H h H' h' : AHeap} {v : Value} (k : CallRun P C f args H v H') (n0 : H.n = h.n) (n1 : H'.n = h'.n) (sub : ∀ i o, H.get i = some o → h.get i = some o)
  (e1 : ∀ i, i < h.n → ¬ C i → h'.get i = h.get i) (e2 : ∀ i o, (C i ∨ h.n ≤ i) → h'.get i = some o → H'.get i = some o) : CallRun P C f args h v h' := by
 have hn : h.n ≤ h'.n := by rw [← n0, ← n1]; exact k.fr.n
 have liv : ∀ i, H.live i → h.live i := fun i ⟨o, x, y⟩ => ⟨o, sub i o x, y⟩
 have frm : ∀ i, i < h.n → C i → ∀ o, h'.get i = some o → H'.get i = some o := fun i hi hc o e => e2 i o (.inl hc) e
 refine ⟨⟨hn, e1, fun i c t hi e => ?_, fun i hi e => ?_, fun i hi e => ?_, fun i c hi e => ?_⟩, fun m w args' hm hf ha hh => ?_⟩
 ·
  by_cases hc : C i
  ·
   obtain ⟨c₀, a, b⟩ := k.fr.typ i c t (by omega) (frm i hi hc _ e)
   exact ⟨c₀, sub i _ a, b⟩
  · exact ⟨c, by rw [← e1 i hi hc]; exact e, rfl⟩
 ·
  by_cases hc : C i
  ·
   cases ho : h'.get i with
   | none => exact absurd ho e
   | some o =>
    have := k.fr.alive i (by omega) (by rw [frm i hi hc o ho]; simp)
    cases hq : H.get i with
    | none => exact absurd hq this
    | some o' => rw [sub i o' hq]; simp
  · rw [← e1 i hi hc]; exact e
 ·
  by_cases hc : C i
  ·
   obtain ⟨o, x, y⟩ := e
   exact liv i (k.fr.live i (by omega) ⟨o, frm i hi hc o x, y⟩)
  · exact AHeap.live_eq (e1 i hi hc) e
 ·
  by_cases hc : C i
  · exact sub i _ (k.fr.roT i c (by omega) (frm i hi hc _ e))
  · rw [← e1 i hi hc]; exact e
 refine (k.run m w args' hm (fun i a b => hf i (by omega) (by omega)) ha (hh.fewer sub)).mono ?_
 rintro e w' ⟨v', m', rfl, F, V, R⟩
 have old : ∀ i, (i < h.n ∨ h'.n ≤ i) → m' i = m i := fun i hi => F.old i (by rw [n0, n1]; exact hi)
 have hle : m.le m' := F.le fun i a b => hf i (by omega) (by omega)
 have keep : ∀ i l, i < h.n → ¬ C i → m i = some l → h.get i ≠ none → w'.heap[l.b]? = w.heap[l.b]? := fun i l hi hc a b => by
  refine F.keep l.b (hh.lt i l a) fun j k' hj cj lj mj e => ?_
  obtain rfl := hh.inj i j l k' a mj b (liv j lj) e.symm
  exact hc cj
 have cross : ∀ i j l k', i < h.n → ¬ C i → m i = some l → h.get i ≠ none → h.n ≤ j → j < h'.n → m' j = some k' → l.b = k'.b → False := fun i j l k' hi hc a b hj hj' mj e => by
  rcases F.new j k' (by omega) (by omega) mj with q | ⟨j₀, k₀, h1, c0, l0, m0, e0⟩
  · have := hh.lt i l a; omega
  ·
   obtain rfl := hh.inj i j₀ l k₀ a m0 b (liv j₀ l0) (by rw [e0]; exact e)
   exact hc c0
 have inN : ∀ i, h'.get i ≠ none → i < h'.n := fun i e => by
  cases q : h'.get i with
  | none => exact absurd q e
  | some o => exact AHeap.lt q
 refine ⟨v', m', rfl, ⟨old, fun i l a b c => ?_, fun b hb hk => ?_, F.size, F.os, F.tape, F.output⟩, V, ?_⟩
 ·
  rcases F.new i l (by omega) (by omega) c with q | ⟨j, k', h1, h2, h3, h4, h5⟩
  · exact .inl q
  · exact .inr ⟨j, k', by omega, h2, liv j h3, h4, h5⟩
 · exact F.keep b hb fun j k' hj cj lj mj => hk j k' (by omega) cj (liv j lj) mj
 ·
  refine ⟨R.lt, fun i l c t a b => ?_, fun i j l k' a b c d e => ?_, fun i l c a b => ?_, fun i l o _ a b => ?_⟩
  ·
   by_cases hi : i < h.n ∧ ¬ C i
   ·
    rw [old i (.inl hi.1)] at a
    rw [e1 i hi.1 hi.2] at b
    exact hh.typ i l c t a b
   ·
    refine R.typ i l c t a (e2 i _ ?_ b)
    by_cases hc : C i
    · exact .inl hc
    · exact .inr (Nat.le_of_not_lt fun q => hi ⟨q, hc⟩)
  ·
   have hi' := inN i c
   have hj' := inN j d.ne
   have cls : ∀ i, ¬ (i < h.n ∧ ¬ C i) → C i ∨ h.n ≤ i := fun i hi => by
    by_cases hc : C i
    · exact .inl hc
    · exact .inr (Nat.le_of_not_lt fun q => hi ⟨q, hc⟩)
   have up : ∀ i, ¬ (i < h.n ∧ ¬ C i) → h'.get i ≠ none → H'.get i ≠ none := fun i hi q => by
    cases ho : h'.get i with
    | none => exact absurd ho q
    | some o => rw [e2 i o (cls i hi) ho]; simp
   by_cases hi : i < h.n ∧ ¬ C i
   ·
    rw [old i (.inl hi.1)] at a
    rw [e1 i hi.1 hi.2] at c
    by_cases hj : j < h.n
    ·
     rw [old j (.inl hj)] at b
     refine hh.inj i j l k' a b c ?_ e
     by_cases cj : C j
     ·
      obtain ⟨o, x, y⟩ := d
      exact liv j (k.fr.live j (by omega) ⟨o, frm j hj cj o x, y⟩)
     · exact AHeap.live_eq (e1 j hj cj) d
    · exact (cross i j l k' hi.1 hi.2 a c (by omega) hj' b e).elim
   ·
    by_cases hj : j < h.n ∧ ¬ C j
    ·
     rw [old j (.inl hj.1)] at b
     have dj := AHeap.live_eq (e1 j hj.1 hj.2) d
     by_cases hi2 : i < h.n
     ·
      rw [old i (.inl hi2)] at a
      refine hh.inj i j l k' a b ?_ dj e
      have q := k.fr.alive i (by omega) (up i hi c)
      cases hq : H.get i with
      | none => exact absurd hq q
      | some o' => rw [sub i o' hq]; simp
     · exact (cross j i k' l hj.1 hj.2 b dj.ne (by omega) hi' a e.symm).elim
    ·
     refine R.inj i j l k' a b (up i hi c) ?_ e
     obtain ⟨o, x, y⟩ := d
     exact ⟨o, e2 j o (cls j hj) x, y⟩
  ·
   by_cases hi : i < h.n ∧ ¬ C i
   ·
    rw [old i (.inl hi.1)] at a
    rw [e1 i hi.1 hi.2] at b
    exact hh.roS i l c a b
   ·
    refine R.roS i l c a (e2 i _ ?_ b)
    by_cases hc : C i
    · exact .inl hc
    · exact .inr (Nat.le_of_not_lt fun q => hi ⟨q, hc⟩)
  ·
   by_cases hi : i < h.n ∧ ¬ C i
   ·
    rw [old i (.inl hi.1)] at a
    rw [e1 i hi.1 hi.2] at b
    obtain ⟨o', x, y⟩ := hh.obj i l o trivial a b
    exact ⟨o', by rw [keep i l hi.1 hi.2 a (by rw [b]; simp)]; exact x, y.mono hle⟩
   ·
    refine R.obj i l o trivial a (e2 i _ ?_ b)
    by_cases hc : C i
    · exact .inl hc
    · exact .inr (Nat.le_of_not_lt fun q => hi ⟨q, hc⟩)
end Go.Proofs.Ytfdglljlenkkbaa
namespace Go.Proofs.Ytfdglljlenkkbaa
def cutN (m : Mp) (n : Nat) : Mp := fun i => if i < n then m i else none
theorem cutN_lt {m : Mp} {n i : Nat} (h : i < n) : cutN m n i = m i := if_pos h
theorem cutN_some {m : Mp} {n i : Nat} {l : Loc} (e : cutN m n i = some l) : m i = some l ∧ i < n := by
 unfold cutN at e
 split at e
 · exact ⟨e, by assumption⟩
 · cases e
def CallD (P : Program) (wr : List Nat) (f : FuncId) (args : Array Value) (h : AHeap) (R : Value → AHeap → Prop) : Prop :=
 ∀ (m : Mp) (w : World) (args' : Array Value), MOk P m → FreeFrom m h.n → ARel m args args' → HRel P m Ev h w →
  CallsIn Fence.wide 0 P f args' w fun e w' => ∃ v' v h' m', e = .returned v' ∧ R v h' ∧ h.n ≤ h'.n ∧ Fr m m' (fun i => i ∈ wr ∨ h.n ≤ i) h h' w w' ∧ VRel m' v v' ∧ HRel P m' Ev h' w'
theorem CallD.of_run {P : Program} {wr : List Nat} {f : FuncId} {args : List Value} {h : AHeap} {R : Value → AHeap → Prop} (k : CallS P wr f args h R) : CallD P wr f args.toArray h R := fun m w args' hm hf ha hh => by
 obtain ⟨v, h', k, r⟩ := k
 exact (k.run m w args' hm hf.fresh ha hh).mono fun e w' ⟨v', m', he, F, V, H⟩ => ⟨v', v, h', m', he, r, k.fr.n, F.weak (fun i hi => .inl hi), V, H⟩
def FinD (P : Program) (rs : List ResultVar) (R : Value → AHeap → Prop) : PQ := fun x tm df hf => (x = .normal ∨ x = .ret) ∧ df = [] ∧ ∃ v, aResult P hf tm rs = some v ∧ R v hf
theorem CallD.of {P : Program} {f : FuncId} {fn : Func} {c : Code} {n : Nat} {args : List Value} {rs : List ResultVar} {ov : Ov} {h : AHeap} {wr : List Nat} {R : Value → AHeap → Prop} (hf : P.funcs[f]? = some fn) (hb : fn.body = some c) (hN : fn.ntmps = n) (hrs : fn.results = ⟨rs⟩) (hle : Nat.ble args.length n = true) (ho : ovOf 0 args = ov)
  (g : GoD P (fun i => i ∈ wr ∨ h.n ≤ i) false n [.code c] .normal ov [] h (FinD P rs R)) : CallD P wr f args.toArray h R := by
 subst ho hN
 have hle := Nat.le_of_ble_eq_true hle
 have hrs : fn.results.toList = rs := by rw [hrs]
 subst hrs
 refine fun m w args' hm hfr ha hh => callsIn_of_wp (F := Fence.wide) hf hb trivial ?_
 have hlen : (args ++ List.replicate (fn.ntmps - args.length) undef).length = fn.ntmps := by simp; omega
 have hargs : ARel m (args ++ List.replicate (fn.ntmps - args.length) undef).toArray (args' ++ Array.replicate (fn.ntmps - args'.size) undef) := by
  have e : (args ++ List.replicate (fn.ntmps - args.length) undef).toArray = args.toArray ++ Array.replicate (fn.ntmps - args'.size) undef := by
   rw [← ha.1]
   apply Array.toList_inj.1
   simp
  rw [e]
  refine ha.append ⟨rfl, fun i u u' e e' => ?_⟩
  rw [e] at e'; cases e'
  have := Array.mem_of_getElem? e
  rw [Array.mem_replicate] at this
  rw [this.2]
  exact .tuple rfl fun i v v' e => by simp at e
 have d := (g (args ++ List.replicate (fn.ntmps - args.length) undef) hlen (ovOf_rp args 0 _ fun j hj => by
  simp only [Nat.zero_add, List.getD_eq_getElem?_getD]
  rw [List.getElem?_append_left hj])).1 rfl
 refine wpIn_mono (d m w ⟨_, []⟩ none (fun _ => rfl) hm hfr ⟨hargs, ⟨rfl, fun i j d e => by simp at e⟩, hh⟩) ?_
 rintro ex A' w' ⟨s', ⟨_, hx, hdf, v, hv, hR⟩, af, m₁, F, hs⟩
 have hdd : A'.defers = [] := by
  have := hs.df.1
  rw [hdf] at this
  exact List.eq_nil_of_length_eq_zero (by simpa using this.symm)
 obtain ⟨v', h1, h2⟩ := aResult_run hs.tm hs.h hv
 rcases hx with rfl | rfl
 · exact ⟨hdd, v', h1, v', v, s'.h, m₁, rfl, hR, af.n, F, h2, hs.h⟩
 · exact ⟨hdd, v', h1, v', v, s'.h, m₁, rfl, hR, af.n, F, h2, hs.h⟩
def RowR (n0 : Nat) (t : TypeId) (len : Nat) (cs : List Value) : Value → AHeap → Prop := fun v h' => ∃ B, v = .slice (some ⟨B, 0, none⟩) len len ∧ h'.get B = some (.cells cs t) ∧ n0 ≤ B
section
variable {P : Program} {m : Mp} {h : AHeap} {w : World} {b n sz : Nat} {t : TypeId} {c : List Value} {l : Loc}
theorem HRel.retell (H : HRel P m Ev h w) (hfree : FreeFrom m h.n) (hm : m b = some l) (hb : h.get b = some (.cells c t)) {o : AObj} {l' : Loc} (hl : l'.b = l.b) (ht : ∀ d u, o = .cells d u → sizeT P u = some l'.sz ∧ d.length = l'.A) (hro : ∀ d, o = .ro d → l'.slk = 0) (ho : ∀ o', w.heap[l.b]? = some o' → ORel P m l (.cells c t) o' → ORel P (upd m h.n l') l' o o') : HRel P (upd m h.n l') Ev ((h.put b none).push o) w := by
 have hf : m h.n = none := hfree _ (Nat.le_refl _)
 have gn : ((h.put b none).push o).get h.n = some o := AHeap.get_push_same (h.put b none) o
 have go : ∀ i, i ≠ h.n → ((h.put b none).push o).get i = (h.put b none).get i := fun i hi => AHeap.get_push_ne (h.put b none) _ (show (h.put b none).n ≠ i from fun e => hi e.symm)
 have K := H.kill b
 have nb : ∀ i k, i ≠ h.n → m i = some k → ((h.put b none).push o).get i ≠ none → k.b ≠ l.b := fun i k hi e g ek => by
  rw [go i hi] at g
  have hbi : b ≠ i := fun x => by subst x; rw [h.get_put_none] at g; exact g rfl
  rw [h.get_put_ne _ hbi] at g
  exact hbi (H.inj i b k l e hm g (AHeap.live_of hb rfl) ek).symm
 refine ⟨fun i k e => ?_, fun i k d u e g => ?_, fun i j l₁ l₂ e₁ e₂ g₁ g₂ ee => ?_, fun i k d e g => ?_, fun i k x _ e g => ?_⟩
 ·
  by_cases hi : i = h.n
  · subst hi; rw [upd_same] at e; cases e; rw [hl]; exact H.lt b l hm
  · rw [upd_ne m l' hi] at e; exact H.lt i k e
 ·
  by_cases hi : i = h.n
  · subst hi; rw [upd_same] at e; cases e; rw [gn] at g; cases g; exact ht _ _ rfl
  · rw [upd_ne m l' hi] at e; rw [go i hi] at g; exact K.typ i k d u e g
 ·
  by_cases hi : i = h.n
  ·
   by_cases hj : j = h.n
   · omega
   ·
    rw [hi, upd_same] at e₁; cases e₁; rw [upd_ne m l' hj] at e₂
    exact absurd (ee.symm.trans hl) (nb j _ hj e₂ g₂.ne)
  ·
   by_cases hj : j = h.n
   ·
    rw [hj, upd_same] at e₂; cases e₂; rw [upd_ne m l' hi] at e₁
    exact absurd (ee.trans hl) (nb i _ hi e₁ g₁)
   ·
    rw [upd_ne m l' hi] at e₁; rw [upd_ne m l' hj] at e₂
    rw [go i hi] at g₁
    exact K.inj i j _ _ e₁ e₂ g₁ (AHeap.live_eq (go j hj) g₂) ee
 ·
  by_cases hi : i = h.n
  · subst hi; rw [upd_same] at e; cases e; rw [gn] at g; cases g; exact hro _ rfl
  · rw [upd_ne m l' hi] at e; rw [go i hi] at g; exact K.roS i k d e g
 ·
  by_cases hi : i = h.n
  ·
   subst hi; rw [upd_same] at e; cases e; rw [gn] at g; cases g
   obtain ⟨o', a1, a2⟩ := H.obj b l _ trivial hm hb
   exact ⟨o', by rw [hl]; exact a1, ho o' a1 a2⟩
  ·
   rw [upd_ne m l' hi] at e; rw [go i hi] at g
   obtain ⟨o', a1, a2⟩ := K.obj i k x trivial e g
   exact ⟨o', a1, a2.mono (upd_le hf)⟩
theorem HRel.rowEnd (H : HRel P m Ev h w) (hm : m b = some l) (hb : h.get b = some (.cells c t)) (hf : m h.n = none) {m₁ m₀ : Mp} {h₁ h₀ : AHeap} {w' : World} {l₀ L : Loc} {B : Nat} {cs : List Value} (hl₀ : l₀.b = l.b) (hm₀ : m₀ h.n = some l₀) (hn₀ : h₀.n = h.n + 1) {wr : List Nat} (hwr : ∀ i ∈ wr, i = h.n) (hnn : h₀.n ≤ h₁.n) (F : Fr m₀ m₁ (fun i => i ∈ wr ∨ h₀.n ≤ i) h₀ h₁ w w') (H₁ : HRel P m₁ Ev h₁ w') (hB : h₁.get B = some (.cells cs t)) (hBn : h.n ≤ B) (hmB : m₁ B = some L) (hfl : ∀ x ∈ cs, flatB x = true) :
  (∀ b', b' < w.heap.size → b' ≠ l.b → w'.heap[b']? = w.heap[b']?) ∧ HRel P (upd m h.n L) Ev ((h.put b none).push (.cells cs t)) w' ∧ (w.heap.size ≤ L.b ∨ L.b = l.b) := by
 have keep : ∀ b', b' < w.heap.size → b' ≠ l.b → w'.heap[b']? = w.heap[b']? := fun b' hb' hne => F.keep b' hb' fun j k h3 h4 _ h6 e => by
  rcases h4 with h4 | h4
  · rw [hwr j h4, hm₀] at h6; cases h6; exact hne (e.symm.trans hl₀)
  · omega
 have hLb : w.heap.size ≤ L.b ∨ L.b = l.b := by
  by_cases hc : B = h.n
  ·
   right
   rw [hc, F.old h.n (.inl (by omega)), hm₀] at hmB
   cases hmB; exact hl₀
  ·
   rcases F.new B L (by omega) (AHeap.lt hB) hmB with q | ⟨j, k, h3, h4, _, h6, e⟩
   · exact .inl q
   ·
    right
    rcases h4 with h4 | h4
    · rw [hwr j h4, hm₀] at h6; cases h6; exact e.symm.trans hl₀
    · omega
 refine ⟨keep, ?_, hLb⟩
 have gn : ((h.put b none).push (.cells cs t)).get h.n = some (.cells cs t) := AHeap.get_push_same (h.put b none) _
 have go : ∀ i, i ≠ h.n → ((h.put b none).push (.cells cs t)).get i = (h.put b none).get i := fun i hi => AHeap.get_push_ne (h.put b none) _ (show (h.put b none).n ≠ i from fun e => hi e.symm)
 have K := H.kill b
 have nb : ∀ i k, i ≠ h.n → m i = some k → ((h.put b none).push (.cells cs t)).get i ≠ none → k.b ≠ l.b := fun i k hi e g ek => by
  rw [go i hi] at g
  have hbi : b ≠ i := fun x => by subst x; rw [h.get_put_none] at g; exact g rfl
  rw [h.get_put_ne _ hbi] at g
  exact hbi (H.inj i b k l e hm g (AHeap.live_of hb rfl) ek).symm
 have nL : ∀ i k, i ≠ h.n → m i = some k → ((h.put b none).push (.cells cs t)).get i ≠ none → k.b ≠ L.b := fun i k hi e g ek => by
  rcases hLb with q | q
  · have := H.lt i k e; omega
  · exact nb i k hi e g (ek.trans q)
 obtain ⟨ht1, ht2⟩ := H₁.typ B L _ _ hmB hB
 refine ⟨fun i k e => ?_, fun i k d u e g => ?_, fun i j l₁ l₂ e₁ e₂ g₁ g₂ ee => ?_, fun i k d e g => ?_, fun i k x _ e g => ?_⟩
 ·
  by_cases hi : i = h.n
  · subst hi; rw [upd_same] at e; cases e; exact H₁.lt B _ hmB
  · rw [upd_ne m L hi] at e; exact Nat.lt_of_lt_of_le (H.lt i k e) F.size
 ·
  by_cases hi : i = h.n
  · subst hi; rw [upd_same] at e; cases e; rw [gn] at g; cases g; exact ⟨ht1, ht2⟩
  · rw [upd_ne m L hi] at e; rw [go i hi] at g; exact K.typ i k d u e g
 ·
  by_cases hi : i = h.n
  ·
   by_cases hj : j = h.n
   · omega
   ·
    rw [hi, upd_same] at e₁; cases e₁; rw [upd_ne m L hj] at e₂
    exact absurd ee.symm (nL j _ hj e₂ g₂.ne)
  ·
   by_cases hj : j = h.n
   ·
    rw [hj, upd_same] at e₂; cases e₂; rw [upd_ne m L hi] at e₁
    exact absurd ee (nL i _ hi e₁ g₁)
   ·
    rw [upd_ne m L hi] at e₁; rw [upd_ne m L hj] at e₂
    rw [go i hi] at g₁
    exact K.inj i j _ _ e₁ e₂ g₁ (AHeap.live_eq (go j hj) g₂) ee
 ·
  by_cases hi : i = h.n
  · subst hi; rw [gn] at g; cases g
  · rw [upd_ne m L hi] at e; rw [go i hi] at g; exact K.roS i k d e g
 ·
  by_cases hi : i = h.n
  ·
   subst hi; rw [upd_same] at e; cases e; rw [gn] at g; cases g
   obtain ⟨o', a1, a2⟩ := H₁.obj B L _ trivial hmB hB
   cases a2 with
   | cells hs hfz hv => exact ⟨_, a1, .cells hs hfz fun j v hj => by
     obtain ⟨u, y1, y2⟩ := hv j v hj
     have hvf := hfl v (List.mem_of_getElem? hj)
     rw [VRel.eq_of_flat y2 hvf] at y1
     exact ⟨v, y1, VRel.flat _ hvf⟩⟩
  ·
   have g' := g
   rw [upd_ne m L hi] at e; rw [go i hi] at g
   obtain ⟨o', a1, a2⟩ := K.obj i k x trivial e g
   exact ⟨o', by rw [keep k.b (H.lt i k e) (nb i k hi e (by rw [g']; simp))]; exact a1, a2.mono (upd_le hf)⟩
end
theorem FreeFrom.upd {m : Mp} {n : Nat} {l : Loc} (k : FreeFrom m n) : FreeFrom (upd m n l) (n + 1) := fun i hi => by rw [upd_ne m l (by omega)]; exact k i (by omega)
theorem CallRun.room {P : Program} (hg0 : P.globals.size = 0) {f : FuncId} {h : AHeap} {b n sz len : Nat} {t : TypeId} {c cs : List Value} {rest : List Value} (hb : h.get b = some (.cells c t)) (hsz : sizeT P t = some sz) (hc : c.length = n * sz) (hn : 0 < n) (hs0 : 0 < sz) (hl0 : 0 < len) (hfl : ∀ x ∈ cs, flatB x = true)
  (hcut : ∀ (m : Mp) (w : World) (args' : Array Value), HRel P m Ev h w → ARel m (Value.slice (some ⟨b, 0, none⟩) n n :: rest).toArray args' → HRel P (cutN m h.n) Ev h w ∧ ARel (cutN m h.n) (Value.slice (some ⟨b, 0, none⟩) n n :: rest).toArray args')
  (k0 : CallD P [] f (Value.slice (some ⟨h.n, 0, none⟩) n n :: rest).toArray ((h.put b none).push (.ro c)) (RowR h.n t len cs))
  (k1 : ∀ zs : List Value, zs.length = sz → CallD P [h.n] f (Value.slice (some ⟨h.n, 0, none⟩) n (n + 1) :: rest).toArray ((h.put b none).push (.cells (c ++ zs) t)) (RowR h.n t len cs)) :
  CallRun P (· ∈ [b]) f (Value.slice (some ⟨b, 0, none⟩) n n :: rest).toArray h (.slice (some ⟨h.n, 0, none⟩) len len) ((h.put b none).push (.cells cs t)) := by
 refine ⟨AFr.killPush (by simp) _, fun m w args' hm hfr ha0 hh0 => ?_⟩
 obtain ⟨hh, ha⟩ := hcut m w args' hh0 ha0
 have hfree : FreeFrom (cutN m h.n) h.n := fun i hi => if_neg (by omega)
 have hfn : m h.n = none := hfr h.n (Nat.le_refl _) (by simp)
 have hsize := ha.1
 obtain ⟨s', hs1, hs2⟩ := ha.get (i := 0) (v := .slice (some ⟨b, 0, none⟩) n n) (by simp)
 have hblt := AHeap.lt hb
 have fin : ∀ {e : Ending} {w' : World} {m₀ : Mp} {h₀ : AHeap} {l₀ l : Loc} {wr : List Nat}, m b = some l → l₀.b = l.b → m₀ h.n = some l₀ → h₀.n = h.n + 1 → (∀ i ∈ wr, i = h.n) → (∃ v' v h' m', e = Ending.returned v' ∧ RowR h.n t len cs v h' ∧ h₀.n ≤ h'.n ∧ Fr m₀ m' (fun i => i ∈ wr ∨ h₀.n ≤ i) h₀ h' w w' ∧ VRel m' v v' ∧ HRel P m' Ev h' w') → ∃ v' m', e = Ending.returned v' ∧ Fr m m' (· ∈ [b]) h ((h.put b none).push (.cells cs t)) w w' ∧ VRel m' (.slice (some ⟨h.n, 0, none⟩) len len) v' ∧ HRel P m' Ev ((h.put b none).push (.cells cs t)) w' := by
  rintro e w' m₀ h₀ l₀ l wr hmb hl₀ hm₀ hn₀ hwr ⟨v', v, h', m', rfl, ⟨B, rfl, hB, hBn⟩, hnn, F, V, H'⟩
  cases V with
  | slice0 => omega
  | @slice _ _ _ _ cap' L hmB hcc =>
  obtain ⟨kp, HH, hLb⟩ := hh0.rowEnd hmb hb hfn hl₀ hm₀ hn₀ hwr hnn F H' hB hBn hmB hfl
  refine ⟨_, upd m h.n L, rfl, ⟨fun i hi => ?_, fun i l' a b' e' => ?_, fun b' hb' hk => ?_, F.size, F.os, F.tape, F.output⟩, .slice (upd_same _ _ _) hcc, HH⟩
  ·
   rw [AHeap.n_push, AHeap.n_put] at hi
   exact upd_ne _ _ (by omega)
  ·
   rw [AHeap.n_push, AHeap.n_put] at b'
   obtain rfl : i = h.n := by omega
   rw [upd_same] at e'; cases e'
   exact hLb.imp id fun q => ⟨b, l, hblt, by simp, AHeap.live_of hb rfl, hmb, q.symm⟩
  · exact kp b' hb' fun e => hk b l hblt (by simp) (AHeap.live_of hb rfl) hmb e.symm
 cases hs2 with
 | slice0 => omega
 | @slice _ _ _ _ cap' l hml hcap =>
 obtain ⟨hml', -⟩ := cutN_some hml
 obtain ⟨ht1, ht2⟩ := hh.typ b l _ _ hml hb
 obtain rfl : sz = l.sz := by rw [hsz] at ht1; simpa using ht1
 have argsR : ∀ (m₀ : Mp) (cap : Nat), (cutN m h.n).le m₀ → VRel m₀ (.slice (some ⟨h.n, 0, none⟩) n cap) (.slice (some ⟨l.b, 0 + l.sh, none⟩) n cap') → ARel m₀ (Value.slice (some ⟨h.n, 0, none⟩) n cap :: rest).toArray args' := fun m₀ cap hle hv => by
  refine ⟨by rw [← hsize]; simp, fun i u u' e1 e2 => ?_⟩
  cases i with
  | zero =>
   rw [hs1] at e2; cases e2
   simp at e1; subst e1; exact hv
  | succ i => exact (ha.2 (i + 1) u u' (by simpa using e1) e2).mono hle
 have hle : ∀ l', (cutN m h.n).le (upd (cutN m h.n) h.n l') := fun l' => upd_le (hfree _ (Nat.le_refl _))
 have nn : ∀ o : AObj, ((h.put b none).push o).n = h.n + 1 := fun o => rfl
 by_cases hx : cap' = n
 ·
  -- just the room that is told
  obtain ⟨l₀, hl₀⟩ : ∃ l₀ : Loc, l₀ = ⟨l.b, l.sh, l.sz, l.A, 0⟩ := ⟨_, rfl⟩
  have H0 := hh.retell (o := .ro c) (l' := l₀) hfree hml hb (by rw [hl₀]) (fun d u e => by cases e) (fun d e => by rw [hl₀]) (fun o' _ r => by
   cases r with
   | cells hs hfz hv =>
    refine .ro (by rw [hl₀]) fun i v e => ?_
    obtain ⟨v', a1, a2⟩ := hv i v e
    exact ⟨v', by rw [hl₀]; exact a1, a2.mono (hle _)⟩)
  have V0 : VRel (upd (cutN m h.n) h.n l₀) (.slice (some ⟨h.n, 0, none⟩) n n) (.slice (some ⟨l₀.b, 0 + l₀.sh, none⟩) n cap') := .slice (upd_same _ _ _) (.inl hx)
  rw [hl₀] at V0
  have A0 := argsR _ n (hle _) V0
  rw [← hl₀] at A0
  refine (k0 _ w args' (fun g hg => by omega) ?_ A0 H0).mono fun e w' q => fin (l₀ := l₀) hml' (by rw [hl₀]) (upd_same _ _ _) (nn _) (fun i hi => by cases hi) q
  rw [nn]
  exact hfree.upd
 ·
  -- there is more
  obtain ⟨e1, e2⟩ := hcap.resolve_left hx
  obtain ⟨l₀, hl₀⟩ : ∃ l₀ : Loc, l₀ = ⟨l.b, l.sh, l.sz, l.A + l.sz, l.slk - 1⟩ := ⟨_, rfl⟩
  obtain ⟨o', a1, a2⟩ := hh.obj b l _ trivial hml hb
  cases a2 with
  | @cells _ c' _ fz hs hfz hv =>
  obtain ⟨s1, s2, s3⟩ := hs
  have q1 : l.slk * l.sz = (l.slk - 1) * l.sz + l.sz := by
   obtain ⟨k, hk⟩ : ∃ k, l.slk = k + 1 := ⟨l.slk - 1, by omega⟩
   rw [hk, Nat.add_mul, Nat.one_mul]; rfl
  obtain ⟨zs, hzs⟩ : ∃ zs : List Value, zs = (c'.toList.drop (l.sh + l.A)).take l.sz := ⟨_, rfl⟩
  have hzl : zs.length = l.sz := by
   have : c'.toList.length = c'.size := by simp
   rw [hzs, List.length_take, List.length_drop]; omega
  have hzg : ∀ j, j < l.sz → zs[j]? = c'[l.sh + l.A + j]? := fun j hj => by
   rw [hzs, List.getElem?_take_of_lt hj, List.getElem?_drop]; simp
  have H1 := hh.retell (o := .cells (c ++ zs) t) (l' := l₀) hfree hml hb (by rw [hl₀]) (fun d u e => by cases e; rw [hl₀]; exact ⟨hsz, by rw [List.length_append, hzl, ht2]⟩) (fun d e => by cases e) fun o'' g r => by
   rw [a1] at g; cases g
   refine .cells ⟨by rw [hl₀]; simp only [List.length_append, hzl, ht2], by rw [hl₀]; simp only; omega, fun j j1 j2 => ?_⟩ hfz fun i v e => ?_
   ·
    rw [hl₀] at j1 j2
    simp only at j1 j2
    exact s3 j (by omega) (by omega)
   ·
    rw [hl₀]; simp only
    by_cases hi : i < c.length
    ·
     rw [List.getElem?_append_left hi] at e
     obtain ⟨v', a1, a2⟩ := hv i v e
     exact ⟨v', a1, a2.mono (hle _)⟩
    ·
     rw [List.getElem?_append_right (by omega)] at e
     have hj := (List.getElem?_eq_some_iff.1 e).1
     rw [hzg _ (by omega)] at e
     obtain ⟨u, y1, y2⟩ := s3 (l.sh + l.A + (i - c.length)) (by omega) (by omega)
     rw [e] at y1; cases y1
     exact ⟨v, by rw [show i + l.sh = l.sh + l.A + (i - c.length) from by omega]; exact e, y2 _⟩
  have V1 : VRel (upd (cutN m h.n) h.n l₀) (.slice (some ⟨h.n, 0, none⟩) n (n + 1)) (.slice (some ⟨l₀.b, 0 + l₀.sh, none⟩) n cap') := .slice (upd_same _ _ _) (.inr ⟨by rw [hl₀]; simp only; rw [Nat.add_mul]; omega, by rw [hl₀]; simp only; omega⟩)
  rw [hl₀] at V1
  have A1 := argsR _ (n + 1) (hle _) V1
  rw [← hl₀] at A1
  refine (k1 zs hzl _ w args' (fun g hg => by omega) ?_ A1 H1).mono fun e w' q => fin (l₀ := l₀) hml' (by rw [hl₀]) (upd_same _ _ _) (nn _) (fun i hi => by simpa using hi) q
  rw [nn]
  exact hfree.upd
end Go.Proofs.Ytfdglljlenkkbaa
namespace Go.Proofs.Ytfdglljlenkkbaa
def lowV (n : Nat) : Value → Bool
 | .pointer (some ⟨b, _, _⟩) => Nat.blt b n
 | .slice (some ⟨b, _, _⟩) _ _ => Nat.blt b n
 | v => flatB v
theorem VRel.cutN {m : Mp} {n : Nat} {v v' : Value} (hl : lowV n v = true) (h : VRel m v v') : VRel (cutN m n) v v' := by
 have lt : ∀ {a b : Nat}, Nat.blt a b = true → a < b := fun h => by simpa [Nat.blt_eq] using h
 cases h with
 | ptr h => exact .ptr (by rw [cutN_lt (lt hl)]; exact h)
 | slice h hc => exact .slice (by rw [cutN_lt (lt hl)]; exact h) hc
 | slice0 i o a => exact .slice0 i o a
 | map h => simp [lowV, flatB, flat1, flat0] at hl
 | pnil => exact .pnil
 | snil => exact .snil
 | mnil => exact .mnil
 | bool b => exact .bool b
 | int k n => exact .int k n
 | float k n => exact .float k n
 | complex k a b => exact .complex k a b
 | string s => exact .string s
 | nilFunc => exact .nilFunc
 | nilIface => exact .nilIface
 | func hf h1 h2 h3 h4 => simp [lowV, flatB, flat1, flat0] at hl
 | yield h => simp [lowV, flatB, flat1, flat0] at hl
 | iface t h =>
  have e := VRel.eq_of_flat (.iface t h) hl
  rw [e]; exact VRel.flat _ hl
 | agg h1 h3 =>
  have e := VRel.eq_of_flat (.agg h1 h3) hl
  rw [e]; exact VRel.flat _ hl
 | tuple h1 h3 =>
  have e := VRel.eq_of_flat (.tuple h1 h3) hl
  rw [e]; exact VRel.flat _ hl
def lowC (n : Nat) : AObj → Prop
 | .cells c _ => ∀ x ∈ c, lowV n x = true
 | .ro c => ∀ x ∈ c, lowV n x = true
 | _ => False
theorem ORel.cutN {P : Program} {m : Mp} {n : Nat} {l : Loc} {o : AObj} {o' : Obj} (hl : lowC n o) (h : ORel P m l o o') : ORel P (cutN m n) l o o' := by
 cases h with
 | cells hs hf hv => exact .cells hs hf fun i v e => let ⟨v', a, b⟩ := hv i v e; ⟨v', a, b.cutN (hl v (List.mem_of_getElem? e))⟩
 | ro hs hv => exact .ro hs fun i v e => let ⟨v', a, b⟩ := hv i v e; ⟨v', a, b.cutN (hl v (List.mem_of_getElem? e))⟩
 | _ => exact hl.elim
theorem HRel.cutN {P : Program} {m : Mp} {h : AHeap} {w : World} (hl : ∀ i o, h.get i = some o → lowC h.n o) (hh : HRel P m Ev h w) : HRel P (cutN m h.n) Ev h w where
 lt := fun i l e => hh.lt i l (cutN_some e).1
 typ := fun i l c t e => hh.typ i l c t (cutN_some e).1
 inj := fun i j l k e e' => hh.inj i j l k (cutN_some e).1 (cutN_some e').1
 roS := fun i l c e => hh.roS i l c (cutN_some e).1
 obj := fun i l o _ e g => by
  obtain ⟨o', a, b⟩ := hh.obj i l o trivial (cutN_some e).1 g
  exact ⟨o', a, b.cutN (hl i o g)⟩
theorem CallS.room {P : Program} (hg0 : P.globals.size = 0) {f : FuncId} {h : AHeap} {b n sz len : Nat} {t : TypeId} {c cs : List Value} {rest : List Value} (rd : List Nat) (hbr : b ∈ rd) (hb : h.get b = some (.cells c t)) (hsz : sizeT P t = some sz) (hc : c.length = n * sz) (hn : 0 < n) (hs0 : 0 < sz) (hl0 : 0 < len) (hfl : ∀ x ∈ cs, flatB x = true)
  (hlow : ∀ i ∈ rd, ∀ o, h.get i = some o → lowC h.n o) (hargs : ∀ x ∈ rest, lowV h.n x = true)
  (k0 : ∀ H : AHeap, H.n = h.n + 1 → H.get h.n = some (.ro c) → (∀ i ∈ rd, i ≠ b → i < h.n → H.get i = h.get i) → CallD P [] f (Value.slice (some ⟨h.n, 0, none⟩) n n :: rest).toArray H (RowR h.n t len cs))
  (k1 : ∀ (H : AHeap) (zs : List Value), zs.length = sz → H.n = h.n + 1 → H.get h.n = some (.cells (c ++ zs) t) → (∀ i ∈ rd, i ≠ b → i < h.n → H.get i = h.get i) → CallD P [h.n] f (Value.slice (some ⟨h.n, 0, none⟩) n (n + 1) :: rest).toArray H (RowR h.n t len cs)) :
  CallS P [b] f (Value.slice (some ⟨b, 0, none⟩) n n :: rest) h fun v h' => v = .slice (some ⟨h.n, 0, none⟩) len len ∧ h'.get h.n = some (.cells cs t) ∧ h'.n = h.n + 1 := by
 have hn' : (restr h rd).n = h.n := restr_n h rd
 have hblt := AHeap.lt hb
 have hb' : (restr h rd).get b = some (.cells c t) := by rw [restr_get, if_pos hbr]; exact hb
 have gk : ∀ (o : AObj) (i : Nat), i ∈ rd → i ≠ b → i < h.n → (((restr h rd).put b none).push o).get i = h.get i := fun o i hi hne hlt => by
  rw [AHeap.get_push_ne _ _ (by rw [AHeap.n_put, hn']; omega), AHeap.get_put_ne _ _ (Ne.symm hne), restr_get, if_pos hi]
 have gp : ∀ (o : AObj), (((restr h rd).put b none).push o).get h.n = some o := fun o => by
  have := AHeap.get_push_same ((restr h rd).put b none) o
  rwa [AHeap.n_put, hn'] at this
 have np : ∀ (o : AObj), (((restr h rd).put b none).push o).n = h.n + 1 := fun o => by rw [AHeap.n_push, AHeap.n_put, hn']
 have k := CallRun.room (f := f) (h := restr h rd) (len := len) (cs := cs) (rest := rest) hg0 hb' hsz hc hn hs0 hl0 hfl (fun m w args' hh ha => ?_) (by rw [hn']; exact k0 _ (np _) (gp _) (gk _)) (fun zs hz => by rw [hn']; exact k1 _ zs hz (np _) (gp _) (gk _))
 ·
  rw [hn'] at k
  have gb : ((h.put b none).push (.cells cs t)).get b = none := by
   rw [AHeap.get_push_ne _ _ (by rw [AHeap.n_put]; omega)]; exact h.get_put_none b
  refine ⟨_, (h.put b none).push (.cells cs t), CallRun.frame k hn' (by rw [np, AHeap.n_push, AHeap.n_put]) (fun i o hi => (restr_some hi).1) (fun i hi hne => ?_) (fun i o hi hg => ?_), rfl, AHeap.get_push_same (h.put b none) _, rfl⟩
  ·
   have hne' : i ≠ b := fun e => hne (by simp [e])
   rw [AHeap.get_push_ne _ _ (by rw [AHeap.n_put]; omega), AHeap.get_put_ne _ _ (Ne.symm hne')]
  ·
   rcases hi with hi | hi
   · rw [List.mem_singleton.1 hi, gb] at hg; cases hg
   ·
    have hlt := AHeap.lt hg
    rw [AHeap.n_push, AHeap.n_put] at hlt
    obtain rfl : i = h.n := by omega
    have q : ((h.put b none).push (.cells cs t)).get h.n = some (.cells cs t) := AHeap.get_push_same (h.put b none) _
    rw [gp, ← hg, q]
 ·
  refine ⟨HRel.cutN (fun i o hi => ?_) hh, ha.1, fun i u u' e1 e2 => ?_⟩
  ·
   obtain ⟨h1, h2⟩ := restr_some hi
   rw [hn']; exact hlow i h2 o h1
  ·
   rw [hn']
   refine (ha.2 i u u' e1 e2).cutN ?_
   have hm : u ∈ Value.slice (some ⟨b, 0, none⟩) n n :: rest := List.mem_of_getElem? (i := i) (by simpa using e1)
   rcases List.mem_cons.1 hm with rfl | hm
   · simpa [lowV, Nat.blt_eq] using hblt
   · exact hargs u hm
def OvD (P : Program) (W : Nat → Prop) (ops : Array Oper) (n : Nat) (is : List Nat) (ov : Ov) (h : AHeap) (R : List Value → AHeap → Prop) : Prop := ∀ tm : List Value, tm.length = n → Rp ov tm → OpsD P W ops is tm h R
section
variable {P : Program} {W : Nat → Prop} {ops : Array Oper} {n : Nat} {is : List Nat} {ov : Ov} {h : AHeap} {R : List Value → AHeap → Prop} {q : Bool} {k : List It} {df : List Nat} {Q : PQ} {o : Oper} {d : Tmp}
theorem OvD.done (g : GoD P W q n k .normal ov df h Q) : OvD P W ops n [] ov h (fun tm' h' => tm'.length = n ∧ GxD P W q k .normal tm' df h' Q) := fun tm hl hr => ⟨hl, g tm hl hr⟩
theorem OvD.step {i : Nat} {v : Value} (ho : ops[i]? = some o) (hgd : o.guard = none) (hd : o.dst = some d) (hN : dOk d n = true) (kk : ∀ tm, Rp ov tm → OpOk P o tm h ⟨v, h, [], [], false, true⟩) (g : OvD P W ops n is ((d, v) :: ov) h R) : OvD P W ops n (i :: is) ov h R := fun tm hl hr => by
 refine ⟨o, ho, .inr ⟨by simp [Region.wanted, hgd], fun u h'' => u = v ∧ h'' = h, OpD.of_run ((kk tm hr).ev (fun i hi => by cases hi)) ⟨rfl, rfl⟩, ?_⟩⟩
 rintro u h'' ⟨rfl, rfl⟩
 rw [hd]
 exact g _ (by rw [putT_len]; exact hl) (hr.put hl hN _)
theorem OpD.cap {tm : List Value} {x : Operand} {t e : TypeId} {B off len cap : Nat} (ho : o.op = .call ⟨.builtin .cap, #[x], #[t]⟩) (hu : P.underlying t = some (.slice e)) (hx : evalT tm x = .slice (some ⟨B, off, none⟩) len cap) (h0 : 0 < cap) : OpD P W o tm h (fun v h' => h' = h ∧ ∃ N : Nat, cap ≤ N ∧ v = .int .i64 N) := fun m w A r hm hf hxs H K Q hK => by
 have ha := hxs x (by simp [ho, Op.operands, Call.operands])
 rw [hx] at ha
 generalize hy : A.eval x = y at ha
 cases ha with
 | slice0 => omega
 | @slice _ _ _ _ cap' l hl hc =>
  have hcc : cap ≤ cap' := by rcases hc with rfl | ⟨_, rfl⟩ <;> omega
  refine wpIn_value (by simp [ho]) (v := .int .i64 cap') (w' := w) ?_ (hK _ h _ w m ⟨rfl, cap', hcc, rfl⟩ (.refl _ _) (.refl _ _ _ _) (.int _ _) H)
  rw [exec_builtin ho]
  simp [builtin, Builtin.cap_, run_under hu, hy, goInt]
theorem OvD.cap {i : Nat} {x : Operand} {t e : TypeId} {B off len cap : Nat} (ho : ops[i]? = some o) (hgd : o.guard = none) (hd : o.dst = some d) (hN : dOk d n = true) (hop : o.op = .call ⟨.builtin .cap, #[x], #[t]⟩) (hu : P.underlying t = some (.slice e)) (hx : evO ov x = some (.slice (some ⟨B, off, none⟩) len cap)) (h0 : 0 < cap) (g : ∀ N : Nat, cap ≤ N → OvD P W ops n is ((d, .int .i64 N) :: ov) h R) : OvD P W ops n (i :: is) ov h R := fun tm hl hr => by
 refine ⟨o, ho, .inr ⟨by simp [Region.wanted, hgd], _, OpD.cap hop hu (evO_eq hr hx) h0, ?_⟩⟩
 rintro u h'' ⟨rfl, N, hN', rfl⟩
 rw [hd]
 exact g N hN' _ (by rw [putT_len]; exact hl) (hr.put hl hN _)
theorem GoD.region {id : Nat} (hk : opsOk P ops = true) (his : List.range ops.size = is) (g : OvD P W ops n is ov h (fun tm' h' => tm'.length = n ∧ GxD P W q k .normal tm' df h' Q)) : GoD P W q n (.code (.region id ops false) :: k) .normal ov df h Q := fun tm hl hr => by
 subst hl his
 exact ⟨fun _ => DRun.region hk (g tm rfl hr), fun e => absurd rfl e⟩
theorem OpRun.overlaps {D : Nat → Prop} {tm : List Value} {f x y : Operand} {ts rs : Array TypeId} {g : FuncId} {fn : Func} {T e tv tt : TypeId} {sz vb vo la ca b o' lb cb : Nat} {cv ct : List Value} (ho : o.op = .call { callee := .value f, args := #[x, y], argTypes := ts }) (hf : evalT tm f = .func (.func g) #[] #[])
  (hg : P.funcs[g]? = some fn) (hn : (fn.name == "runtime.NumGoroutine") = false) (hb : fn.body.isNone = true) (hnx : Extern.findNext fn = none) (he : Extern.find fn = some (Extern.SlicesOverlaps.overlaps #[T, T] rs)) (hu : P.underlying T = some (.slice e)) (hs : sizeT P e = some sz) (hrs : rs = #[rs.getD 0 0])
  (hx : evalT tm x = .slice (some ⟨vb, vo, none⟩) la ca) (hy : evalT tm y = .slice (some ⟨b, o', none⟩) lb cb) (hv : h.get vb = some (.cells cv tv)) (hvt : P.underlying tv ≠ some (.int .u8)) (hbb : h.get b = some (.cells ct tt)) (hbl : 0 < ct.length) (hne : vb ≠ b) (h1 : 0 < la) (h2 : 0 < lb) (hD : D vb ∧ D b) : OpRun P D W o tm h (.bool false) h :=
 .ofPure (by simp [ho]) fun m w A hm hxs H => by
  have hfv := hxs f (by simp [ho, Op.operands, Call.operands])
  have hxv := hxs x (by simp [ho, Op.operands, Call.operands])
  have hyv := hxs y (by simp [ho, Op.operands, Call.operands])
  rw [hf] at hfv
  rw [hx] at hxv
  rw [hy] at hyv
  generalize e1 : A.eval f = z1 at hfv
  generalize e2 : A.eval x = z2 at hxv
  generalize e3 : A.eval y = z3 at hyv
  cases hxv with
  | slice0 => omega
  | @slice _ _ _ _ cap1 l1 hl1 hc1 =>
  cases hyv with
  | slice0 => omega
  | @slice _ _ _ _ cap2 l2 hl2 hc2 =>
  cases hfv with
  | @func _ a b a' b' hfn h1 h2 h3 h4 =>
  obtain rfl : a' = #[] := Array.eq_empty_of_size_eq_zero (by simpa using h1.symm)
  obtain rfl : b' = #[] := Array.eq_empty_of_size_eq_zero (by simpa using h2.symm)
  obtain ⟨o1, p1, p2⟩ := H.obj _ _ _ hD.1 hl1 hv
  obtain ⟨o2, q1, q2⟩ := H.obj _ _ _ hD.2 hl2 hbb
  cases p2 with
  | @cells _ c1 _ fz1 hs1 hf1 hv1 =>
  cases q2 with
  | @cells _ c2 _ fz2 hs2 hf2 hv2 =>
  have hneb : l1.b ≠ l2.b := fun ee => hne (H.inj _ _ _ _ hl1 hl2 (by rw [hv]; simp) (AHeap.live_of hbb rfl) ee)
  have fz0 : fz1 = (0, 0) := hf1.resolve_right fun q => hvt q.1
  subst fz0
  refine ⟨.bool false, .bool _, ?_⟩
  have hrun := run_callFunc_extern hg hn hb hnx he #[.slice (some ⟨l1.b, vo + l1.sh, none⟩) la cap1, .slice (some ⟨l2.b, o' + l2.sh, none⟩) lb cap2] w
  rw [hrs, Go.Lib.run_overlaps_apart w T _ e hu sz (fun w => run_sizeOf hs w) ⟨l1.b, vo + l1.sh, none⟩ ⟨l2.b, o' + l2.sh, none⟩ la cap1 lb cap2 hneb tv tt c1.size c2.size (by simp [World.shape?, p1]) (by simp [World.shape?, q1]) (by have := hs2.1; have := hs2.2.1; omega) (by simp [World.frozen?, p1]) (by simp [World.frozen?, p1])] at hrun
  simp [execOp, ho, resolve, e1, e2, e3, Deferred.ofValue, invoke]
  exact hrun
end
section
variable {P : Program} {h : AHeap} {o : Oper} {ov : Ov} {W : Nat → Prop} {q : Bool} {N : Nat} {ops : Array Oper} {os : List Oper} {k : List It} {df : List Nat} {Q : PQ} {d : Nat} {b₀ : Bool}
theorem GoR.overlaps {f x y : Operand} {ts rs : Array TypeId} {g : FuncId} {fn : Func} {T e tv tt : TypeId} {sz vb vo la ca b o' lb cb : Nat} {cv ct : List Value} (ho : o.op = .call ⟨.value f, #[x, y], ts⟩) (hd : o.dst = some d) (hN : dOk d N = true) (hgd : o.guard = none) (hf : evO ov f = some (.func (.func g) #[] #[]))
  (hg : P.funcs[g]? = some fn) (hn : (fn.name == "runtime.NumGoroutine") = false) (hb : fn.body.isNone = true) (hnx : Extern.findNext fn = none) (he : Extern.find fn = some (Extern.SlicesOverlaps.overlaps #[T, T] rs)) (hu : P.underlying T = some (.slice e)) (hs : sizeT P e = some sz) (hrs : rs = #[rs.getD 0 0])
  (hx : evO ov x = some (.slice (some ⟨vb, vo, none⟩) la ca)) (hy : evO ov y = some (.slice (some ⟨b, o', none⟩) lb cb)) (hv : h.get vb = some (.cells cv tv)) (hvt : P.underlying tv ≠ some (.int .u8)) (hbb : h.get b = some (.cells ct tt)) (hbl : 0 < ct.length) (hne : vb ≠ b) (h1 : 0 < la) (h2 : 0 < lb) (gg : GoR P W q N ops b₀ os k ((d, .bool false) :: ov) df h Q) : GoR P W q N ops b₀ (o :: os) k ov df h Q :=
 GoR.step (r := ⟨.bool false, h, [vb, b], [], false, true⟩) hgd hd hN (fun tm hr => .read fun D W hD => OpRun.overlaps ho (evO_eq hr hf) hg hn hb hnx he hu hs hrs (evO_eq hr hx) (evO_eq hr hy) hv hvt hbb hbl hne h1 h2 ⟨hD vb (by simp), hD b (by simp)⟩) (.inr rfl) (fun i hi => by cases hi) gg
theorem GoR.capR {x : Operand} {t : TypeId} {u : Value} {n : Int} (ho : o.op = .call ⟨.builtin .cap, #[x], #[t]⟩) (hd : o.dst = some d) (hN : dOk d N = true) (hgd : o.guard = none) (hx : evO ov x = some u) (hv : aCap P h t u = some n) (gg : GoR P W q N ops b₀ os k ((d, .int .i64 n) :: ov) df h Q) : GoR P W q N ops b₀ (o :: os) k ov df h Q :=
 GoR.step (r := ⟨.int .i64 n, h, [], [], false, true⟩) hgd hd hN (fun tm hr => .pure fun D W => OpRun.cap ho (by rw [evO_eq hr hx]; exact hv)) (.inr rfl) (fun i hi => by cases hi) gg
end
end Go.Proofs.Ytfdglljlenkkbaa
namespace Go.Proofs.Ytfdglljlenkkbaa
section
variable {P : Program} {h : AHeap} {H : Type}
def Sized (P : Program) {H : Type} (t : TypeId) (d : DataW H) : Prop := ∀ n ∈ d.weights P t, n ≤ reachBytes
theorem weightsAll_mem {e : TypeId} : ∀ {ds : List (DataW H)} {d : DataW H}, d ∈ ds → ∀ n ∈ d.weights P e, n ∈ DataW.weightsAll P e ds
 | x :: ds, d, hd, n, hn => by
  simp only [DataW.weightsAll, List.mem_append]
  rcases List.mem_cons.1 hd with rfl | hd
  · exact .inl hn
  · exact .inr (weightsAll_mem hd n hn)
theorem Sized.of_all {ts : List TypeId} {ds : List (DataW H)} (h : (DataW.weightsEach P ts ds).all (· ≤ reachBytes) = true) {j : Nat} {t : TypeId} {d : DataW H} (ht : ts[j]? = some t) (hd : ds[j]? = some d) : Sized P t d := fun n hn => by
 have := List.all_eq_true.1 h _ (DataW.weights_mem_each ht hd n hn)
 simpa using this
theorem ARd.slice_invZ {t e : TypeId} {cs : List Value} {d : DataW H} (r : ARd P h t cs d) (z : Sized P t d) (hu : P.underlying t = some (.slice e)) : ∃ a len cap c, cs = [.slice a len cap] ∧ Rv P h (P.cellsOf e) a len cap c ∧ cap ≤ maxLen ∧ len * P.bytesOf e ≤ reachBytes ∧ ∀ i, i < len → ∃ d', ARd (H := H) P h e ((c.drop (i * P.cellsOf e)).take (P.cellsOf e)) d' ∧ Sized P e d' := by
 cases r with
 | snil hu' => exact ⟨none, 0, 0, [], rfl, .nil, Nat.zero_le _, by simp, fun i hi => by omega⟩
 | slice hu' hR hm hl he =>
  rw [hu] at hu'; cases hu'
  rename_i ds rest
  refine ⟨_, _, _, _, rfl, hR, hm, ?_, fun i hi => ⟨ds[i]'(by omega), he i _ (List.getElem?_eq_getElem (by omega)), fun n hn => z n ?_⟩⟩
  ·
   have := z ((ds.length + rest.length) * P.bytesOf e) (by simp [DataW.weights, hu])
   rw [← hl]
   exact Nat.le_trans (Nat.mul_le_mul_right _ (Nat.le_add_right _ _)) this
  ·
   simp only [DataW.weights, hu, List.mem_cons, List.mem_append]
   exact .inr (.inl (weightsAll_mem (List.getElem_mem _) n hn))
 | bool hu' => rw [hu] at hu'; cases hu'
 | int hu' hw => rw [hu] at hu'; cases hu'
 | str hu' => rw [hu] at hu'; cases hu'
 | struct hu' => rw [hu] at hu'; cases hu'
theorem ARd.fieldZ {t : TypeId} {fs : Array Field} {cs : List Value} {d : DataW H} (r : ARd P h t cs d) (z : Sized P t d) (hu : P.underlying t = some (.struct fs)) : cs.length = P.cellsOf t ∧ ∀ (i ty off sz : Nat), (fs[i]?).map (fun f => (f.type, f.offset)) = some (ty, off) → P.cellsOf ty = sz → ∃ d', ARd (H := H) P h ty ((cs.drop off).take sz) d' ∧ Sized P ty d' := by
 cases r with
 | struct hu' hl hx hf =>
  rw [hu] at hu'; cases hu'
  refine ⟨hl, fun i ty off sz e hs => ?_⟩
  subst hs
  cases hq : fs[i]? with
  | none => simp [hq] at e
  | some f =>
   simp only [hq, Option.map_some, Option.some.injEq, Prod.mk.injEq] at e
   obtain ⟨rfl, rfl⟩ := e
   have hi := (Array.getElem?_eq_some_iff.1 hq).1
   rename_i xs
   refine ⟨_, hf i f xs[i] hq (List.getElem?_eq_getElem (by omega)), fun n hn => z n ?_⟩
   simp only [DataW.weights, hu]
   refine DataW.weights_mem_each (j := i) ?_ (List.getElem?_eq_getElem (by omega)) n hn
   simp [hq]
 | bool hu' => rw [hu] at hu'; cases hu'
 | int hu' hw => rw [hu] at hu'; cases hu'
 | str hu' => rw [hu] at hu'; cases hu'
 | snil hu' => rw [hu] at hu'; cases hu'
 | slice hu' => rw [hu] at hu'; cases hu'
end
end Go.Proofs.Ytfdglljlenkkbaa
namespace Go.Proofs.Ytfdglljlenkkbaa
section
variable {P : Program} {W : Nat → Prop} {q : Bool} {N : Nat} {k : List It} {ov : Ov} {df : List Nat} {h : AHeap} {Q : PQ} {ops : Array Oper} {os : List Oper} {o : Oper} {d : Nat} {b₀ : Bool} {tr : List (Option LE)}
theorem S.boolNe {t t₂ : TypeId} {x y : Operand} {a b : Bool} (ho : o.op = .binOp .neq t x y t₂) (hx : evO ov x = some (.bool a)) (hy : evO ov y = some (.bool b)) (hu : P.underlying t = some .bool) : ∀ tm, Rp ov tm → OpOk P o tm h (pureO h (.bool (!(a == b)))) := fun tm hr =>
 OpOk.flat (by simp [ho]) rfl fun m w A hA => by
  have h1 := hA x (by simp [ho, Op.operands])
  have h2 := hA y (by simp [ho, Op.operands])
  rw [evO_eq hr hx] at h1
  rw [evO_eq hr hy] at h2
  have e1 := VRel.eq_of_flat h1 rfl
  have e2 := VRel.eq_of_flat h2 rfl
  simp [execOp, ho, e1, e2, eqGuard, binOp, run_equal_bool w t a b hu]
theorem GoR.boolNe {t t₂ : TypeId} {x y : Operand} {a b : Bool} (ho : o.op = .binOp .neq t x y t₂) (hd : o.dst = some d) (hN : dOk d N = true) (hgd : o.guard = none) (hx : evO ov x = some (.bool a)) (hy : evO ov y = some (.bool b)) (hu : P.underlying t = some .bool) (g : GoR P W q N ops b₀ os k ((d, .bool (!(a == b))) :: ov) df h Q) : GoR P W q N ops b₀ (o :: os) k ov df h Q :=
 GoR.step (r := pureO h _) hgd hd hN (S.boolNe ho hx hy hu) (.inr rfl) (fun i hi => by cases hi) g
end
end Go.Proofs.Ytfdglljlenkkbaa