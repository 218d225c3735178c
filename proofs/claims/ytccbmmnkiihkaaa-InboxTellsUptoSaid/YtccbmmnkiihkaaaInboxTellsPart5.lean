/- What the law leans on, part 5. No conditions. -/
import Derived.Laws.Small
import Derived.SizedLaws
import Derived.Maps.RangeRun
import Derived.Laws.Externs
import GoSem.Extern.MapsClone
import Derived.Test.YtccbmmnkiihkaaaInboxTellsPart4
set_option linter.unusedVariables false
set_option linter.unusedSimpArgs false
namespace Go.Proofs.Ytccbmmnkiihkaaa
theorem Rv.pushPut {P : Program} {h : AHeap} {sz len cap : Nat} {a : Option Addr} {cs : List Value} (k : Rv P h sz a len cap cs) (A : AObj) (B : Option AObj) : Rv P ((h.push A).put h.n B) sz a len cap cs := k.same (((Same.refl h).push A).put (Nat.le_refl _) B)
section
variable {P : Program} {W : Nat → Prop} {q : Bool} {N : Nat} {k : List It} {ov : Ov} {df : List Nat} {h : AHeap} {Q : PQ} {id : Nat} {ops : Array Oper} {os : List Oper} {o : Oper} {d : Nat} {b₀ : Bool} {tr : List (Option LE)}
theorem GoR.wanted' {j t : Nat} {w B : Bool} {oj : Oper} (hg : o.guard = some (j, w)) (hj : ops[j]? = some oj) (hdj : oj.dst = some t) (hv : ov.find t = some (.bool B)) (hB : B = w := by first | with_reducible rfl | with_reducible assumption | (with_reducible refine @decide_eq_true _ _ ?_; first | with_reducible rfl | omega) | (with_reducible refine @decide_eq_false _ _ ?_; omega) | with_reducible exact Bool.not_false | with_reducible exact Bool.not_true | (simp; fail_if_success focus skip) | (simp; omega)) (g : GoR P W q N ops b₀ ({ o with guard := none } :: os) k ov df h Q) : GoR P W q N ops b₀ (o :: os) k ov df h Q := GoR.wanted hg hj hdj hv hB g
theorem GoL.wanted' {j t : Nat} {w B : Bool} {oj : Oper} (hg : o.guard = some (j, w)) (hj : ops[j]? = some oj) (hdj : oj.dst = some t) (hv : ov.find t = some (.bool B)) (hB : B = w := by first | with_reducible rfl | with_reducible assumption | (with_reducible refine @decide_eq_true _ _ ?_; first | with_reducible rfl | omega) | (with_reducible refine @decide_eq_false _ _ ?_; omega) | with_reducible exact Bool.not_false | with_reducible exact Bool.not_true | (simp; fail_if_success focus skip) | (simp; omega)) (g : GoL P W q N ops tr ({ o with guard := none } :: os) k ov df h Q) : GoL P W q N ops tr (o :: os) k ov df h Q := GoL.wanted hg hj hdj hv hB g
theorem GoR.unwanted' {b : Bool} {j t : Nat} {w B : Bool} {oj : Oper} (hg : o.guard = some (j, w)) (hj : ops[j]? = some oj) (hdj : oj.dst = some t) (hv : ov.find t = some (.bool B)) (hB : B = !w := by first | with_reducible rfl | with_reducible assumption | (with_reducible refine @decide_eq_true _ _ ?_; first | with_reducible rfl | omega) | (with_reducible refine @decide_eq_false _ _ ?_; omega) | with_reducible exact Bool.not_false | with_reducible exact Bool.not_true | (simp; fail_if_success focus skip) | (simp; omega)) (hd : o.dst = some d) (hN : dOk d N = true) (g : GoR P W q N ops b os k ((d, undef) :: ov) df h Q) : GoR P W q N ops b (o :: os) k ov df h Q := GoR.unwanted hg hj hdj hv hB hd hN g
theorem GoL.unwanted' {tr : List (Option LE)} {j t : Nat} {w B : Bool} {oj : Oper} (hg : o.guard = some (j, w)) (hj : ops[j]? = some oj) (hdj : oj.dst = some t) (hv : ov.find t = some (.bool B)) (hB : B = !w := by first | with_reducible rfl | with_reducible assumption | (with_reducible refine @decide_eq_true _ _ ?_; first | with_reducible rfl | omega) | (with_reducible refine @decide_eq_false _ _ ?_; omega) | with_reducible exact Bool.not_false | with_reducible exact Bool.not_true | (simp; fail_if_success focus skip) | (simp; omega)) (hd : o.dst = some d) (hN : dOk d N = true) (g : GoL P W q N ops (tr ++ [none]) os k ((d, undef) :: ov) df h Q) : GoL P W q N ops tr (o :: os) k ov df h Q := GoL.unwanted hg hj hdj hv hB hd hN g
theorem GoR.pickE' {c x y : Operand} {B : Bool} {u v : Value} (ho : o.op = .pick c x y) (hd : o.dst = some d) (hN : dOk d N = true) (hgd : o.guard = none) (hc : evO ov c = some (.bool B)) (hB : B = true := by first | with_reducible rfl | with_reducible assumption | (with_reducible refine @decide_eq_true _ _ ?_; first | with_reducible rfl | omega) | (with_reducible refine @decide_eq_false _ _ ?_; omega) | with_reducible exact Bool.not_false | with_reducible exact Bool.not_true | (simp; fail_if_success focus skip) | (simp; omega)) (hx : evO ov x = some u) (hy : evO ov y = some v) (g : GoR P W q N ops b₀ os k ((d, u) :: ov) df h Q) : GoR P W q N ops b₀ (o :: os) k ov df h Q := GoR.pickE ho hd hN hgd hc hB hx hy g
theorem GoL.pickE' {c x y : Operand} {B : Bool} {u v : Value} (ho : o.op = .pick c x y) (hd : o.dst = some d) (hN : dOk d N = true) (hgd : o.guard = none) (hc : evO ov c = some (.bool B)) (hB : B = true := by first | with_reducible rfl | with_reducible assumption | (with_reducible refine @decide_eq_true _ _ ?_; first | with_reducible rfl | omega) | (with_reducible refine @decide_eq_false _ _ ?_; omega) | with_reducible exact Bool.not_false | with_reducible exact Bool.not_true | (simp; fail_if_success focus skip) | (simp; omega)) (hx : evO ov x = some u) (hy : evO ov y = some v) (g : GoL P W q N ops (tr ++ [none]) os k ((d, u) :: ov) df h Q) : GoL P W q N ops tr (o :: os) k ov df h Q := GoL.pickE ho hd hN hgd hc hB hx hy g
theorem GoR.pickN' {c x y : Operand} {B : Bool} {u v : Value} (ho : o.op = .pick c x y) (hd : o.dst = some d) (hN : dOk d N = true) (hgd : o.guard = none) (hc : evO ov c = some (.bool B)) (hB : B = false := by first | with_reducible rfl | with_reducible assumption | (with_reducible refine @decide_eq_true _ _ ?_; first | with_reducible rfl | omega) | (with_reducible refine @decide_eq_false _ _ ?_; omega) | with_reducible exact Bool.not_false | with_reducible exact Bool.not_true | (simp; fail_if_success focus skip) | (simp; omega)) (hx : evO ov x = some u) (hy : evO ov y = some v) (g : GoR P W q N ops b₀ os k ((d, v) :: ov) df h Q) : GoR P W q N ops b₀ (o :: os) k ov df h Q := GoR.pickN ho hd hN hgd hc hB hx hy g
theorem GoL.pickN' {c x y : Operand} {B : Bool} {u v : Value} (ho : o.op = .pick c x y) (hd : o.dst = some d) (hN : dOk d N = true) (hgd : o.guard = none) (hc : evO ov c = some (.bool B)) (hB : B = false := by first | with_reducible rfl | with_reducible assumption | (with_reducible refine @decide_eq_true _ _ ?_; first | with_reducible rfl | omega) | (with_reducible refine @decide_eq_false _ _ ?_; omega) | with_reducible exact Bool.not_false | with_reducible exact Bool.not_true | (simp; fail_if_success focus skip) | (simp; omega)) (hx : evO ov x = some u) (hy : evO ov y = some v) (g : GoL P W q N ops (tr ++ [none]) os k ((d, v) :: ov) df h Q) : GoL P W q N ops tr (o :: os) k ov df h Q := GoL.pickN ho hd hN hgd hc hB hx hy g
theorem GoR.load' {t ct : TypeId} {x : Operand} {b off : Nat} {c : List Value} {v : Value} (ho : o.op = .load t x) (hd : o.dst = some d) (hN : dOk d N = true) (hgd : o.guard = none) (hx : evO ov x = some (.pointer (some ⟨b, off, none⟩))) [hc : CT P t none] (hg : h.get b = some (.cells c ct) := by (first | assumption | exact AHeap.get_push_same _ _ | ((repeat first | exact AHeap.get_push_same _ _ | assumption | refine get_push_lt ?_ | exact AHeap.get_put_same _ (by first | omega | (simp only [AHeap.n_push, AHeap.n_put]; omega)) _ | exact get_put_self (by assumption) | apply get_put_self | refine get_put_other (by first | omega | (simp only [AHeap.n_push, AHeap.n_put]; omega)) ?_ | refine Same.get (by assumption) ?_ | refine Keeps.get (by assumption) ?_ (fun hi => by have hx := Own.out (by assumption) hi; omega)) ; fail_if_success focus skip) | fail)) (hv : c[off]? = some v := by (first | rfl | assumption | (simp only [List.getElem?_cons_zero, List.getElem?_cons_succ, Int.toNat_natCast, Nat.mul_one, Nat.add_zero, Nat.zero_add]; first | rfl | assumption))) (g : GoR P W q N ops b₀ os k ((d, v) :: ov) df h Q) : GoR P W q N ops b₀ (o :: os) k ov df h Q := GoR.load ho hd hN hgd hx hg hv g
theorem GoL.load' {t ct : TypeId} {x : Operand} {b off : Nat} {c : List Value} {v : Value} (ho : o.op = .load t x) (hd : o.dst = some d) (hN : dOk d N = true) (hgd : o.guard = none) (hx : evO ov x = some (.pointer (some ⟨b, off, none⟩))) [hc : CT P t none] (hg : h.get b = some (.cells c ct) := by (first | assumption | exact AHeap.get_push_same _ _ | ((repeat first | exact AHeap.get_push_same _ _ | assumption | refine get_push_lt ?_ | exact AHeap.get_put_same _ (by first | omega | (simp only [AHeap.n_push, AHeap.n_put]; omega)) _ | exact get_put_self (by assumption) | apply get_put_self | refine get_put_other (by first | omega | (simp only [AHeap.n_push, AHeap.n_put]; omega)) ?_ | refine Same.get (by assumption) ?_ | refine Keeps.get (by assumption) ?_ (fun hi => by have hx := Own.out (by assumption) hi; omega)) ; fail_if_success focus skip) | fail)) (hv : c[off]? = some v := by (first | rfl | assumption | (simp only [List.getElem?_cons_zero, List.getElem?_cons_succ, Int.toNat_natCast, Nat.mul_one, Nat.add_zero, Nat.zero_add]; first | rfl | assumption))) (g : GoL P W q N ops (tr ++ [(some ⟨h.n, h.n, [b], [], false, true⟩)]) os k ((d, v) :: ov) df h Q) : GoL P W q N ops tr (o :: os) k ov df h Q := GoL.load ho hd hN hgd hx hg hv g
theorem GoR.loadA' {t ct : TypeId} {x : Operand} {b off n : Nat} {c l : List Value} (ho : o.op = .load t x) (hd : o.dst = some d) (hN : dOk d N = true) (hgd : o.guard = none) (hx : evO ov x = some (.pointer (some ⟨b, off, none⟩))) [hc : CT P t (some n)] (hg : h.get b = some (.cells c ct) := by (first | assumption | exact AHeap.get_push_same _ _ | ((repeat first | exact AHeap.get_push_same _ _ | assumption | refine get_push_lt ?_ | exact AHeap.get_put_same _ (by first | omega | (simp only [AHeap.n_push, AHeap.n_put]; omega)) _ | exact get_put_self (by assumption) | apply get_put_self | refine get_put_other (by first | omega | (simp only [AHeap.n_push, AHeap.n_put]; omega)) ?_ | refine Same.get (by assumption) ?_ | refine Keeps.get (by assumption) ?_ (fun hi => by have hx := Own.out (by assumption) hi; omega)) ; fail_if_success focus skip) | fail)) (hv : cutL off n c = some l) (g : GoR P W q N ops b₀ os k ((d, .agg l.toArray) :: ov) df h Q) : GoR P W q N ops b₀ (o :: os) k ov df h Q := GoR.loadA ho hd hN hgd hx hg hv g
theorem GoL.loadA' {t ct : TypeId} {x : Operand} {b off n : Nat} {c l : List Value} (ho : o.op = .load t x) (hd : o.dst = some d) (hN : dOk d N = true) (hgd : o.guard = none) (hx : evO ov x = some (.pointer (some ⟨b, off, none⟩))) [hc : CT P t (some n)] (hg : h.get b = some (.cells c ct) := by (first | assumption | exact AHeap.get_push_same _ _ | ((repeat first | exact AHeap.get_push_same _ _ | assumption | refine get_push_lt ?_ | exact AHeap.get_put_same _ (by first | omega | (simp only [AHeap.n_push, AHeap.n_put]; omega)) _ | exact get_put_self (by assumption) | apply get_put_self | refine get_put_other (by first | omega | (simp only [AHeap.n_push, AHeap.n_put]; omega)) ?_ | refine Same.get (by assumption) ?_ | refine Keeps.get (by assumption) ?_ (fun hi => by have hx := Own.out (by assumption) hi; omega)) ; fail_if_success focus skip) | fail)) (hv : cutL off n c = some l) (g : GoL P W q N ops (tr ++ [some ⟨h.n, h.n, [b], [], false, true⟩]) os k ((d, .agg l.toArray) :: ov) df h Q) : GoL P W q N ops tr (o :: os) k ov df h Q := GoL.loadA ho hd hN hgd hx hg hv g
theorem GoR.loadV' {t : TypeId} {x : Operand} {kv : Nat} {v : Value} {sz : Nat} {a : Option Addr} {len cap : Nat} {cs : List Value} (ho : o.op = .load t x) (hd : o.dst = some d) (hN : dOk d N = true) (hgd : o.guard = none) (hx : evO ov x = some (ptA a kv)) [hc : CT P t none] (hS : Rv P h sz a len cap cs := by first | assumption | exact Rv.pushPut (by assumption) _ _ | exact Rv.pushPut (Sv.rv (by assumption)) _ _ | exact Rv.same (h := h) (by assumption) (by assumption) | exact Sv.rv (by assumption) | ((repeat first | assumption | refine Rv.pushPut ?_ _ _ | refine Rv.push ?_ _ | refine Rv.same ?_ (by assumption) | exact Sv.rv (by assumption)) ; fail_if_success focus skip) | fail) (hv : cs[kv]? = some v := by (first | rfl | assumption | (simp only [List.getElem?_cons_zero, List.getElem?_cons_succ, Int.toNat_natCast, Nat.mul_one, Nat.add_zero, Nat.zero_add]; first | rfl | assumption))) (g : GoR P W q N ops b₀ os k ((d, v) :: ov) df h Q) : GoR P W q N ops b₀ (o :: os) k ov df h Q := GoR.loadV ho hd hN hgd hx hS hv g
theorem GoL.loadV' {t : TypeId} {x : Operand} {kv : Nat} {v : Value} {sz : Nat} {a : Option Addr} {len cap : Nat} {cs : List Value} (ho : o.op = .load t x) (hd : o.dst = some d) (hN : dOk d N = true) (hgd : o.guard = none) (hx : evO ov x = some (ptA a kv)) [hc : CT P t none] (hS : Rv P h sz a len cap cs := by first | assumption | exact Rv.pushPut (by assumption) _ _ | exact Rv.pushPut (Sv.rv (by assumption)) _ _ | exact Rv.same (h := h) (by assumption) (by assumption) | exact Sv.rv (by assumption) | ((repeat first | assumption | refine Rv.pushPut ?_ _ _ | refine Rv.push ?_ _ | refine Rv.same ?_ (by assumption) | exact Sv.rv (by assumption)) ; fail_if_success focus skip) | fail) (hv : cs[kv]? = some v := by (first | rfl | assumption | (simp only [List.getElem?_cons_zero, List.getElem?_cons_succ, Int.toNat_natCast, Nat.mul_one, Nat.add_zero, Nat.zero_add]; first | rfl | assumption))) (g : GoL P W q N ops (tr ++ [(some ⟨h.n, h.n, (blk a), [], false, true⟩)]) os k ((d, v) :: ov) df h Q) : GoL P W q N ops tr (o :: os) k ov df h Q := GoL.loadV ho hd hN hgd hx hS hv g
theorem GoR.fieldV' {s : TypeId} {f kk kv : Nat} {x : Operand} {sz : Nat} {a : Option Addr} {len cap : Nat} {cs : List Value} (ho : o.op = .fieldAddr s x f) (hd : o.dst = some d) (hN : dOk d N = true) (hgd : o.guard = none) (hx : evO ov x = some (ptA a kv)) [hf : FO P s f kk] (hS : Rv P h sz a len cap cs := by first | assumption | exact Rv.pushPut (by assumption) _ _ | exact Rv.pushPut (Sv.rv (by assumption)) _ _ | exact Rv.same (h := h) (by assumption) (by assumption) | exact Sv.rv (by assumption) | ((repeat first | assumption | refine Rv.pushPut ?_ _ _ | refine Rv.push ?_ _ | refine Rv.same ?_ (by assumption) | exact Sv.rv (by assumption)) ; fail_if_success focus skip) | fail) (hl : kv < cs.length := by assumption) (g : GoR P W q N ops b₀ os k ((d, (ptA a (kv + kk))) :: ov) df h Q) : GoR P W q N ops b₀ (o :: os) k ov df h Q := GoR.fieldV ho hd hN hgd hx hS hl g
theorem GoL.fieldV' {s : TypeId} {f kk kv : Nat} {x : Operand} {sz : Nat} {a : Option Addr} {len cap : Nat} {cs : List Value} (ho : o.op = .fieldAddr s x f) (hd : o.dst = some d) (hN : dOk d N = true) (hgd : o.guard = none) (hx : evO ov x = some (ptA a kv)) [hf : FO P s f kk] (hS : Rv P h sz a len cap cs := by first | assumption | exact Rv.pushPut (by assumption) _ _ | exact Rv.pushPut (Sv.rv (by assumption)) _ _ | exact Rv.same (h := h) (by assumption) (by assumption) | exact Sv.rv (by assumption) | ((repeat first | assumption | refine Rv.pushPut ?_ _ _ | refine Rv.push ?_ _ | refine Rv.same ?_ (by assumption) | exact Sv.rv (by assumption)) ; fail_if_success focus skip) | fail) (hl : kv < cs.length := by assumption) (g : GoL P W q N ops (tr ++ [none]) os k ((d, (ptA a (kv + kk))) :: ov) df h Q) : GoL P W q N ops tr (o :: os) k ov df h Q := GoL.fieldV ho hd hN hgd hx hS hl g
theorem GoR.loadVN' {t : TypeId} {x : Operand} {kv n : Nat} {l : List Value} {sz : Nat} {a : Option Addr} {len cap : Nat} {cs : List Value} (ho : o.op = .load t x) (hd : o.dst = some d) (hN : dOk d N = true) (hgd : o.guard = none) (hx : evO ov x = some (ptA a kv)) [hc : CT P t (some n)] (hS : Rv P h sz a len cap cs := by first | assumption | exact Rv.pushPut (by assumption) _ _ | exact Rv.pushPut (Sv.rv (by assumption)) _ _ | exact Rv.same (h := h) (by assumption) (by assumption) | exact Sv.rv (by assumption) | ((repeat first | assumption | refine Rv.pushPut ?_ _ _ | refine Rv.push ?_ _ | refine Rv.same ?_ (by assumption) | exact Sv.rv (by assumption)) ; fail_if_success focus skip) | fail) (hl : kv + n ≤ cs.length := by assumption) (hn : 0 < n := by decide) (hv : (cs.drop kv).take n = l := by assumption) (g : GoR P W q N ops b₀ os k ((d, (.agg l.toArray)) :: ov) df h Q) : GoR P W q N ops b₀ (o :: os) k ov df h Q := GoR.loadVN ho hd hN hgd hx hS hl hn hv g
theorem GoL.loadVN' {t : TypeId} {x : Operand} {kv n : Nat} {l : List Value} {sz : Nat} {a : Option Addr} {len cap : Nat} {cs : List Value} (ho : o.op = .load t x) (hd : o.dst = some d) (hN : dOk d N = true) (hgd : o.guard = none) (hx : evO ov x = some (ptA a kv)) [hc : CT P t (some n)] (hS : Rv P h sz a len cap cs := by first | assumption | exact Rv.pushPut (by assumption) _ _ | exact Rv.pushPut (Sv.rv (by assumption)) _ _ | exact Rv.same (h := h) (by assumption) (by assumption) | exact Sv.rv (by assumption) | ((repeat first | assumption | refine Rv.pushPut ?_ _ _ | refine Rv.push ?_ _ | refine Rv.same ?_ (by assumption) | exact Sv.rv (by assumption)) ; fail_if_success focus skip) | fail) (hl : kv + n ≤ cs.length := by assumption) (hn : 0 < n := by decide) (hv : (cs.drop kv).take n = l := by assumption) (g : GoL P W q N ops (tr ++ [(some ⟨h.n, h.n, (blk a), [], false, true⟩)]) os k ((d, (.agg l.toArray)) :: ov) df h Q) : GoL P W q N ops tr (o :: os) k ov df h Q := GoL.loadVN ho hd hN hgd hx hS hl hn hv g
theorem GoR.indexN' {t : TypeId} {x y : Operand} {kk : IntKind} {i : Nat} {a : Option Addr} {len cap : Nat} {cs : List Value} (ho : o.op = .indexAddr t x y) (hd : o.dst = some d) (hN : dOk d N = true) (hgd : o.guard = none) (hx : evO ov x = some (.slice a len cap)) (hy : evO ov y = some (.int kk (i : Int))) [he : EL P t (none, 1)] (hS : Rv P h 1 a len cap cs := by first | assumption | exact Rv.pushPut (by assumption) _ _ | exact Rv.pushPut (Sv.rv (by assumption)) _ _ | exact Rv.same (h := h) (by assumption) (by assumption) | exact Sv.rv (by assumption) | ((repeat first | assumption | refine Rv.pushPut ?_ _ _ | refine Rv.push ?_ _ | refine Rv.same ?_ (by assumption) | exact Sv.rv (by assumption)) ; fail_if_success focus skip) | fail) (h1 : i < len := by first | omega | (simp only [Int.toNat_natCast] at *; omega)) (g : GoR P W q N ops b₀ os k ((d, ptA a i) :: ov) df h Q) : GoR P W q N ops b₀ (o :: os) k ov df h Q := GoR.indexN ho hd hN hgd hx hy hS h1 g
theorem GoL.indexN' {t : TypeId} {x y : Operand} {kk : IntKind} {i : Nat} {a : Option Addr} {len cap : Nat} {cs : List Value} (ho : o.op = .indexAddr t x y) (hd : o.dst = some d) (hN : dOk d N = true) (hgd : o.guard = none) (hx : evO ov x = some (.slice a len cap)) (hy : evO ov y = some (.int kk (i : Int))) [he : EL P t (none, 1)] (hS : Rv P h 1 a len cap cs := by first | assumption | exact Rv.pushPut (by assumption) _ _ | exact Rv.pushPut (Sv.rv (by assumption)) _ _ | exact Rv.same (h := h) (by assumption) (by assumption) | exact Sv.rv (by assumption) | ((repeat first | assumption | refine Rv.pushPut ?_ _ _ | refine Rv.push ?_ _ | refine Rv.same ?_ (by assumption) | exact Sv.rv (by assumption)) ; fail_if_success focus skip) | fail) (h1 : i < len := by first | omega | (simp only [Int.toNat_natCast] at *; omega)) (g : GoL P W q N ops (tr ++ [none]) os k ((d, ptA a i) :: ov) df h Q) : GoL P W q N ops tr (o :: os) k ov df h Q := GoL.indexN ho hd hN hgd hx hy hS h1 g
theorem GoR.indexNs' {t : TypeId} {x y : Operand} {kk : IntKind} {i : Nat} {sz : Nat} {a : Option Addr} {len cap : Nat} {cs : List Value} (ho : o.op = .indexAddr t x y) (hd : o.dst = some d) (hN : dOk d N = true) (hgd : o.guard = none) (hx : evO ov x = some (.slice a len cap)) (hy : evO ov y = some (.int kk (i : Int))) [he : EL P t (none, sz)] (hS : Rv P h sz a len cap cs := by first | assumption | exact Rv.pushPut (by assumption) _ _ | exact Rv.pushPut (Sv.rv (by assumption)) _ _ | exact Rv.same (h := h) (by assumption) (by assumption) | exact Sv.rv (by assumption) | ((repeat first | assumption | refine Rv.pushPut ?_ _ _ | refine Rv.push ?_ _ | refine Rv.same ?_ (by assumption) | exact Sv.rv (by assumption)) ; fail_if_success focus skip) | fail) (h1 : i < len := by first | omega | (simp only [Int.toNat_natCast] at *; omega)) (g : GoR P W q N ops b₀ os k ((d, ptA a (i * sz)) :: ov) df h Q) : GoR P W q N ops b₀ (o :: os) k ov df h Q := GoR.indexNs ho hd hN hgd hx hy hS h1 g
theorem GoL.indexNs' {t : TypeId} {x y : Operand} {kk : IntKind} {i : Nat} {sz : Nat} {a : Option Addr} {len cap : Nat} {cs : List Value} (ho : o.op = .indexAddr t x y) (hd : o.dst = some d) (hN : dOk d N = true) (hgd : o.guard = none) (hx : evO ov x = some (.slice a len cap)) (hy : evO ov y = some (.int kk (i : Int))) [he : EL P t (none, sz)] (hS : Rv P h sz a len cap cs := by first | assumption | exact Rv.pushPut (by assumption) _ _ | exact Rv.pushPut (Sv.rv (by assumption)) _ _ | exact Rv.same (h := h) (by assumption) (by assumption) | exact Sv.rv (by assumption) | ((repeat first | assumption | refine Rv.pushPut ?_ _ _ | refine Rv.push ?_ _ | refine Rv.same ?_ (by assumption) | exact Sv.rv (by assumption)) ; fail_if_success focus skip) | fail) (h1 : i < len := by first | omega | (simp only [Int.toNat_natCast] at *; omega)) (g : GoL P W q N ops (tr ++ [none]) os k ((d, ptA a (i * sz)) :: ov) df h Q) : GoL P W q N ops tr (o :: os) k ov df h Q := GoL.indexNs ho hd hN hgd hx hy hS h1 g
theorem GoR.indexV' {t : TypeId} {x y : Operand} {kk : IntKind} {i : Int} {sz : Nat} {a : Option Addr} {len cap : Nat} {cs : List Value} (ho : o.op = .indexAddr t x y) (hd : o.dst = some d) (hN : dOk d N = true) (hgd : o.guard = none) (hx : evO ov x = some (.slice a len cap)) (hy : evO ov y = some (.int kk i)) [he : EL P t (none, sz)] (hS : Rv P h sz a len cap cs := by first | assumption | exact Rv.pushPut (by assumption) _ _ | exact Rv.pushPut (Sv.rv (by assumption)) _ _ | exact Rv.same (h := h) (by assumption) (by assumption) | exact Sv.rv (by assumption) | ((repeat first | assumption | refine Rv.pushPut ?_ _ _ | refine Rv.push ?_ _ | refine Rv.same ?_ (by assumption) | exact Sv.rv (by assumption)) ; fail_if_success focus skip) | fail) (h0 : 0 ≤ i := by first | omega | (simp only [Int.toNat_natCast] at *; omega)) (h1 : i < (len : Int) := by first | omega | (simp only [Int.toNat_natCast] at *; omega)) (g : GoR P W q N ops b₀ os k ((d, (ptA a (i.toNat * sz))) :: ov) df h Q) : GoR P W q N ops b₀ (o :: os) k ov df h Q := GoR.indexV ho hd hN hgd hx hy hS h0 h1 g
theorem GoL.indexV' {t : TypeId} {x y : Operand} {kk : IntKind} {i : Int} {sz : Nat} {a : Option Addr} {len cap : Nat} {cs : List Value} (ho : o.op = .indexAddr t x y) (hd : o.dst = some d) (hN : dOk d N = true) (hgd : o.guard = none) (hx : evO ov x = some (.slice a len cap)) (hy : evO ov y = some (.int kk i)) [he : EL P t (none, sz)] (hS : Rv P h sz a len cap cs := by first | assumption | exact Rv.pushPut (by assumption) _ _ | exact Rv.pushPut (Sv.rv (by assumption)) _ _ | exact Rv.same (h := h) (by assumption) (by assumption) | exact Sv.rv (by assumption) | ((repeat first | assumption | refine Rv.pushPut ?_ _ _ | refine Rv.push ?_ _ | refine Rv.same ?_ (by assumption) | exact Sv.rv (by assumption)) ; fail_if_success focus skip) | fail) (h0 : 0 ≤ i := by first | omega | (simp only [Int.toNat_natCast] at *; omega)) (h1 : i < (len : Int) := by first | omega | (simp only [Int.toNat_natCast] at *; omega)) (g : GoL P W q N ops (tr ++ [none]) os k ((d, (ptA a (i.toNat * sz))) :: ov) df h Q) : GoL P W q N ops tr (o :: os) k ov df h Q := GoL.indexV ho hd hN hgd hx hy hS h0 h1 g
theorem GoR.indexA' {t : TypeId} {n len : Nat} {x y : Operand} {b off : Nat} {kk : IntKind} {i : Int} (ho : o.op = .indexAddr t x y) (hd : o.dst = some d) (hN : dOk d N = true) (hgd : o.guard = none) (hx : evO ov x = some (.pointer (some ⟨b, off, none⟩))) (hy : evO ov y = some (.int kk i)) [he : EL P t (some len, n)] (h0 : 0 ≤ i := by first | omega | (simp only [Int.toNat_natCast] at *; omega)) (h1 : i < (len : Int) := by first | omega | (simp only [Int.toNat_natCast] at *; omega)) (g : GoR P W q N ops b₀ os k ((d, (.pointer (some ⟨b, off + i.toNat * n, none⟩))) :: ov) df h Q) : GoR P W q N ops b₀ (o :: os) k ov df h Q := GoR.indexA ho hd hN hgd hx hy h0 h1 g
theorem GoL.indexA' {t : TypeId} {n len : Nat} {x y : Operand} {b off : Nat} {kk : IntKind} {i : Int} (ho : o.op = .indexAddr t x y) (hd : o.dst = some d) (hN : dOk d N = true) (hgd : o.guard = none) (hx : evO ov x = some (.pointer (some ⟨b, off, none⟩))) (hy : evO ov y = some (.int kk i)) [he : EL P t (some len, n)] (h0 : 0 ≤ i := by first | omega | (simp only [Int.toNat_natCast] at *; omega)) (h1 : i < (len : Int) := by first | omega | (simp only [Int.toNat_natCast] at *; omega)) (g : GoL P W q N ops (tr ++ [none]) os k ((d, (.pointer (some ⟨b, off + i.toNat * n, none⟩))) :: ov) df h Q) : GoL P W q N ops tr (o :: os) k ov df h Q := GoL.indexA ho hd hN hgd hx hy h0 h1 g
theorem GoR.addN' {t t₂ : TypeId} {x y : Operand} {i j : Nat} (ho : o.op = .binOp .add t x y t₂) (hd : o.dst = some d) (hN : dOk d N = true) (hgd : o.guard = none) (hx : evO ov x = some (.int .i64 (i : Int))) (hy : evO ov y = some (.int .i64 (j : Int))) (h1 : i + j ≤ 9223372036854775807 := by first | omega | (simp only [Int.toNat_natCast] at *; omega)) (g : GoR P W q N ops b₀ os k ((d, .int .i64 ((i + j : Nat) : Int)) :: ov) df h Q) : GoR P W q N ops b₀ (o :: os) k ov df h Q := GoR.addN ho hd hN hgd hx hy h1 g
theorem GoL.addN' {t t₂ : TypeId} {x y : Operand} {i j : Nat} (ho : o.op = .binOp .add t x y t₂) (hd : o.dst = some d) (hN : dOk d N = true) (hgd : o.guard = none) (hx : evO ov x = some (.int .i64 (i : Int))) (hy : evO ov y = some (.int .i64 (j : Int))) (h1 : i + j ≤ 9223372036854775807 := by first | omega | (simp only [Int.toNat_natCast] at *; omega)) (g : GoL P W q N ops (tr ++ [none]) os k ((d, .int .i64 ((i + j : Nat) : Int)) :: ov) df h Q) : GoL P W q N ops tr (o :: os) k ov df h Q := GoL.addN ho hd hN hgd hx hy h1 g
theorem GoR.subN' {t t₂ : TypeId} {x y : Operand} {i j : Nat} (ho : o.op = .binOp .sub t x y t₂) (hd : o.dst = some d) (hN : dOk d N = true) (hgd : o.guard = none) (hx : evO ov x = some (.int .i64 (i : Int))) (hy : evO ov y = some (.int .i64 (j : Int))) (h1 : j ≤ i := by first | omega | (simp only [Int.toNat_natCast] at *; omega)) (h2 : i ≤ 9223372036854775807 := by first | omega | (simp only [Int.toNat_natCast] at *; omega)) (g : GoR P W q N ops b₀ os k ((d, .int .i64 ((i - j : Nat) : Int)) :: ov) df h Q) : GoR P W q N ops b₀ (o :: os) k ov df h Q := GoR.subN ho hd hN hgd hx hy h1 h2 g
theorem GoL.subN' {t t₂ : TypeId} {x y : Operand} {i j : Nat} (ho : o.op = .binOp .sub t x y t₂) (hd : o.dst = some d) (hN : dOk d N = true) (hgd : o.guard = none) (hx : evO ov x = some (.int .i64 (i : Int))) (hy : evO ov y = some (.int .i64 (j : Int))) (h1 : j ≤ i := by first | omega | (simp only [Int.toNat_natCast] at *; omega)) (h2 : i ≤ 9223372036854775807 := by first | omega | (simp only [Int.toNat_natCast] at *; omega)) (g : GoL P W q N ops (tr ++ [none]) os k ((d, .int .i64 ((i - j : Nat) : Int)) :: ov) df h Q) : GoL P W q N ops tr (o :: os) k ov df h Q := GoL.subN ho hd hN hgd hx hy h1 h2 g
theorem GoR.add' {t t₂ : TypeId} {x y : Operand} {i j : Int} (ho : o.op = .binOp .add t x y t₂) (hd : o.dst = some d) (hN : dOk d N = true) (hgd : o.guard = none) (hx : evO ov x = some (.int .i64 i)) (hy : evO ov y = some (.int .i64 j)) (h0 : -9223372036854775808 ≤ i + j := by first | omega | (simp only [Int.toNat_natCast] at *; omega)) (h1 : i + j ≤ 9223372036854775807 := by first | omega | (simp only [Int.toNat_natCast] at *; omega)) (g : GoR P W q N ops b₀ os k ((d, .int .i64 (i + j)) :: ov) df h Q) : GoR P W q N ops b₀ (o :: os) k (ov) df h Q := GoR.add ho hd hN hgd hx hy h0 h1 g
theorem GoL.add' {t t₂ : TypeId} {x y : Operand} {i j : Int} (ho : o.op = .binOp .add t x y t₂) (hd : o.dst = some d) (hN : dOk d N = true) (hgd : o.guard = none) (hx : evO ov x = some (.int .i64 i)) (hy : evO ov y = some (.int .i64 j)) (h0 : -9223372036854775808 ≤ i + j := by first | omega | (simp only [Int.toNat_natCast] at *; omega)) (h1 : i + j ≤ 9223372036854775807 := by first | omega | (simp only [Int.toNat_natCast] at *; omega)) (g : GoL P W q N ops (tr ++ [none]) os k ((d, .int .i64 (i + j)) :: ov) df h Q) : GoL P W q N ops tr (o :: os) k (ov) df h Q := GoL.add ho hd hN hgd hx hy h0 h1 g
theorem GoR.sub' {t t₂ : TypeId} {x y : Operand} {i j : Int} (ho : o.op = .binOp .sub t x y t₂) (hd : o.dst = some d) (hN : dOk d N = true) (hgd : o.guard = none) (hx : evO ov x = some (.int .i64 i)) (hy : evO ov y = some (.int .i64 j)) (h0 : -9223372036854775808 ≤ i - j := by first | omega | (simp only [Int.toNat_natCast] at *; omega)) (h1 : i - j ≤ 9223372036854775807 := by first | omega | (simp only [Int.toNat_natCast] at *; omega)) (g : GoR P W q N ops b₀ os k ((d, .int .i64 (i - j)) :: ov) df h Q) : GoR P W q N ops b₀ (o :: os) k (ov) df h Q := GoR.sub ho hd hN hgd hx hy h0 h1 g
theorem GoL.sub' {t t₂ : TypeId} {x y : Operand} {i j : Int} (ho : o.op = .binOp .sub t x y t₂) (hd : o.dst = some d) (hN : dOk d N = true) (hgd : o.guard = none) (hx : evO ov x = some (.int .i64 i)) (hy : evO ov y = some (.int .i64 j)) (h0 : -9223372036854775808 ≤ i - j := by first | omega | (simp only [Int.toNat_natCast] at *; omega)) (h1 : i - j ≤ 9223372036854775807 := by first | omega | (simp only [Int.toNat_natCast] at *; omega)) (g : GoL P W q N ops (tr ++ [none]) os k ((d, .int .i64 (i - j)) :: ov) df h Q) : GoL P W q N ops tr (o :: os) k (ov) df h Q := GoL.sub ho hd hN hgd hx hy h0 h1 g
theorem GoR.addM' {t t₂ : TypeId} {x y : Operand} {kd : IntKind} {i j : Nat} (ho : o.op = .binOp .add t x y t₂) (hd : o.dst = some d) (hN : dOk d N = true) (hgd : o.guard = none) (hx : evO ov x = some (.int kd (i : Int))) (hy : evO ov y = some (.int kd (j : Int))) (h1 : i + j < 2 ^ (kd.bits - if kd.signed then 1 else 0) := by first | (simp [IntKind.bits, IntKind.signed]; fail_if_success focus skip) | (simp [IntKind.bits, IntKind.signed]; omega)) (g : GoR P W q N ops b₀ os k ((d, .int kd ((i + j : Nat) : Int)) :: ov) df h Q) : GoR P W q N ops b₀ (o :: os) k ov df h Q := GoR.addM ho hd hN hgd hx hy h1 g
theorem GoL.addM' {t t₂ : TypeId} {x y : Operand} {kd : IntKind} {i j : Nat} (ho : o.op = .binOp .add t x y t₂) (hd : o.dst = some d) (hN : dOk d N = true) (hgd : o.guard = none) (hx : evO ov x = some (.int kd (i : Int))) (hy : evO ov y = some (.int kd (j : Int))) (h1 : i + j < 2 ^ (kd.bits - if kd.signed then 1 else 0) := by first | (simp [IntKind.bits, IntKind.signed]; fail_if_success focus skip) | (simp [IntKind.bits, IntKind.signed]; omega)) (g : GoL P W q N ops (tr ++ [none]) os k ((d, .int kd ((i + j : Nat) : Int)) :: ov) df h Q) : GoL P W q N ops tr (o :: os) k ov df h Q := GoL.addM ho hd hN hgd hx hy h1 g
theorem GoR.subM' {t t₂ : TypeId} {x y : Operand} {kd : IntKind} {i j : Nat} (ho : o.op = .binOp .sub t x y t₂) (hd : o.dst = some d) (hN : dOk d N = true) (hgd : o.guard = none) (hx : evO ov x = some (.int kd (i : Int))) (hy : evO ov y = some (.int kd (j : Int))) (h0 : j ≤ i := by first | omega | (simp only [Int.toNat_natCast] at *; omega)) (h1 : i < 2 ^ (kd.bits - if kd.signed then 1 else 0) := by first | (simp [IntKind.bits, IntKind.signed]; fail_if_success focus skip) | (simp [IntKind.bits, IntKind.signed]; omega)) (g : GoR P W q N ops b₀ os k ((d, .int kd ((i - j : Nat) : Int)) :: ov) df h Q) : GoR P W q N ops b₀ (o :: os) k ov df h Q := GoR.subM ho hd hN hgd hx hy h0 h1 g
theorem GoL.subM' {t t₂ : TypeId} {x y : Operand} {kd : IntKind} {i j : Nat} (ho : o.op = .binOp .sub t x y t₂) (hd : o.dst = some d) (hN : dOk d N = true) (hgd : o.guard = none) (hx : evO ov x = some (.int kd (i : Int))) (hy : evO ov y = some (.int kd (j : Int))) (h0 : j ≤ i := by first | omega | (simp only [Int.toNat_natCast] at *; omega)) (h1 : i < 2 ^ (kd.bits - if kd.signed then 1 else 0) := by first | (simp [IntKind.bits, IntKind.signed]; fail_if_success focus skip) | (simp [IntKind.bits, IntKind.signed]; omega)) (g : GoL P W q N ops (tr ++ [none]) os k ((d, .int kd ((i - j : Nat) : Int)) :: ov) df h Q) : GoL P W q N ops tr (o :: os) k ov df h Q := GoL.subM ho hd hN hgd hx hy h0 h1 g
theorem GoR.mulM' {t t₂ : TypeId} {x y : Operand} {kd : IntKind} {i j : Nat} (ho : o.op = .binOp .mul t x y t₂) (hd : o.dst = some d) (hN : dOk d N = true) (hgd : o.guard = none) (hx : evO ov x = some (.int kd (i : Int))) (hy : evO ov y = some (.int kd (j : Int))) (h1 : i * j < 2 ^ (kd.bits - if kd.signed then 1 else 0) := by first | (simp [IntKind.bits, IntKind.signed]; fail_if_success focus skip) | (simp [IntKind.bits, IntKind.signed]; omega)) (g : GoR P W q N ops b₀ os k ((d, .int kd ((i * j : Nat) : Int)) :: ov) df h Q) : GoR P W q N ops b₀ (o :: os) k ov df h Q := GoR.mulM ho hd hN hgd hx hy h1 g
theorem GoL.mulM' {t t₂ : TypeId} {x y : Operand} {kd : IntKind} {i j : Nat} (ho : o.op = .binOp .mul t x y t₂) (hd : o.dst = some d) (hN : dOk d N = true) (hgd : o.guard = none) (hx : evO ov x = some (.int kd (i : Int))) (hy : evO ov y = some (.int kd (j : Int))) (h1 : i * j < 2 ^ (kd.bits - if kd.signed then 1 else 0) := by first | (simp [IntKind.bits, IntKind.signed]; fail_if_success focus skip) | (simp [IntKind.bits, IntKind.signed]; omega)) (g : GoL P W q N ops (tr ++ [none]) os k ((d, .int kd ((i * j : Nat) : Int)) :: ov) df h Q) : GoL P W q N ops tr (o :: os) k ov df h Q := GoL.mulM ho hd hN hgd hx hy h1 g
theorem GoR.shlN' {t t₂ : TypeId} {x y : Operand} {kd kd' : IntKind} {i j : Nat} (ho : o.op = .binOp .shl t x y t₂) (hd : o.dst = some d) (hN : dOk d N = true) (hgd : o.guard = none) (hx : evO ov x = some (.int kd (i : Int))) (hy : evO ov y = some (.int kd' (j : Int))) (h1 : Nat.ble j kd.bits = true) (h2 : i * 2 ^ j < 2 ^ (kd.bits - if kd.signed then 1 else 0) := by first | (simp [IntKind.bits, IntKind.signed]; fail_if_success focus skip) | (simp [IntKind.bits, IntKind.signed]; omega)) (g : GoR P W q N ops b₀ os k ((d, .int kd ((i * 2 ^ j : Nat) : Int)) :: ov) df h Q) : GoR P W q N ops b₀ (o :: os) k ov df h Q := GoR.shlN ho hd hN hgd hx hy h1 h2 g
theorem GoL.shlN' {t t₂ : TypeId} {x y : Operand} {kd kd' : IntKind} {i j : Nat} (ho : o.op = .binOp .shl t x y t₂) (hd : o.dst = some d) (hN : dOk d N = true) (hgd : o.guard = none) (hx : evO ov x = some (.int kd (i : Int))) (hy : evO ov y = some (.int kd' (j : Int))) (h1 : Nat.ble j kd.bits = true) (h2 : i * 2 ^ j < 2 ^ (kd.bits - if kd.signed then 1 else 0) := by first | (simp [IntKind.bits, IntKind.signed]; fail_if_success focus skip) | (simp [IntKind.bits, IntKind.signed]; omega)) (g : GoL P W q N ops (tr ++ [none]) os k ((d, .int kd ((i * 2 ^ j : Nat) : Int)) :: ov) df h Q) : GoL P W q N ops tr (o :: os) k ov df h Q := GoL.shlN ho hd hN hgd hx hy h1 h2 g
theorem GoR.orN' {t t₂ : TypeId} {x y : Operand} {kd : IntKind} {i j : Nat} (ho : o.op = .binOp .or t x y t₂) (hd : o.dst = some d) (hN : dOk d N = true) (hgd : o.guard = none) (hx : evO ov x = some (.int kd (i : Int))) (hy : evO ov y = some (.int kd (j : Int))) (h1 : i < 2 ^ (kd.bits - if kd.signed then 1 else 0) := by first | (simp [IntKind.bits, IntKind.signed]; fail_if_success focus skip) | (simp [IntKind.bits, IntKind.signed]; omega)) (h2 : j < 2 ^ (kd.bits - if kd.signed then 1 else 0) := by first | (simp [IntKind.bits, IntKind.signed]; fail_if_success focus skip) | (simp [IntKind.bits, IntKind.signed]; omega)) (g : GoR P W q N ops b₀ os k ((d, .int kd ((i ||| j : Nat) : Int)) :: ov) df h Q) : GoR P W q N ops b₀ (o :: os) k ov df h Q := GoR.orN ho hd hN hgd hx hy h1 h2 g
theorem GoL.orN' {t t₂ : TypeId} {x y : Operand} {kd : IntKind} {i j : Nat} (ho : o.op = .binOp .or t x y t₂) (hd : o.dst = some d) (hN : dOk d N = true) (hgd : o.guard = none) (hx : evO ov x = some (.int kd (i : Int))) (hy : evO ov y = some (.int kd (j : Int))) (h1 : i < 2 ^ (kd.bits - if kd.signed then 1 else 0) := by first | (simp [IntKind.bits, IntKind.signed]; fail_if_success focus skip) | (simp [IntKind.bits, IntKind.signed]; omega)) (h2 : j < 2 ^ (kd.bits - if kd.signed then 1 else 0) := by first | (simp [IntKind.bits, IntKind.signed]; fail_if_success focus skip) | (simp [IntKind.bits, IntKind.signed]; omega)) (g : GoL P W q N ops (tr ++ [none]) os k ((d, .int kd ((i ||| j : Nat) : Int)) :: ov) df h Q) : GoL P W q N ops tr (o :: os) k ov df h Q := GoL.orN ho hd hN hgd hx hy h1 h2 g
theorem GoR.remN' {t t₂ : TypeId} {x y : Operand} {kd : IntKind} {i j : Nat} (ho : o.op = .binOp .rem t x y t₂) (hd : o.dst = some d) (hN : dOk d N = true) (hgd : o.guard = none) (hx : evO ov x = some (.int kd (i : Int))) (hy : evO ov y = some (.int kd (j : Int))) (h1 : 0 < j := by first | omega | (simp only [Int.toNat_natCast] at *; omega)) (g : GoR P W q N ops b₀ os k ((d, .int kd ((i % j : Nat) : Int)) :: ov) df h Q) : GoR P W q N ops b₀ (o :: os) k ov df h Q := GoR.remN ho hd hN hgd hx hy h1 g
theorem GoL.remN' {t t₂ : TypeId} {x y : Operand} {kd : IntKind} {i j : Nat} (ho : o.op = .binOp .rem t x y t₂) (hd : o.dst = some d) (hN : dOk d N = true) (hgd : o.guard = none) (hx : evO ov x = some (.int kd (i : Int))) (hy : evO ov y = some (.int kd (j : Int))) (h1 : 0 < j := by first | omega | (simp only [Int.toNat_natCast] at *; omega)) (g : GoL P W q N ops (tr ++ [none]) os k ((d, .int kd ((i % j : Nat) : Int)) :: ov) df h Q) : GoL P W q N ops tr (o :: os) k ov df h Q := GoL.remN ho hd hN hgd hx hy h1 g
theorem GoR.quoN' {t t₂ : TypeId} {x y : Operand} {kd : IntKind} {i j : Nat} (ho : o.op = .binOp .quo t x y t₂) (hd : o.dst = some d) (hN : dOk d N = true) (hgd : o.guard = none) (hx : evO ov x = some (.int kd (i : Int))) (hy : evO ov y = some (.int kd (j : Int))) (h1 : 0 < j := by first | omega | (simp only [Int.toNat_natCast] at *; omega)) (h2 : i < 2 ^ (kd.bits - if kd.signed then 1 else 0) := by first | (simp [IntKind.bits, IntKind.signed]; fail_if_success focus skip) | (simp [IntKind.bits, IntKind.signed]; omega)) (g : GoR P W q N ops b₀ os k ((d, .int kd ((i / j : Nat) : Int)) :: ov) df h Q) : GoR P W q N ops b₀ (o :: os) k ov df h Q := GoR.quoN ho hd hN hgd hx hy h1 h2 g
theorem GoL.quoN' {t t₂ : TypeId} {x y : Operand} {kd : IntKind} {i j : Nat} (ho : o.op = .binOp .quo t x y t₂) (hd : o.dst = some d) (hN : dOk d N = true) (hgd : o.guard = none) (hx : evO ov x = some (.int kd (i : Int))) (hy : evO ov y = some (.int kd (j : Int))) (h1 : 0 < j := by first | omega | (simp only [Int.toNat_natCast] at *; omega)) (h2 : i < 2 ^ (kd.bits - if kd.signed then 1 else 0) := by first | (simp [IntKind.bits, IntKind.signed]; fail_if_success focus skip) | (simp [IntKind.bits, IntKind.signed]; omega)) (g : GoL P W q N ops (tr ++ [none]) os k ((d, .int kd ((i / j : Nat) : Int)) :: ov) df h Q) : GoL P W q N ops tr (o :: os) k ov df h Q := GoL.quoN ho hd hN hgd hx hy h1 h2 g
theorem GoR.convW' {t t₂ : TypeId} {x : Operand} {kd kd' : IntKind} {i : Nat} (ho : o.op = .convert t t₂ x) (hd : o.dst = some d) (hN : dOk d N = true) (hgd : o.guard = none) (hx : evO ov x = some (.int kd' (i : Int))) [hc : IC P t t₂ kd] (hs : i < 2 ^ (kd.bits - if kd.signed then 1 else 0) := by first | (simp [IntKind.bits, IntKind.signed]; omega) | omega) (g : GoR P W q N ops b₀ os k ((d, .int kd (i : Int)) :: ov) df h Q) : GoR P W q N ops b₀ (o :: os) k ov df h Q := GoR.convW ho hd hN hgd hx hs g
theorem GoL.convW' {t t₂ : TypeId} {x : Operand} {kd kd' : IntKind} {i : Nat} (ho : o.op = .convert t t₂ x) (hd : o.dst = some d) (hN : dOk d N = true) (hgd : o.guard = none) (hx : evO ov x = some (.int kd' (i : Int))) [hc : IC P t t₂ kd] (hs : i < 2 ^ (kd.bits - if kd.signed then 1 else 0) := by first | (simp [IntKind.bits, IntKind.signed]; omega) | omega) (g : GoL P W q N ops (tr ++ [none]) os k ((d, .int kd (i : Int)) :: ov) df h Q) : GoL P W q N ops tr (o :: os) k ov df h Q := GoL.convW ho hd hN hgd hx hs g
theorem GoR.strV' {t t₂ : TypeId} {x : Operand} {a : Option Addr} {len cap : Nat} {zs : List UInt8} (ho : o.op = .convert t t₂ x) (hd : o.dst = some d) (hN : dOk d N = true) (hgd : o.guard = none) (hx : evO ov x = some (.slice a len cap)) [hB : BY P t t₂] (hS : Rv P h 1 a len cap (zs.map bv) := by first | assumption | exact Rv.pushPut (by assumption) _ _ | exact Rv.pushPut (Sv.rv (by assumption)) _ _ | exact Rv.same (h := h) (by assumption) (by assumption) | exact Sv.rv (by assumption) | ((repeat first | assumption | refine Rv.pushPut ?_ _ _ | refine Rv.push ?_ _ | refine Rv.same ?_ (by assumption) | exact Sv.rv (by assumption)) ; fail_if_success focus skip) | fail) (g : GoR P W q N ops b₀ os k ((d, .string ⟨zs.toArray⟩) :: ov) df h Q) : GoR P W q N ops b₀ (o :: os) k ov df h Q := GoR.strV ho hd hN hgd hx hS g
theorem GoL.strV' {t t₂ : TypeId} {x : Operand} {a : Option Addr} {len cap : Nat} {zs : List UInt8} (ho : o.op = .convert t t₂ x) (hd : o.dst = some d) (hN : dOk d N = true) (hgd : o.guard = none) (hx : evO ov x = some (.slice a len cap)) [hB : BY P t t₂] (hS : Rv P h 1 a len cap (zs.map bv) := by first | assumption | exact Rv.pushPut (by assumption) _ _ | exact Rv.pushPut (Sv.rv (by assumption)) _ _ | exact Rv.same (h := h) (by assumption) (by assumption) | exact Sv.rv (by assumption) | ((repeat first | assumption | refine Rv.pushPut ?_ _ _ | refine Rv.push ?_ _ | refine Rv.same ?_ (by assumption) | exact Sv.rv (by assumption)) ; fail_if_success focus skip) | fail) (g : ∀ rd, (∀ i ∈ rd, i ∈ blk a) → GoL P W q N ops (tr ++ [some ⟨h.n, h.n, rd, [], false, true⟩]) os k ((d, .string ⟨zs.toArray⟩) :: ov) df h Q) : GoL P W q N ops tr (o :: os) k ov df h Q := GoL.strV ho hd hN hgd hx hS g
theorem GoR.store' {t ct : TypeId} {x y : Operand} {b off n : Nat} {c l c' : List Value} {v : Value} (ho : o.op = .store t x y) (hd : o.dst = none) (hgd : o.guard = none) (hx : evO ov x = some (.pointer (some ⟨b, off, none⟩))) (hy : evO ov y = some v) [hs : SZ P t n] (hg : h.get b = some (.cells c ct) := by (first | assumption | exact AHeap.get_push_same _ _ | ((repeat first | exact AHeap.get_push_same _ _ | assumption | refine get_push_lt ?_ | exact AHeap.get_put_same _ (by first | omega | (simp only [AHeap.n_push, AHeap.n_put]; omega)) _ | exact get_put_self (by assumption) | apply get_put_self | refine get_put_other (by first | omega | (simp only [AHeap.n_push, AHeap.n_put]; omega)) ?_ | refine Same.get (by assumption) ?_ | refine Keeps.get (by assumption) ?_ (fun hi => by have hx := Own.out (by assumption) hi; omega)) ; fail_if_success focus skip) | fail)) (hl : cellsL v = l) (h1 : l.length = n) (h2 : off + n ≤ c.length := by first | (simp; fail_if_success focus skip) | (simp [cellsL]; fail_if_success focus skip) | (simp [cellsL]; omega)) (h3 : l.all Value.oneCell' = true) (hc : setL c off l = c' := by first | (simp only [setL, cellsL, List.take_zero, List.take_succ_cons, List.drop_succ_cons, List.drop_zero, List.drop_nil, List.length_cons, List.length_nil, List.nil_append, List.cons_append, Nat.zero_add, Nat.reduceAdd, List.take_nil]; rfl) | rfl) (hw : W b := by first | exact .inr (by omega) | exact .inr (by simp only [AHeap.n_push, AHeap.n_put]; omega) | (simp; fail_if_success focus skip) | (simp; omega)) (g : GoR P W q N ops true os k ov df (h.put b (some (.cells c' ct))) Q) : GoR P W q N ops true (o :: os) k ov df h Q := GoR.store ho hd hgd hx hy hg hl h1 h2 h3 hc hw g
theorem GoL.store' {t ct : TypeId} {x y : Operand} {b off n : Nat} {c l c' : List Value} {v : Value} (ho : o.op = .store t x y) (hd : o.dst = none) (hgd : o.guard = none) (hx : evO ov x = some (.pointer (some ⟨b, off, none⟩))) (hy : evO ov y = some v) [hs : SZ P t n] (hg : h.get b = some (.cells c ct) := by (first | assumption | exact AHeap.get_push_same _ _ | ((repeat first | exact AHeap.get_push_same _ _ | assumption | refine get_push_lt ?_ | exact AHeap.get_put_same _ (by first | omega | (simp only [AHeap.n_push, AHeap.n_put]; omega)) _ | exact get_put_self (by assumption) | apply get_put_self | refine get_put_other (by first | omega | (simp only [AHeap.n_push, AHeap.n_put]; omega)) ?_ | refine Same.get (by assumption) ?_ | refine Keeps.get (by assumption) ?_ (fun hi => by have hx := Own.out (by assumption) hi; omega)) ; fail_if_success focus skip) | fail)) (hl : cellsL v = l) (h1 : l.length = n) (h2 : off + n ≤ c.length := by first | (simp; fail_if_success focus skip) | (simp [cellsL]; fail_if_success focus skip) | (simp [cellsL]; omega)) (h3 : l.all Value.oneCell' = true) (hc : setL c off l = c' := by first | (simp only [setL, cellsL, List.take_zero, List.take_succ_cons, List.drop_succ_cons, List.drop_zero, List.drop_nil, List.length_cons, List.length_nil, List.nil_append, List.cons_append, Nat.zero_add, Nat.reduceAdd, List.take_nil]; rfl) | rfl) (hw : W b := by first | exact .inr (by omega) | exact .inr (by simp only [AHeap.n_push, AHeap.n_put]; omega) | (simp; fail_if_success focus skip) | (simp; omega)) (g : GoL P W q N ops (tr ++ [(some ⟨h.n, h.n, [b], [b], false, false⟩)]) os k ov df (h.put b (some (.cells c' ct))) Q) : GoL P W q N ops tr (o :: os) k ov df h Q := GoL.store ho hd hgd hx hy hg hl h1 h2 h3 hc hw g
theorem Go.cond_t' {o : Operand} {a b : Code} {B : Bool} (ho : evO ov o = some (.bool B)) (hB : B = true := by first | with_reducible rfl | with_reducible assumption | (with_reducible refine @decide_eq_true _ _ ?_; first | with_reducible rfl | omega) | (with_reducible refine @decide_eq_false _ _ ?_; omega) | with_reducible exact Bool.not_false | with_reducible exact Bool.not_true | (simp; fail_if_success focus skip) | (simp; omega)) (g : Go P W q N (.code a :: k) .normal ov df h Q) : Go P W q N (.code (.cond o a b) :: k) .normal ov df h Q := Go.cond_t ho hB g
theorem Go.cond_f' {o : Operand} {a b : Code} {B : Bool} (ho : evO ov o = some (.bool B)) (hB : B = false := by first | with_reducible rfl | with_reducible assumption | (with_reducible refine @decide_eq_true _ _ ?_; first | with_reducible rfl | omega) | (with_reducible refine @decide_eq_false _ _ ?_; omega) | with_reducible exact Bool.not_false | with_reducible exact Bool.not_true | (simp; fail_if_success focus skip) | (simp; omega)) (g : Go P W q N (.code b :: k) .normal ov df h Q) : Go P W q N (.code (.cond o a b) :: k) .normal ov df h Q := Go.cond_f ho hB g
theorem GoR.build' {c' : List Value} {t : TypeId} {ps : Array (Nat × Operand)} {z : List Value} {pl : List (Nat × Nat)} {vs : List (Nat × Value)} {c : List Value} (ho : o.op = .build t ps) (hd : o.dst = some d) (hN : dOk d N = true) (hgd : o.guard = none) [hs : ST P t z pl] (hp : evPs ov ps.toList = some vs) (hf : fillL (fun i => pl[i]?) z vs = some c) (hn : c = c' := by first | (simp only [setL, Value.cells, List.take_zero, List.take_succ_cons, List.drop_succ_cons, List.drop_zero, List.drop_nil, List.length_cons, List.length_nil, List.nil_append, List.cons_append, Nat.zero_add, Nat.reduceAdd, List.take_nil]; rfl) | rfl) (g : GoR P W q N ops b₀ os k ((d, (.agg c'.toArray)) :: ov) df h Q) : GoR P W q N ops b₀ (o :: os) k ov df h Q := by subst hn; exact GoR.build ho hd hN hgd hp hf g
theorem GoL.build' {c' : List Value} {t : TypeId} {ps : Array (Nat × Operand)} {z : List Value} {pl : List (Nat × Nat)} {vs : List (Nat × Value)} {c : List Value} (ho : o.op = .build t ps) (hd : o.dst = some d) (hN : dOk d N = true) (hgd : o.guard = none) [hs : ST P t z pl] (hp : evPs ov ps.toList = some vs) (hf : fillL (fun i => pl[i]?) z vs = some c) (hn : c = c' := by first | (simp only [setL, Value.cells, List.take_zero, List.take_succ_cons, List.drop_succ_cons, List.drop_zero, List.drop_nil, List.length_cons, List.length_nil, List.nil_append, List.cons_append, Nat.zero_add, Nat.reduceAdd, List.take_nil]; rfl) | rfl) (g : GoL P W q N ops (tr ++ [none]) os k ((d, (.agg c'.toArray)) :: ov) df h Q) : GoL P W q N ops tr (o :: os) k ov df h Q := by subst hn; exact GoL.build ho hd hN hgd hp hf g
theorem Go.fin1 {x : Exit} {a : Tmp} {t ct : TypeId} {n₀ : Nat} {b off : Nat} {c : List Value} {v : Value} {Q : Value → AHeap → Prop} (hx : x = .normal ∨ x = .ret) (ha : ov.find a = some (.pointer (some ⟨b, off, none⟩))) [hc : CT P t none] (hg : h.get b = some (.cells c ct) := by (first | assumption | exact AHeap.get_push_same _ _ | ((repeat first | exact AHeap.get_push_same _ _ | assumption | refine get_push_lt ?_ | exact AHeap.get_put_same _ (by first | omega | (simp only [AHeap.n_push, AHeap.n_put]; omega)) _ | exact get_put_self (by assumption) | apply get_put_self | refine get_put_other (by first | omega | (simp only [AHeap.n_push, AHeap.n_put]; omega)) ?_ | refine Same.get (by assumption) ?_ | refine Keeps.get (by assumption) ?_ (fun hi => by have hx := Own.out (by assumption) hi; omega)) ; fail_if_success focus skip) | fail)) (hv : c[off]? = some v := by (first | rfl | assumption | (simp only [List.getElem?_cons_zero, List.getElem?_cons_succ, Int.toNat_natCast, Nat.mul_one, Nat.add_zero, Nat.zero_add]; first | rfl | assumption))) (hq : Q v h) : Go P W q N [] x ov [] h (Fin P [.cell a t] n₀ Q) := Go.fin (vs := [v]) hx (.cell ha hc hg hv .nil) hq
end
structure Wrap (B : Prop) : Prop where
 out : B
theorem Go.run {A B : Prop} (k : Wrap B → A := by (intro b_; (repeat (first|refine GoR.end ?_|(refine GoR.gd rfl ?_;first|refine GoR.wanted' rfl rfl rfl rfl (g:=?_)|refine GoR.unwanted' rfl rfl rfl rfl (hd:=rfl) (hN:=rfl) (g:=?_)|refine GoR.unwantedU rfl rfl rfl rfl rfl rfl ?_)|(refine GoR.kk 0 rfl ?_;first|refine GoR.move rfl rfl rfl rfl rfl ?_|refine GoR.assign rfl rfl rfl rfl rfl ?_)|(refine GoR.kk 1 rfl ?_;first|refine GoR.load' rfl rfl rfl rfl rfl (g:=?_)|refine GoR.loadA' rfl rfl rfl rfl rfl (hv:=rfl) (g:=?_)|refine GoR.loadV' rfl rfl rfl rfl rfl (g:=?_)|refine GoR.loadVN' rfl rfl rfl rfl rfl (g:=?_))|(refine GoR.kk 2 rfl ?_;first|refine GoR.store' rfl rfl rfl rfl rfl (hl:=rfl) (h1:=rfl) (h3:=rfl) (g:=?_))|(refine GoR.kk 3 rfl ?_;first|refine GoR.fieldAddr rfl rfl rfl rfl rfl ?_|refine GoR.indexN' rfl rfl rfl rfl rfl rfl (g:=?_)|refine GoR.indexNs' rfl rfl rfl rfl rfl rfl (g:=?_)|refine GoR.indexV' rfl rfl rfl rfl rfl rfl (g:=?_)|refine GoR.indexA' rfl rfl rfl rfl rfl rfl (g:=?_)|refine GoR.fieldV' rfl rfl rfl rfl rfl (g:=?_))|(refine GoR.kk 4 rfl ?_;first|refine GoR.eq rfl rfl rfl rfl rfl rfl ?_|refine GoR.ne rfl rfl rfl rfl rfl rfl ?_|refine GoR.lt rfl rfl rfl rfl rfl rfl ?_|refine GoR.le rfl rfl rfl rfl rfl rfl ?_|refine GoR.gt rfl rfl rfl rfl rfl rfl ?_|refine GoR.ge rfl rfl rfl rfl rfl rfl ?_|refine GoR.addN' rfl rfl rfl rfl rfl rfl (g:=?_)|refine GoR.subN' rfl rfl rfl rfl rfl rfl (g:=?_)|refine GoR.add' rfl rfl rfl rfl rfl rfl (g:=?_)|refine GoR.sub' rfl rfl rfl rfl rfl rfl (g:=?_)|refine GoR.addM' rfl rfl rfl rfl rfl rfl (g:=?_)|refine GoR.subM' rfl rfl rfl rfl rfl rfl (g:=?_)|refine GoR.mulM' rfl rfl rfl rfl rfl rfl (g:=?_)|refine GoR.shrN rfl rfl rfl rfl rfl rfl rfl ?_|refine GoR.structEq rfl rfl rfl rfl rfl rfl (by rfl) (by rfl) ?_|refine GoR.structNe rfl rfl rfl rfl rfl rfl (by rfl) (by rfl) ?_|refine GoR.strEq rfl rfl rfl rfl rfl rfl ?_|refine GoR.strNe rfl rfl rfl rfl rfl rfl ?_|refine GoR.remN' rfl rfl rfl rfl rfl rfl (g:=?_)|refine GoR.quoN' rfl rfl rfl rfl rfl rfl (g:=?_)|refine GoR.shlN' rfl rfl rfl rfl rfl rfl rfl (g:=?_)|refine GoR.orN' rfl rfl rfl rfl rfl rfl (g:=?_))|(refine GoR.kk 5 rfl ?_;first|refine GoR.len rfl rfl rfl rfl rfl ?_|refine GoR.lenStr rfl rfl rfl rfl rfl ?_|refine GoR.capB rfl rfl rfl rfl rfl ?_)|(refine GoR.kk 7 rfl ?_;first|refine GoR.pickE' rfl rfl rfl rfl rfl (hx:=rfl) (hy:=rfl) (g:=?_)|refine GoR.pickN' rfl rfl rfl rfl rfl (hx:=rfl) (hy:=rfl) (g:=?_)|refine GoR.pickB rfl rfl rfl rfl rfl rfl rfl ?_)|(refine GoR.kk 8 rfl ?_;first|refine GoR.boxA rfl rfl rfl rfl rfl ?_|refine GoR.boxS rfl rfl rfl rfl rfl rfl ?_|refine GoR.alloc rfl rfl rfl rfl ?_)|(refine GoR.kk 9 rfl ?_;first|refine GoR.strV' rfl rfl rfl rfl rfl (g:=?_)|refine GoR.conv_u8 rfl rfl rfl rfl rfl ?_|refine GoR.convW' rfl rfl rfl rfl rfl (g:=?_)|refine GoR.conv_u16 rfl rfl rfl rfl rfl ?_|refine GoR.conv_u32 rfl rfl rfl rfl rfl ?_)|(refine GoR.kk 10 rfl ?_;first|refine GoR.build' rfl rfl rfl rfl rfl rfl (g:=?_))|(refine GoR.kk 11 rfl ?_;first|refine GoR.extract rfl rfl rfl rfl rfl rfl ?_|refine GoR.not rfl rfl rfl rfl rfl ?_|refine GoR.nilCheck rfl rfl rfl rfl rfl ?_|refine GoR.nilCheckF rfl rfl rfl rfl rfl ?_|refine GoR.makeFunc rfl rfl rfl rfl rfl rfl ?_)|(refine Go.kk 0 rfl ?_;refine Go.seq ?_)|(refine Go.kk 1 rfl ?_;refine Go.region (by kernel_rfl) rfl ?_)|(refine Go.kk 2 rfl ?_;refine Go.drawnQ rfl (by kernel_rfl) rfl ?_)|(refine Go.kk 3 rfl ?_;first|refine Go.cond_t' rfl (g:=?_)|refine Go.cond_f' rfl (g:=?_))|(refine Go.kk 4 rfl ?_;refine Go.block ?_)|(refine Go.kk 5 rfl ?_;first|refine Go.skip ?_|refine Go.ret ?_|refine Go.exit ?_|refine Go.scope ?_)|refine Go.leave_normal ?_|refine Go.leave_same ?_|refine Go.leave_ret ?_|refine Go.ret_code ?_|refine Go.exit_code ?_|refine Go.leave_other rfl ?_|refine Go.sc_normal ?_|refine Go.sc_ret ?_|refine Go.sc_exit ?_|refine Go.exit_back ?_|refine Go.ret_back ?_)); exact b_.out)) (g : B) : A := k ⟨g⟩
theorem Go.runL {A B : Prop} (k : Wrap B → A := by (intro b_; (repeat (first|(refine GoL.gd rfl ?_;first|refine GoL.wanted' rfl rfl rfl rfl (g:=?_)|refine GoL.unwanted' rfl rfl rfl rfl (hd:=rfl) (hN:=rfl) (g:=?_)|refine GoL.unwantedU rfl rfl rfl rfl rfl rfl ?_)|(refine GoL.kk 0 rfl ?_;first|refine GoL.move rfl rfl rfl rfl rfl ?_|refine GoL.assign rfl rfl rfl rfl rfl ?_)|(refine GoL.kk 1 rfl ?_;first|refine GoL.load' rfl rfl rfl rfl rfl (g:=?_)|refine GoL.loadA' rfl rfl rfl rfl rfl (hv:=rfl) (g:=?_)|refine GoL.loadV' rfl rfl rfl rfl rfl (g:=?_)|refine GoL.loadVN' rfl rfl rfl rfl rfl (g:=?_))|(refine GoL.kk 3 rfl ?_;first|refine GoL.fieldAddr rfl rfl rfl rfl rfl ?_|refine GoL.indexN' rfl rfl rfl rfl rfl rfl (g:=?_)|refine GoL.indexNs' rfl rfl rfl rfl rfl rfl (g:=?_)|refine GoL.indexV' rfl rfl rfl rfl rfl rfl (g:=?_)|refine GoL.indexA' rfl rfl rfl rfl rfl rfl (g:=?_)|refine GoL.fieldV' rfl rfl rfl rfl rfl (g:=?_))|(refine GoL.kk 4 rfl ?_;first|refine GoL.eq rfl rfl rfl rfl rfl rfl ?_|refine GoL.ne rfl rfl rfl rfl rfl rfl ?_|refine GoL.lt rfl rfl rfl rfl rfl rfl ?_|refine GoL.le rfl rfl rfl rfl rfl rfl ?_|refine GoL.gt rfl rfl rfl rfl rfl rfl ?_|refine GoL.ge rfl rfl rfl rfl rfl rfl ?_|refine GoL.addN' rfl rfl rfl rfl rfl rfl (g:=?_)|refine GoL.subN' rfl rfl rfl rfl rfl rfl (g:=?_)|refine GoL.add' rfl rfl rfl rfl rfl rfl (g:=?_)|refine GoL.sub' rfl rfl rfl rfl rfl rfl (g:=?_)|refine GoL.addM' rfl rfl rfl rfl rfl rfl (g:=?_)|refine GoL.subM' rfl rfl rfl rfl rfl rfl (g:=?_)|refine GoL.mulM' rfl rfl rfl rfl rfl rfl (g:=?_)|refine GoL.shrN rfl rfl rfl rfl rfl rfl rfl ?_|refine GoL.strEq rfl rfl rfl rfl rfl rfl ?_|refine GoL.strNe rfl rfl rfl rfl rfl rfl ?_|refine GoL.remN' rfl rfl rfl rfl rfl rfl (g:=?_)|refine GoL.quoN' rfl rfl rfl rfl rfl rfl (g:=?_)|refine GoL.shlN' rfl rfl rfl rfl rfl rfl rfl (g:=?_)|refine GoL.orN' rfl rfl rfl rfl rfl rfl (g:=?_))|(refine GoL.kk 5 rfl ?_;first|refine GoL.len rfl rfl rfl rfl rfl ?_|refine GoL.lenStr rfl rfl rfl rfl rfl ?_|refine GoL.capB rfl rfl rfl rfl rfl ?_)|(refine GoL.kk 7 rfl ?_;first|refine GoL.pickE' rfl rfl rfl rfl rfl (hx:=rfl) (hy:=rfl) (g:=?_)|refine GoL.pickN' rfl rfl rfl rfl rfl (hx:=rfl) (hy:=rfl) (g:=?_))|(refine GoL.kk 8 rfl ?_;first|refine GoL.boxA rfl rfl rfl rfl rfl ?_|refine GoL.boxS rfl rfl rfl rfl rfl rfl ?_|refine GoL.alloc rfl rfl rfl rfl ?_)|(refine GoL.kk 9 rfl ?_;first|refine GoL.conv_u8 rfl rfl rfl rfl rfl ?_|refine GoL.convW' rfl rfl rfl rfl rfl (g:=?_)|refine GoL.conv_u16 rfl rfl rfl rfl rfl ?_|refine GoL.conv_u32 rfl rfl rfl rfl rfl ?_)|(refine GoL.kk 10 rfl ?_;first|refine GoL.build' rfl rfl rfl rfl rfl rfl (g:=?_))|(refine GoL.kk 11 rfl ?_;first|refine GoL.extract rfl rfl rfl rfl rfl rfl ?_|refine GoL.not rfl rfl rfl rfl rfl ?_|refine GoL.nilCheck rfl rfl rfl rfl rfl ?_|refine GoL.nilCheckF rfl rfl rfl rfl rfl ?_|refine GoL.makeFunc rfl rfl rfl rfl rfl rfl ?_))); exact b_.out)) (g : B) : A := k ⟨g⟩
theorem GoL.end_ {P : Program} {W : Nat → Prop} {q : Bool} {N : Nat} {k : List It} {ov : Ov} {df : List Nat} {h : AHeap} {Q : PQ} {ops : Array Oper} {tr : List (Option LE)} (hl : loudP ops tr tr 0 := by (simp only [List.nil_append, List.cons_append]); repeat (first | exact loudP.nil | refine loudP.none ?_ | refine loudP.new (fun _ hb => absurd hb List.not_mem_nil) ?_ | refine loudP.row (by repeat (first | exact loudRowP.nil | refine loudRowP.none ?_ | refine loudRowP.bef (by decide +kernel) ?_ | refine loudRowP.apart (by first | exact .inl rfl | exact .inr (by simp)) rfl (by first | (intro i hi; have hx := Own.out (by assumption) hi; have hy := Sv.lt (by assumption) i hi; refine ⟨?_, ?_, ?_⟩ <;> first | (simp only [List.mem_cons, List.not_mem_nil, or_false, not_false_eq_true]; omega) | (simp; omega) | trivial | simp | omega) | fail) ?_)) ?_)) (g : Go P W q N k .normal ov df h Q) : GoL P W q N ops tr [] k ov df h Q := GoL.end hl g
theorem Go.runN {A B : Prop} (k : Wrap B → A := by (intro b_; (repeat (first|refine GoR.end ?_|(refine GoR.gd rfl ?_;first|refine GoR.wanted' rfl rfl rfl rfl (g:=?_)|refine GoR.unwanted' rfl rfl rfl rfl (hd:=rfl) (hN:=rfl) (g:=?_)|refine GoR.unwantedU rfl rfl rfl rfl rfl rfl ?_)|(refine GoR.kk 0 rfl ?_;first|refine GoR.move rfl rfl rfl rfl rfl ?_|refine GoR.assign rfl rfl rfl rfl rfl ?_)|(refine GoR.kk 1 rfl ?_;first|refine GoR.load' rfl rfl rfl rfl rfl (g:=?_)|refine GoR.loadA' rfl rfl rfl rfl rfl (hv:=rfl) (g:=?_)|refine GoR.loadV' rfl rfl rfl rfl rfl (g:=?_)|refine GoR.loadVN' rfl rfl rfl rfl rfl (g:=?_))|(refine GoR.kk 2 rfl ?_;first|refine GoR.store' rfl rfl rfl rfl rfl (hl:=rfl) (h1:=rfl) (h3:=rfl) (g:=?_))|(refine GoR.kk 3 rfl ?_;first|refine GoR.fieldAddr rfl rfl rfl rfl rfl ?_|refine GoR.indexN' rfl rfl rfl rfl rfl rfl (g:=?_)|refine GoR.indexNs' rfl rfl rfl rfl rfl rfl (g:=?_)|refine GoR.indexV' rfl rfl rfl rfl rfl rfl (g:=?_)|refine GoR.indexA' rfl rfl rfl rfl rfl rfl (g:=?_)|refine GoR.fieldV' rfl rfl rfl rfl rfl (g:=?_))|(refine GoR.kk 4 rfl ?_;first|refine GoR.eq rfl rfl rfl rfl rfl rfl ?_|refine GoR.ne rfl rfl rfl rfl rfl rfl ?_|refine GoR.lt rfl rfl rfl rfl rfl rfl ?_|refine GoR.le rfl rfl rfl rfl rfl rfl ?_|refine GoR.gt rfl rfl rfl rfl rfl rfl ?_|refine GoR.ge rfl rfl rfl rfl rfl rfl ?_|refine GoR.addN' rfl rfl rfl rfl rfl rfl (g:=?_)|refine GoR.subN' rfl rfl rfl rfl rfl rfl (g:=?_)|refine GoR.add' rfl rfl rfl rfl rfl rfl (g:=?_)|refine GoR.sub' rfl rfl rfl rfl rfl rfl (g:=?_)|refine GoR.addM' rfl rfl rfl rfl rfl rfl (g:=?_)|refine GoR.subM' rfl rfl rfl rfl rfl rfl (g:=?_)|refine GoR.mulM' rfl rfl rfl rfl rfl rfl (g:=?_)|refine GoR.shrN rfl rfl rfl rfl rfl rfl rfl ?_|refine GoR.structEq rfl rfl rfl rfl rfl rfl (by rfl) (by rfl) ?_|refine GoR.structNe rfl rfl rfl rfl rfl rfl (by rfl) (by rfl) ?_|refine GoR.strEq rfl rfl rfl rfl rfl rfl ?_|refine GoR.strNe rfl rfl rfl rfl rfl rfl ?_|refine GoR.remN' rfl rfl rfl rfl rfl rfl (g:=?_)|refine GoR.quoN' rfl rfl rfl rfl rfl rfl (g:=?_)|refine GoR.shlN' rfl rfl rfl rfl rfl rfl rfl (g:=?_)|refine GoR.orN' rfl rfl rfl rfl rfl rfl (g:=?_))|(refine GoR.kk 5 rfl ?_;first|refine GoR.len rfl rfl rfl rfl rfl ?_|refine GoR.lenStr rfl rfl rfl rfl rfl ?_|refine GoR.capB rfl rfl rfl rfl rfl ?_)|(refine GoR.kk 7 rfl ?_;first|refine GoR.pickE' rfl rfl rfl rfl rfl (hx:=rfl) (hy:=rfl) (g:=?_)|refine GoR.pickN' rfl rfl rfl rfl rfl (hx:=rfl) (hy:=rfl) (g:=?_)|refine GoR.pickB rfl rfl rfl rfl rfl rfl rfl ?_)|(refine GoR.kk 8 rfl ?_;first|refine GoR.boxA rfl rfl rfl rfl rfl ?_|refine GoR.boxS rfl rfl rfl rfl rfl rfl ?_|refine GoR.alloc rfl rfl rfl rfl ?_)|(refine GoR.kk 9 rfl ?_;first|refine GoR.strV' rfl rfl rfl rfl rfl (g:=?_)|refine GoR.conv_u8 rfl rfl rfl rfl rfl ?_|refine GoR.convW' rfl rfl rfl rfl rfl (g:=?_)|refine GoR.conv_u16 rfl rfl rfl rfl rfl ?_|refine GoR.conv_u32 rfl rfl rfl rfl rfl ?_)|(refine GoR.kk 10 rfl ?_;first|refine GoR.build' rfl rfl rfl rfl rfl rfl (g:=?_))|(refine GoR.kk 11 rfl ?_;first|refine GoR.extract rfl rfl rfl rfl rfl rfl ?_|refine GoR.not rfl rfl rfl rfl rfl ?_|refine GoR.nilCheck rfl rfl rfl rfl rfl ?_|refine GoR.nilCheckF rfl rfl rfl rfl rfl ?_|refine GoR.makeFunc rfl rfl rfl rfl rfl rfl ?_)|(refine Go.kk 0 rfl ?_;refine Go.seq ?_)|(refine Go.kk 1 rfl ?_;refine Go.region (by kernel_rfl) rfl ?_)|(refine Go.kk 3 rfl ?_;first|refine Go.cond_t' rfl (g:=?_)|refine Go.cond_f' rfl (g:=?_))|(refine Go.kk 4 rfl ?_;refine Go.block ?_)|(refine Go.kk 5 rfl ?_;first|refine Go.skip ?_|refine Go.ret ?_|refine Go.exit ?_|refine Go.scope ?_)|refine Go.leave_normal ?_|refine Go.leave_same ?_|refine Go.leave_ret ?_|refine Go.ret_code ?_|refine Go.exit_code ?_|refine Go.leave_other rfl ?_|refine Go.sc_normal ?_|refine Go.sc_ret ?_|refine Go.sc_exit ?_|refine Go.exit_back ?_|refine Go.ret_back ?_)); exact b_.out)) (g : B) : A := k ⟨g⟩
theorem Go.one {A B : Prop} (k : Wrap B → A := by (intro b_; ((first|refine GoR.end ?_|(refine GoR.gd rfl ?_;first|refine GoR.wanted' rfl rfl rfl rfl (g:=?_)|refine GoR.unwanted' rfl rfl rfl rfl (hd:=rfl) (hN:=rfl) (g:=?_)|refine GoR.unwantedU rfl rfl rfl rfl rfl rfl ?_)|(refine GoR.kk 0 rfl ?_;first|refine GoR.move rfl rfl rfl rfl rfl ?_|refine GoR.assign rfl rfl rfl rfl rfl ?_)|(refine GoR.kk 1 rfl ?_;first|refine GoR.load' rfl rfl rfl rfl rfl (g:=?_)|refine GoR.loadA' rfl rfl rfl rfl rfl (hv:=rfl) (g:=?_)|refine GoR.loadV' rfl rfl rfl rfl rfl (g:=?_)|refine GoR.loadVN' rfl rfl rfl rfl rfl (g:=?_))|(refine GoR.kk 2 rfl ?_;first|refine GoR.store' rfl rfl rfl rfl rfl (hl:=rfl) (h1:=rfl) (h3:=rfl) (g:=?_))|(refine GoR.kk 3 rfl ?_;first|refine GoR.fieldAddr rfl rfl rfl rfl rfl ?_|refine GoR.indexN' rfl rfl rfl rfl rfl rfl (g:=?_)|refine GoR.indexNs' rfl rfl rfl rfl rfl rfl (g:=?_)|refine GoR.indexV' rfl rfl rfl rfl rfl rfl (g:=?_)|refine GoR.indexA' rfl rfl rfl rfl rfl rfl (g:=?_)|refine GoR.fieldV' rfl rfl rfl rfl rfl (g:=?_))|(refine GoR.kk 4 rfl ?_;first|refine GoR.eq rfl rfl rfl rfl rfl rfl ?_|refine GoR.ne rfl rfl rfl rfl rfl rfl ?_|refine GoR.lt rfl rfl rfl rfl rfl rfl ?_|refine GoR.le rfl rfl rfl rfl rfl rfl ?_|refine GoR.gt rfl rfl rfl rfl rfl rfl ?_|refine GoR.ge rfl rfl rfl rfl rfl rfl ?_|refine GoR.addN' rfl rfl rfl rfl rfl rfl (g:=?_)|refine GoR.subN' rfl rfl rfl rfl rfl rfl (g:=?_)|refine GoR.add' rfl rfl rfl rfl rfl rfl (g:=?_)|refine GoR.sub' rfl rfl rfl rfl rfl rfl (g:=?_)|refine GoR.addM' rfl rfl rfl rfl rfl rfl (g:=?_)|refine GoR.subM' rfl rfl rfl rfl rfl rfl (g:=?_)|refine GoR.mulM' rfl rfl rfl rfl rfl rfl (g:=?_)|refine GoR.shrN rfl rfl rfl rfl rfl rfl rfl ?_|refine GoR.structEq rfl rfl rfl rfl rfl rfl (by rfl) (by rfl) ?_|refine GoR.structNe rfl rfl rfl rfl rfl rfl (by rfl) (by rfl) ?_|refine GoR.strEq rfl rfl rfl rfl rfl rfl ?_|refine GoR.strNe rfl rfl rfl rfl rfl rfl ?_|refine GoR.remN' rfl rfl rfl rfl rfl rfl (g:=?_)|refine GoR.quoN' rfl rfl rfl rfl rfl rfl (g:=?_)|refine GoR.shlN' rfl rfl rfl rfl rfl rfl rfl (g:=?_)|refine GoR.orN' rfl rfl rfl rfl rfl rfl (g:=?_))|(refine GoR.kk 5 rfl ?_;first|refine GoR.len rfl rfl rfl rfl rfl ?_|refine GoR.lenStr rfl rfl rfl rfl rfl ?_|refine GoR.capB rfl rfl rfl rfl rfl ?_)|(refine GoR.kk 7 rfl ?_;first|refine GoR.pickE' rfl rfl rfl rfl rfl (hx:=rfl) (hy:=rfl) (g:=?_)|refine GoR.pickN' rfl rfl rfl rfl rfl (hx:=rfl) (hy:=rfl) (g:=?_)|refine GoR.pickB rfl rfl rfl rfl rfl rfl rfl ?_)|(refine GoR.kk 8 rfl ?_;first|refine GoR.boxA rfl rfl rfl rfl rfl ?_|refine GoR.boxS rfl rfl rfl rfl rfl rfl ?_|refine GoR.alloc rfl rfl rfl rfl ?_)|(refine GoR.kk 9 rfl ?_;first|refine GoR.strV' rfl rfl rfl rfl rfl (g:=?_)|refine GoR.conv_u8 rfl rfl rfl rfl rfl ?_|refine GoR.convW' rfl rfl rfl rfl rfl (g:=?_)|refine GoR.conv_u16 rfl rfl rfl rfl rfl ?_|refine GoR.conv_u32 rfl rfl rfl rfl rfl ?_)|(refine GoR.kk 10 rfl ?_;first|refine GoR.build' rfl rfl rfl rfl rfl rfl (g:=?_))|(refine GoR.kk 11 rfl ?_;first|refine GoR.extract rfl rfl rfl rfl rfl rfl ?_|refine GoR.not rfl rfl rfl rfl rfl ?_|refine GoR.nilCheck rfl rfl rfl rfl rfl ?_|refine GoR.nilCheckF rfl rfl rfl rfl rfl ?_|refine GoR.makeFunc rfl rfl rfl rfl rfl rfl ?_)|(refine Go.kk 0 rfl ?_;refine Go.seq ?_)|(refine Go.kk 1 rfl ?_;refine Go.region (by kernel_rfl) rfl ?_)|(refine Go.kk 2 rfl ?_;refine Go.drawnQ rfl (by kernel_rfl) rfl ?_)|(refine Go.kk 3 rfl ?_;first|refine Go.cond_t' rfl (g:=?_)|refine Go.cond_f' rfl (g:=?_))|(refine Go.kk 4 rfl ?_;refine Go.block ?_)|(refine Go.kk 5 rfl ?_;first|refine Go.skip ?_|refine Go.ret ?_|refine Go.exit ?_|refine Go.scope ?_)|refine Go.leave_normal ?_|refine Go.leave_same ?_|refine Go.leave_ret ?_|refine Go.ret_code ?_|refine Go.exit_code ?_|refine Go.leave_other rfl ?_|refine Go.sc_normal ?_|refine Go.sc_ret ?_|refine Go.sc_exit ?_|refine Go.exit_back ?_|refine Go.ret_back ?_)); exact b_.out)) (g : B) : A := k ⟨g⟩
theorem GoL.endN {P : Program} {W : Nat → Prop} {q : Bool} {N : Nat} {k : List It} {ov : Ov} {df : List Nat} {h : AHeap} {Q : PQ} {ops : Array Oper} {tr : List (Option LE)} (hl : loudP ops tr tr 0 := by (simp only [List.nil_append, List.cons_append, AHeap.n_push, AHeap.n_put]); repeat (first | exact loudP.nil | refine loudP.none ?_ | refine loudP.new (fun _ hb => absurd hb List.not_mem_nil) ?_ | refine loudP.row (by repeat (first | exact loudRowP.nil | refine loudRowP.none ?_ | refine loudRowP.bef (by decide +kernel) ?_ | refine loudRowP.apart (by first | exact .inl rfl | exact .inr (by simp)) rfl (fun i hi => by simp only [List.mem_cons, List.not_mem_nil, or_false] at hi; subst hi; first | (simp; fail_if_success focus skip) | (simp; omega)) ?_)) ?_)) (g : Go P W q N k .normal ov df h Q) : GoL P W q N ops tr [] k ov df h Q := GoL.end hl g
theorem GoL.endC {P : Program} {W : Nat → Prop} {q : Bool} {N : Nat} {k : List It} {ov : Ov} {df : List Nat} {h : AHeap} {Q : PQ} {ops : Array Oper} {tr : List (Option LE)} (hl : loudP ops tr tr 0 := by (simp only [List.nil_append, List.cons_append]); repeat (first | exact loudP.nil | refine loudP.none ?_ | refine loudP.new (fun _ hb => absurd hb List.not_mem_nil) ?_ | refine loudP.row (by repeat (first | exact loudRowP.nil | refine loudRowP.none ?_ | refine loudRowP.bef (by decide +kernel) ?_ | refine loudRowP.apart (by first | exact .inl rfl | exact .inr (by simp)) rfl (fun i hi => by first | (have hx := hdis _ hi; first | (simp; fail_if_success focus skip) | (simp; omega) | (simp [hx]; fail_if_success focus skip)) | (have hx := hdis2 _ hi; first | (simp; fail_if_success focus skip) | (simp; omega) | (simp [hx]; fail_if_success focus skip))) ?_)) ?_)) (g : Go P W q N k .normal ov df h Q) : GoL P W q N ops tr [] k ov df h Q := GoL.end hl g
theorem Go.finB {P : Program} {W : Nat → Prop} {q : Bool} {N : Nat} {ov : Ov} {h : AHeap} {x : Exit} {a : Tmp} {t ct : TypeId} {n₀ : Nat} {b off : Nat} {c : List Value} {v : Value} {Q : Value → AHeap → Prop} (ha : ov.find a = some (.pointer (some ⟨b, off, none⟩))) [hc : CT P t none] (hg : h.get b = some (.cells c ct) := by (first | assumption | exact AHeap.get_push_same _ _ | ((repeat first | exact AHeap.get_push_same _ _ | assumption | refine get_push_lt ?_ | exact AHeap.get_put_same _ (by first | omega | (simp only [AHeap.n_push, AHeap.n_put]; omega)) _ | exact get_put_self (by assumption) | apply get_put_self | refine get_put_other (by first | omega | (simp only [AHeap.n_push, AHeap.n_put]; omega)) ?_ | refine Same.get (by assumption) ?_ | refine Keeps.get (by assumption) ?_ (fun hi => by have hx := Own.out (by assumption) hi; omega)) ; fail_if_success focus skip) | fail)) (hv : c[off]? = some v := by (first | rfl | assumption | (simp only [List.getElem?_cons_zero, List.getElem?_cons_succ, Int.toNat_natCast, Nat.mul_one, Nat.add_zero, Nat.zero_add]; first | rfl | assumption))) (hq : Q v h) (hx : x = .normal ∨ x = .ret := by first|exact .inr rfl|exact .inl rfl) : Go P W q N [] x ov [] h (Fin P [.cell a t] n₀ Q) := Go.fin (vs := [v]) hx (.cell ha hc hg hv .nil) hq
theorem GoL.st {A B : Prop} (k : Wrap B → A := by (intro b_; refine GoL.store' rfl rfl rfl rfl rfl (hl:=rfl) (h1:=rfl) (h3:=rfl) (g:=?_); exact b_.out)) (g : B) : A := k ⟨g⟩
theorem hg_ {h : AHeap} {b : Nat} {o : Option AObj} (hg : h.get b = o := by (first | assumption | exact AHeap.get_push_same _ _ | ((repeat first | exact AHeap.get_push_same _ _ | assumption | refine get_push_lt ?_ | exact AHeap.get_put_same _ (by first | omega | (simp only [AHeap.n_push, AHeap.n_put]; omega)) _ | exact get_put_self (by assumption) | apply get_put_self | refine get_put_other (by first | omega | (simp only [AHeap.n_push, AHeap.n_put]; omega)) ?_ | refine Same.get (by assumption) ?_ | refine Keeps.get (by assumption) ?_ (fun hi => by have hx := Own.out (by assumption) hi; omega)) ; fail_if_success focus skip) | fail)) : h.get b = o := hg
theorem Go.finA {P : Program} {W : Nat → Prop} {q : Bool} {N : Nat} {ov : Ov} {h : AHeap} {Q : Value → AHeap → Prop} {x : Exit} {rs : List ResultVar} {n₀ : Nat} {vs : List Value} (hr : evRs ov rs = some vs) (hq : Q (retV vs) h) (hx : x = .normal ∨ x = .ret := by first|exact .inr rfl|exact .inl rfl) : Go P W q N [] x ov [] h (Fin P rs n₀ Q) := .finT hx hr hq
end Go.Proofs.Ytccbmmnkiihkaaa
namespace Go.Proofs.Ytccbmmnkiihkaaa
structure News (h h' h₂ : AHeap) : Prop where
 same : Same h h'
 n : h'.n = h₂.n
 get : ∀ i, h.n ≤ i → h'.get i = h₂.get i
theorem News.sv {h h' h₂ : AHeap} {t : TypeId} {sz len cap : Nat} {a : Option Addr} {cs : List Value} (k : News h h' h₂) (s : Sv h₂ t sz a len cap cs) (o : Own h.n a) : Sv h' t sz a len cap cs := by
 cases s with
 | nil => exact .nil
 | mk hg ho hl hc => exact .mk (by rw [k.get _ (o _ (by simp [blk]))]; exact hg) ho hl hc
section
variable {P : Program} {W : Nat → Prop} {q : Bool} {N : Nat} {k : List It} {ov : Ov} {df : List Nat} {h : AHeap} {Q : PQ} {ops : Array Oper} {os : List Oper} {tr : List (Option LE)} {b₀ : Bool} {x : Exit}
theorem GoL.name (g : ∀ h', h' = h → GoL P W q N ops tr os k ov df h' Q) : GoL P W q N ops tr os k ov df h Q := g h rfl
theorem GoR.name (g : ∀ h', h' = h → GoR P W q N ops b₀ os k ov df h' Q) : GoR P W q N ops b₀ os k ov df h Q := g h rfl
theorem Go.name (g : ∀ h', h' = h → Go P W q N k x ov df h' Q) : Go P W q N k x ov df h Q := g h rfl
end
def Jn {α : Type} (fr : α → Ov) (dfs : α → List Nat) (hp : α → AHeap) (I : α → Prop) : List Value → List Nat → AHeap → Prop := fun tm df h => ∃ a, I a ∧ Rp (fr a) tm ∧ df = dfs a ∧ h = hp a
theorem Gx.join {P : Program} {W : Nat → Prop} {q : Bool} {N : Nat} {k : List It} {Q : PQ} {R : List Value → List Nat → AHeap → Prop} (hR : ∀ tm df h, tm.length = N → R tm df h → Gx P W q k .normal tm df h Q) : ∀ (pre : List It) (x : Exit) (tm : List Value) (df : List Nat) (h : AHeap), tm.length = N → Gx P W q (pre ++ .back R :: k) x tm df h Q → Gx P W q (pre ++ k) x tm df h Q
 | [], x, tm, df, h, hN, g => by
  by_cases hx : x = .normal
  · subst hx; exact hR tm df h hN (g.1 rfl)
  · exact g.2 hx
 | .leave id :: pre, x, tm, df, h, hN, g => Gx.join hR pre (Exit.leave id x) tm df h hN g
 | .sc :: pre, x, tm, df, h, hN, g => ⟨g.1, Gx.join hR pre x tm df h hN g.2⟩
 | .soft _ :: pre, x, tm, df, h, hN, g => Gx.join hR pre x tm df h hN g
 | .back R' :: pre, x, tm, df, h, hN, g => ⟨g.1, fun e => Gx.join hR pre x tm df h hN (g.2 e)⟩
 | .code c :: pre, x, tm, df, h, hN, g => ⟨fun e => by
   obtain ⟨x', tm', df', h', r, n, g'⟩ := g.1 e
   exact ⟨x', tm', df', h', r, n, Gx.join hR pre x' tm' df' h' (n.trans hN) g'⟩, fun e => Gx.join hR pre x tm df h hN (g.2 e)⟩
section
variable {P : Program} {W : Nat → Prop} {q : Bool} {N : Nat} {k : List It} {ov : Ov} {df : List Nat} {h : AHeap} {Q : PQ} {x : Exit}
theorem Go.joinN {α : Type} (pre : List It) (fr : α → Ov) (dfs : α → List Nat) (hp : α → AHeap) (I : α → Prop) (first : Go P W q N (pre ++ .back (Jn fr dfs hp I) :: k) x ov df h Q) (rest : ∀ a, I a → Go P W q N k .normal (fr a) (dfs a) (hp a) Q) : Go P W q N (pre ++ k) x ov df h Q := fun tm hN hr =>
 Gx.join (fun tm df h hN ⟨a, ha, hra, e1, e2⟩ => by subst e1 e2; exact rest a ha tm hN hra) pre x tm df h hN (first tm hN hr)
theorem Go.join1 {α : Type} {i1 : It} (fr : α → Ov) (dfs : α → List Nat) (hp : α → AHeap) (I : α → Prop) (first : Go P W q N (i1 :: .back (Jn fr dfs hp I) :: k) x ov df h Q) (rest : ∀ a, I a → Go P W q N k .normal (fr a) (dfs a) (hp a) Q) : Go P W q N (i1 :: k) x ov df h Q := Go.joinN [i1] fr dfs hp I first rest
theorem Go.join2 {α : Type} {i1 i2 : It} (fr : α → Ov) (dfs : α → List Nat) (hp : α → AHeap) (I : α → Prop) (first : Go P W q N (i1 :: i2 :: .back (Jn fr dfs hp I) :: k) x ov df h Q) (rest : ∀ a, I a → Go P W q N k .normal (fr a) (dfs a) (hp a) Q) : Go P W q N (i1 :: i2 :: k) x ov df h Q := Go.joinN [i1, i2] fr dfs hp I first rest
theorem Go.joined {α : Type} {fr : α → Ov} {dfs : α → List Nat} {hp : α → AHeap} {I : α → Prop} (a : α) (ha : I a) (hs : Ov.sub ov (fr a)) (hd : df = dfs a) (hh : h = hp a) : Go P W q N (.back (Jn fr dfs hp I) :: k) .normal ov df h Q := fun tm hN hr => ⟨fun _ => ⟨a, ha, hr.sub hs, hd, hh⟩, fun e => absurd rfl e⟩
end
end Go.Proofs.Ytccbmmnkiihkaaa
namespace Go.Proofs.Ytccbmmnkiihkaaa
def YieldRun (P : Program) (W : Nat → Prop) (l : Nat) (args : List Value) (h : AHeap) (c : Bool) (h' : AHeap) : Prop :=
 AFr W h h' ∧ ∀ (o : Oper) (tm : List Value) (f : Operand) (xs : Array Operand) (ts : Array TypeId), o.op = .call ⟨.value f, xs, ts⟩ → evalT tm f = .func (.yield l) #[] #[] → xs.toList.map (evalT tm) = args → OpRun P Ev W o tm h (.bool c) h'
def YieldS (P : Program) (wr : List Nat) (l : Nat) (args : List Value) (h : AHeap) (Q : Bool → AHeap → Prop) : Prop := ∃ c h', YieldRun P (· ∈ wr) l args h c h' ∧ Q c h'
theorem YieldS.mono {P : Program} {wr : List Nat} {l : Nat} {args : List Value} {h : AHeap} {Q Q' : Bool → AHeap → Prop} (k : YieldS P wr l args h Q) (hq : ∀ c h', Q c h' → Q' c h') : YieldS P wr l args h Q' := let ⟨c, h', a, b⟩ := k; ⟨c, h', a, hq _ _ b⟩
theorem YieldS.keeps {P : Program} {wr : List Nat} {l : Nat} {args : List Value} {h : AHeap} {Q : Bool → AHeap → Prop} (k : YieldS P wr l args h Q) : YieldS P wr l args h fun c h' => Keeps wr h h' ∧ Q c h' := let ⟨c, h', a, b⟩ := k; ⟨c, h', a, ⟨a.1.n, fun i hi hn => a.1.get i hi hn⟩, b⟩
def AsQ (P : Program) (W : Nat → Prop) (l : Nat) (bo : Code) (Q : PQ) : PQ := fun x tm df h => x = .normal ∧ ∃ pe' tmL' ps' as' bo' df', h.get l = some (.loop .ready pe' tmL' ps' as' bo' df') ∧ ∃ x' tm' d' h', Run P W true bo ⟨tm, df, h.put l (some (.loop .busy pe' tmL' ps' as' bo' df'))⟩ x' ⟨tm', d', h'⟩ ∧ Q x' tm' d' h'
def BoQ (l : Nat) (Q : Bool → AHeap → Prop) : PQ := fun x tm df h => ∃ jump st₂ pe₂ tm₂ ps₂ as₂ bo₂ df₂, jumpOf x = some jump ∧ h.get l = some (.loop st₂ pe₂ tm₂ ps₂ as₂ bo₂ df₂) ∧ Q jump.isNone (h.put l (some (.loop (if jump.isNone then .ready else .done) jump tm₂ ps₂ as₂ bo₂ df₂)))
theorem Rp.set {ov : Ov} {tm : List Value} {N d : Nat} (hr : Rp ov tm) (hN : tm.length = N) (hd : dOk d N = true) (v : Value) : Rp ((d, v) :: ov) (tm.set d v) := hr.put hN hd v
def setO : Ov → List Tmp → List Value → Ov
 | ov, p :: ps, v :: vs => setO ((p, v) :: ov) ps vs
 | ov, _, _ => ov
theorem setPs_rp {N : Nat} : ∀ (ps : List Tmp) (vs : List Value) (ov : Ov) (tm : List Value), ps.all (dOk · N) = true → tm.length = N → Rp ov tm → Rp (setO ov ps vs) (setPs tm ps vs) ∧ (setPs tm ps vs).length = N
 | [], _, ov, tm, _, hN, hr => by simpa [setO, setPs] using ⟨hr, hN⟩
 | p :: ps, [], ov, tm, _, hN, hr => by simpa [setO, setPs] using ⟨hr, hN⟩
 | p :: ps, v :: vs, ov, tm, hd, hN, hr => by
  simp only [List.all_cons, Bool.and_eq_true] at hd
  have := setPs_rp ps vs ((p, v) :: ov) (tm.set p v) hd.2 (by simpa using hN) (hr.set hN hd.1 v)
  simpa [setO, setPs] using this
section
variable {P : Program} {W : Nat → Prop} {q : Bool} {N : Nat} {k : List It} {ov : Ov} {df : List Nat} {h : AHeap} {Q : PQ} {x : Exit}
theorem YieldS.of {wr : List Nat} {l d : Nat} {pe : Option Code} {tm : List Value} {ps : Array Tmp} {as bo : Code} {args : List Value} {Q : Bool → AHeap → Prop} {ov' : Ov} (hl : h.get l = some (.loop .ready pe tm ps as bo d)) (htm : tm.length = N) (hr : Rp ov tm) (hsz : args.length = ps.size) (hps : ps.toList.all (dOk · N) = true) (ho : setO ov ps.toList args = ov') (hwl : l ∈ wr)
  (g : Go P (fun i => i ∈ wr ∨ h.n ≤ i) true N [.code as] .normal ov' [] h (AsQ P (fun i => i ∈ wr ∨ h.n ≤ i) l bo (BoQ l Q))) : YieldS P wr l args h Q := by
 subst ho
 obtain ⟨r1, n1⟩ := setPs_rp ps.toList args ov tm hps htm hr
 obtain ⟨x, tm₁, df₁, h₁, ra, la, hx, pe', tmL', ps', as', bo', df', hl₁, x', tm₂, df₂, h₂, rb, jump, st₂, pe₂, tm₃, ps₂, as₂, bo₂, df₃, hj, hl₂, hq⟩ := (g _ n1 r1).1 rfl
 subst hx
 have key : ∀ (o : Oper) (tmc : List Value) (f : Operand) (xs : Array Operand) (ts : Array TypeId), o.op = .call ⟨.value f, xs, ts⟩ → evalT tmc f = .func (.yield l) #[] #[] → xs.toList.map (evalT tmc) = args → OpRun P Ev (· ∈ wr) o tmc h (.bool jump.isNone) (h₂.put l (some (.loop (if jump.isNone then .ready else .done) jump tm₃ ps₂ as₂ bo₂ df₃))) := fun o tmc f xs ts ho hf hxs => by
  have ra' : Run P (fun i => i ∈ wr ∨ h.n ≤ i) true as ⟨setPs tm ps.toList (xs.toList.map (evalT tmc)), [], h⟩ .normal ⟨tm₁, df₁, h₁⟩ := by rw [hxs]; exact ra
  have hsz' : xs.size = ps.size := by rw [← hsz, ← hxs]; simp
  have := OpRun.yield ho hf hl hsz' ra' hl₁ rb hl₂ hj (.inl hwl)
  exact this.old.weak fun i ⟨a, b⟩ => a.resolve_right (by omega)
 refine ⟨_, _, ⟨?_, key⟩, hq⟩
 have a1 : AFr (fun i => i ∈ wr ∨ h.n ≤ i) h₁ (h₁.put l (some (.loop .busy pe' tmL' ps' as' bo' df'))) := .putOther _ (.inl hwl) hl₁ rfl
 have a2 : AFr (fun i => i ∈ wr ∨ h.n ≤ i) h₂ (h₂.put l (some (.loop (if jump.isNone then .ready else .done) jump tm₃ ps₂ as₂ bo₂ df₃))) := .putOther _ (.inl hwl) hl₂ rfl
 have af := ra.fr.trans (a1.trans (rb.fr.trans a2))
 exact ⟨af.n, fun i hi hn => af.get i hi fun hw => hw.elim hn (by omega), af.typ, af.alive, af.live, af.roT⟩
theorem YieldS.of' {wr : List Nat} {l d : Nat} {pe : Option Code} {tm : List Value} {ps ps₀ : Array Tmp} {as bo as₀ bo₀ : Code} {args : List Value} {Q : Bool → AHeap → Prop} {ov' : Ov} (hl : h.get l = some (.loop .ready pe tm ps as bo d)) (htm : tm.length = N) (hr : Rp ov tm) (eps : ps = ps₀) (eas : as = as₀) (ebo : bo = bo₀) (hsz : args.length = ps₀.size) (hps : ps₀.toList.all (dOk · N) = true) (ho : setO ov ps₀.toList args = ov') (hwl : l ∈ wr)
  (g : Go P (fun i => i ∈ wr ∨ h.n ≤ i) true N [.code as₀] .normal ov' [] h (AsQ P (fun i => i ∈ wr ∨ h.n ≤ i) l bo₀ (BoQ l Q))) : YieldS P wr l args h Q := by
 subst eps eas ebo
 exact YieldS.of hl htm hr hsz hps ho hwl g
theorem Go.body {l : Nat} {bo : Code} {pe' : Option Code} {tmL' : List Value} {ps' : Array Tmp} {as' bo' : Code} {df' : Nat} {Q : PQ} (hl : h.get l = some (.loop .ready pe' tmL' ps' as' bo' df')) (g : Go P W true N [.code bo] .normal ov df (h.put l (some (.loop .busy pe' tmL' ps' as' bo' df'))) Q) : Go P W q N [] .normal ov df h (AsQ P W l bo Q) := fun tm hN hr => by
 obtain ⟨x', tm', d', h', r, _, hq⟩ := (g tm hN hr).1 rfl
 exact ⟨rfl, _, _, _, _, _, _, hl, x', tm', d', h', r, hq⟩
theorem Go.roundEnd {l : Nat} {Q : Bool → AHeap → Prop} {jump : Option Code} {st₂ : LoopState} {pe₂ : Option Code} {tm₂ : List Value} {ps₂ : Array Tmp} {as₂ bo₂ : Code} {df₂ : Nat} (hj : jumpOf x = some jump) (hl : h.get l = some (.loop st₂ pe₂ tm₂ ps₂ as₂ bo₂ df₂)) (hq : Q jump.isNone (h.put l (some (.loop (if jump.isNone then .ready else .done) jump tm₂ ps₂ as₂ bo₂ df₂)))) : Go P W q N [] x ov df h (BoQ l Q) := fun tm hN hr => ⟨jump, _, _, _, _, _, _, _, hj, hl, hq⟩
theorem Go.rangeFunc {g : Operand} {ps : Array Tmp} {as bo : Code} {f : FuncId} {first cap : Array Value} {wr : List Nat} (hg : evO ov g = some (.func (.func f) first cap)) (hk : okOpd P g = true) (hc : calls P f = true)
  (K : ∀ tm : List Value, tm.length = N → Rp ov tm → CallS P wr f (first.toList ++ [.func (.yield (h.n + 1)) #[] #[]] ++ cap.toList) ((h.push (.deferred true)).push (.loop .ready none tm ps as bo h.n)) fun v h₂ => Keeps wr ((h.push (.deferred true)).push (.loop .ready none tm ps as bo h.n)) h₂ → (∀ i ∈ wr, W i) ∧ W (h.n + 1) ∧ ∃ st pe tm' ps' as' bo' df' x, h₂.get (h.n + 1) = some (.loop st pe tm' ps' as' bo' df') ∧ (st == .busy) = false ∧ exitOf pe = some x ∧ Go P W false N k x ov (h.n :: df) (h₂.put (h.n + 1) (some (.loop .exhausted pe tm' ps' as' bo' df'))) Q) : Go P W false N (.code (.rangeFunc g ps as bo) :: k) .normal ov df h Q := Go.code fun tm hN hr => by
 obtain ⟨v, h₂, hcr, hq⟩ := K tm hN hr
 obtain ⟨w1, w2, st, pe, tm', ps', as', bo', df', x, e1, e2, e3, e4⟩ := hq ⟨hcr.fr.n, fun i hi hn => hcr.fr.get i hi hn⟩
 obtain ⟨fn, h1, h2, h3⟩ := calls_spec hc
 have e : (first.toList ++ [Value.func (Fn.yield (h.n + 1)) #[] #[]] ++ cap.toList).toArray = first ++ #[Value.func (Fn.yield (h.n + 1)) #[] #[]] ++ cap := by
  apply Array.toList_inj.1
  simp
 rw [e] at hcr
 have run := Run.rangeFunc (s := ⟨tm, df, h⟩) (ps := ps) (assign := as) (body := bo) hk (evO_eq hr hg) h1 h2 h3 (hcr.weak w1) e1 e2 e3 w2
 exact ⟨x, tm, h.n :: df, _, run, rfl, e4 tm hN hr⟩
theorem Go.rangeFunc' {g : Operand} {ps : Array Tmp} {as bo : Code} {f : FuncId} {first cap : Array Value} {wr : List Nat} (hg : evO ov g = some (.func (.func f) first cap)) (hk : okOpd P g = true) (hc : calls P f = true)
  (K : ∀ (tm : List Value) (ps' : Array Tmp) (as' bo' : Code) (H : AHeap), ps' = ps → as' = as → bo' = bo → H = ((h.push (.deferred true)).push (.loop .ready none tm ps' as' bo' h.n)) → tm.length = N → Rp ov tm → CallS P wr f (first.toList ++ [.func (.yield (h.n + 1)) #[] #[]] ++ cap.toList) H fun v h₂ => Keeps wr H h₂ → (∀ i ∈ wr, W i) ∧ W (h.n + 1) ∧ ∃ st pe tm' ps' as' bo' df' x, h₂.get (h.n + 1) = some (.loop st pe tm' ps' as' bo' df') ∧ (st == .busy) = false ∧ exitOf pe = some x ∧ Go P W false N k x ov (h.n :: df) (h₂.put (h.n + 1) (some (.loop .exhausted pe tm' ps' as' bo' df'))) Q) : Go P W false N (.code (.rangeFunc g ps as bo) :: k) .normal ov df h Q :=
 Go.rangeFunc hg hk hc fun tm hN hr => K tm _ _ _ _ rfl rfl rfl rfl hN hr
theorem GoR.yield {ops : Array Oper} {os : List Oper} {o : Oper} {d : Nat} {f : Operand} {xs : Array Operand} {ts : Array TypeId} {l : Nat} {us : List Value} {wr : List Nat} (ho : o.op = .call ⟨.value f, xs, ts⟩) (hd : o.dst = some d) (hN : dOk d N = true) (hgd : o.guard = none) (hf : evO ov f = some (.func (.yield l) #[] #[])) (hx : evOs ov xs.toList = some us)
  (hk : YieldS P wr l us h fun c h' => Keeps wr h h' → (∀ i ∈ wr, W i) ∧ GoR P W q N ops true os k ((d, .bool c) :: ov) df h' Q) : GoR P W q N ops true (o :: os) k ov df h Q := by
 obtain ⟨c, h', hr, hg⟩ := hk
 have kp : Keeps wr h h' := ⟨hr.1.n, fun i hi hn => hr.1.get i hi hn⟩
 refine GoR.step (r := ⟨.bool c, h', [], wr, true, false⟩) hgd hd hN (fun tm hrp => ⟨(fun e => by cases e), fun D W' hall _ hw => ?_⟩) (.inl rfl) (hg kp).1 (hg kp).2
 rw [hall rfl]
 exact (hr.2 o tm f xs ts ho (evO_eq hrp hf) (evOs_eq hrp hx)).weak fun i hi => (hw i hi).2
end
end Go.Proofs.Ytccbmmnkiihkaaa
namespace Go.Proofs.Ytccbmmnkiihkaaa
class MI (P : Program) (t : TypeId) (K : outParam IntKind) (z : outParam Value) : Prop where
 h : ∃ kt e, P.underlying t = some (.map kt e) ∧ P.underlying kt = some (.int K) ∧ zeroT P e = some z ∧ flatB z = true ∧ ∀ em n, calm P (Instr.checkKey em 10000 kt (.int K n)) = some ()
def al {β : Type} : List (Int × β) → Int → Option β
 | [], _ => none
 | p :: r, k => if p.1 = k then some p.2 else al r k
def aset {β : Type} : List (Int × β) → Int → β → List (Int × β)
 | [], k, v => [(k, v)]
 | p :: r, k, v => if p.1 = k then (k, v) :: r else p :: aset r k v
def kvs (K : IntKind) (f : List (Int × Value)) : List (Value × Value) := f.map fun p => (.int K p.1, p.2)
def kv (l : List MapEntry) : List (Value × Value) := l.map fun e => (e.key, e.val)
def IMap (h : AHeap) (r : Nat) (K : IntKind) (f : List (Int × Value)) : Prop := ∃ es ck, h.get r = some (.map es ck) ∧ kv es.toList = kvs K f
theorem IMap.same {h h' : AHeap} {r : Nat} {K : IntKind} {f : List (Int × Value)} (m : IMap h r K f) (s : Same h h') : IMap h' r K f := by
 obtain ⟨es, ck, g, e⟩ := m
 exact ⟨es, ck, s.get g, e⟩
theorem IMap.keeps {h h' : AHeap} {r : Nat} {K : IntKind} {f : List (Int × Value)} {wr : List Nat} (m : IMap h r K f) (s : Keeps wr h h') (hr : r ∉ wr) : IMap h' r K f := by
 obtain ⟨es, ck, g, e⟩ := m
 exact ⟨es, ck, s.get g hr, e⟩
theorem IMap.lt {h : AHeap} {r : Nat} {K : IntKind} {f : List (Int × Value)} (m : IMap h r K f) : r < h.n := by
 obtain ⟨es, ck, g, e⟩ := m
 exact AHeap.lt g
theorem eqKey_int (P : Program) (kt : TypeId) (K : IntKind) (a b : Int) : eqKey P (.int K) kt (.int K a) (.int K b) = some (a == b) := by simp [eqKey, Instr.sameNow]
theorem map_find (P : Program) (kt : TypeId) (K : IntKind) (k : Int) (v : Value) : ∀ (l : List MapEntry) (f : List (Int × Value)) (i : Nat), kv l = kvs K f →
  (al f k = none ∧ mapFind P (.int K) kt (.int K k) l i = some none ∧ kv l ++ [(.int K k, v)] = kvs K (aset f k v)) ∨
  ∃ j, mapFind P (.int K) kt (.int K k) l i = some (some (i + j)) ∧ j < l.length ∧ al f k = some (valAt l j) ∧ (l[j]?).map (·.key) = some (.int K k) ∧ kv (l.modify j fun e => { e with key := .int K k, val := v }) = kvs K (aset f k v)
 | [], f, i, h => by
  cases f with
  | nil => exact .inl ⟨rfl, rfl, rfl⟩
  | cons p r => simp [kv, kvs] at h
 | e :: l, f, i, h => by
  cases f with
  | nil => simp [kv, kvs] at h
  | cons p r =>
   simp only [kv, kvs, List.map_cons, List.cons.injEq, Prod.mk.injEq] at h
   obtain ⟨⟨h1, h2⟩, h3⟩ := h
   by_cases hk : p.1 = k
   ·
    refine .inr ⟨0, ?_, by simp, ?_, ?_, ?_⟩
    · simp [mapFind, h1, eqKey_int, hk]
    · simp [al, hk, valAt, h2]
    · simp [h1, hk]
    · simp only [List.modify_zero_cons, kv, kvs, aset, if_pos hk, List.map_cons, h3]
   ·
    have hk' : (k == p.1) = false := by simpa using fun e : k = p.1 => hk e.symm
    rcases map_find P kt K k v l r (i + 1) h3 with ⟨a, b, c⟩ | ⟨j, a, b, c, d, e'⟩
    ·
     refine .inl ⟨by simp [al, hk, a], by simp only [mapFind, h1, eqKey_int, hk', b], ?_⟩
     simp only [kv, kvs] at c
     simp only [kv, kvs, aset, if_neg hk, List.map_cons, List.cons_append, c, h1, h2]
    ·
     refine .inr ⟨j + 1, ?_, by simp; omega, ?_, by simpa using d, ?_⟩
     · simp only [mapFind, h1, eqKey_int, hk', a]; congr 2; omega
     · simp only [al, if_neg hk, c, valAt, List.getElem?_cons_succ]
     ·
      simp only [kv, kvs] at e'
      simp only [List.modify_succ_cons, kv, kvs, aset, if_neg hk, List.map_cons, e', h1, h2]
theorem keyAt_int {P : Program} {kt : TypeId} {K : IntKind} {k : Int} {es : Array MapEntry} {em : Bool} {f : List (Int × Value)} (hu : P.underlying kt = some (.int K)) (hc : ∀ em n, calm P (Instr.checkKey em 10000 kt (.int K n)) = some ()) (he : kv es.toList = kvs K f) : keyAt P kt (.int K k) es em = mapFind P (.int K) kt (.int K k) es.toList 0 := by
 have hf : flatKeys es = true := by
  refine List.all_eq_true.2 fun e hm => ?_
  have : (e.key, e.val) ∈ kv es.toList := List.mem_map_of_mem hm
  rw [he] at this
  obtain ⟨p, -, hp⟩ := List.mem_map.1 this
  have := congrArg Prod.fst hp
  simp only at this
  rw [← this]; rfl
 have h1 : flatB (.int K k) = true := rfl
 simp only [keyAt, hu, h1, hf, hc, Bool.and_self, if_true]
theorem aLookup_int {P : Program} {h : AHeap} {t : TypeId} {K : IntKind} {z : Value} [hm : MI P t K z] {r : Nat} {f : List (Int × Value)} (m : IMap h r K f) (k : Int) (ok : Bool) : aLookup P h t (.map (some r)) (.int K k) ok = some (if ok then .tuple #[(al f k).getD z, .bool (al f k).isSome] else (al f k).getD z, [r]) := by
 obtain ⟨kt, e, h1, h2, h3, h4, h5⟩ := hm.h
 obtain ⟨es, ck, g, he⟩ := m
 simp only [aLookup, h1, h3, h4, if_true, g, keyAt_int h2 h5 he]
 rcases map_find P kt K k z es.toList f 0 he with ⟨a, b, -⟩ | ⟨j, a, -, c, -, -⟩
 · simp [a, b]
 · simp [a, c]
theorem aUpdate_int {P : Program} {h : AHeap} {t : TypeId} {K : IntKind} {z : Value} [hm : MI P t K z] {r : Nat} {f : List (Int × Value)} (m : IMap h r K f) (k : Int) (v : Value) : ∃ o, aUpdate P h t (.map (some r)) (.int K k) v = some (h.put r (some o), r) ∧ IMap (h.put r (some o)) r K (aset f k v) := by
 obtain ⟨kt, e, h1, h2, h3, h4, h5⟩ := hm.h
 obtain ⟨es, ck, g, he⟩ := m
 have hr := AHeap.lt g
 rcases map_find P kt K k v es.toList f 0 he with ⟨a, b, c⟩ | ⟨j, a, b, c, d, d2⟩
 ·
  refine ⟨.map (es.push { key := .int K k, val := v, born := ck }) (ck + 1), ?_, _, _, AHeap.get_put_same _ hr _, ?_⟩
  · simp only [aUpdate, h1, g, keyAt_int h2 h5 he, b]
  · rw [← c]; simp [kv]
 ·
  rw [Nat.zero_add] at a
  have hs : keyStays es j (.int K k) = true := by
   have : (es[j]?).map (·.key) = some (.int K k) := by simpa using d
   simp [keyStays, this, Instr.sameBits]
  refine ⟨.map (es.modify j fun e => { e with key := .int K k, val := v }) ck, ?_, _, _, AHeap.get_put_same _ hr _, ?_⟩
  · simp only [aUpdate, h1, g, keyAt_int h2 h5 he, a, hs, if_true]
  · rw [← d2]; simp
section
variable {P : Program} {h : AHeap} {o : Oper} {ov : Ov} {W : Nat → Prop} {q : Bool} {N : Nat} {ops : Array Oper} {os : List Oper} {k : List It} {df : List Nat} {Q : PQ} {d : Nat} {b₀ : Bool}
theorem S.makeMap {t : TypeId} (ho : o.op = .makeMap t none) : ∀ tm, Rp ov tm → OpOk P o tm h ⟨.map (some h.n), h.push (.map #[] 0), [], [], false, false⟩ := fun tm hr => .new fun D W => OpRun.makeMap ho
theorem S.lookup {t : TypeId} {x y : Operand} {K : IntKind} {z : Value} {r : Nat} {f : List (Int × Value)} {n : Int} {ok : Bool} [hm : MI P t K z] (ho : o.op = .lookup t x y ok) (hx : evO ov x = some (.map (some r))) (hy : evO ov y = some (.int K n)) (m : IMap h r K f) : ∀ tm, Rp ov tm → OpOk P o tm h ⟨if ok then .tuple #[(al f n).getD z, .bool (al f n).isSome] else (al f n).getD z, h, [r], [], false, true⟩ := fun tm hr => .read fun D W hD => OpRun.lookup ho (by rw [evO_eq hr hx, evO_eq hr hy]; exact aLookup_int m n ok) hD
theorem GoR.makeMap {t : TypeId} (ho : o.op = .makeMap t none) (hd : o.dst = some d) (hN : dOk d N = true) (hgd : o.guard = none) (g : ∀ h', (∀ K, IMap h' h.n K []) → Same h h' → h'.n = h.n + 1 → GoR P W q N ops b₀ os k ((d, .map (some h.n)) :: ov) df h' Q) : GoR P W q N ops b₀ (o :: os) k ov df h Q := GoR.step (r := ⟨.map (some h.n), h.push (.map #[] 0), [], [], false, false⟩) hgd hd hN (S.makeMap ho) (.inr rfl) (fun i hi => by cases hi) (g _ (fun K => ⟨_, _, AHeap.get_push_same _ _, rfl⟩) ((Same.refl h).push _) rfl)
theorem GoR.lookup {t : TypeId} {x y : Operand} {K : IntKind} {z : Value} {r : Nat} {f : List (Int × Value)} {n : Int} [hm : MI P t K z] (ho : o.op = .lookup t x y false) (hd : o.dst = some d) (hN : dOk d N = true) (hgd : o.guard = none) (hx : evO ov x = some (.map (some r))) (hy : evO ov y = some (.int K n)) (m : IMap h r K f) (g : GoR P W q N ops b₀ os k ((d, (al f n).getD z) :: ov) df h Q) : GoR P W q N ops b₀ (o :: os) k ov df h Q := GoR.step (r := ⟨(al f n).getD z, h, [r], [], false, true⟩) hgd hd hN (S.lookup ho hx hy m) (.inr rfl) (fun i hi => by cases hi) g
theorem GoR.lookup2 {t : TypeId} {x y : Operand} {K : IntKind} {z : Value} {r : Nat} {f : List (Int × Value)} {n : Int} [hm : MI P t K z] (ho : o.op = .lookup t x y true) (hd : o.dst = some d) (hN : dOk d N = true) (hgd : o.guard = none) (hx : evO ov x = some (.map (some r))) (hy : evO ov y = some (.int K n)) (m : IMap h r K f) (g : GoR P W q N ops b₀ os k ((d, .tuple #[(al f n).getD z, .bool (al f n).isSome]) :: ov) df h Q) : GoR P W q N ops b₀ (o :: os) k ov df h Q := GoR.step (r := ⟨.tuple #[(al f n).getD z, .bool (al f n).isSome], h, [r], [], false, true⟩) hgd hd hN (S.lookup ho hx hy m) (.inr rfl) (fun i hi => by cases hi) g
theorem GoR.mapUpdate {t : TypeId} {x y v : Operand} {K : IntKind} {z : Value} {r : Nat} {f : List (Int × Value)} {n : Int} {u : Value} [hm : MI P t K z] (ho : o.op = .mapUpdate t x y v ∨ o.op = .insert t x y v) (hd : o.dst = none) (hgd : o.guard = none) (hx : evO ov x = some (.map (some r))) (hy : evO ov y = some (.int K n)) (hv : evO ov v = some u) (m : IMap h r K f) (hw : W r) (g : ∀ h', IMap h' r K (aset f n u) → Keeps [r] h h' → h'.n = h.n → GoR P W q N ops true os k ov df h' Q) : GoR P W q N ops true (o :: os) k ov df h Q := by
 obtain ⟨ob, h1, h2⟩ := aUpdate_int (P := P) (t := t) m n u
 exact GoR.step0 (r := ⟨undef, h.put r (some ob), [r], [r], false, false⟩) hgd hd (fun tm hr => .write fun D W hD hW => OpRun.mapUpdate ho (by rw [evO_eq hr hx, evO_eq hr hy, evO_eq hr hv]; exact h1) (hD r (by simp)) (hW r (by simp)).2) (.inl rfl) (fun i hi => by simp at hi; subst hi; exact hw) (g _ h2 ⟨Nat.le_refl _, fun i hi hn => AHeap.get_put_ne _ _ (fun e => hn (by simp [e]))⟩ rfl)
end
end Go.Proofs.Ytccbmmnkiihkaaa
namespace Go.Proofs.Ytccbmmnkiihkaaa
def adel {β : Type} : List (Int × β) → Int → List (Int × β)
 | [], _ => []
 | p :: r, k => if p.1 = k then r else p :: adel r k
def stampsOk (es : Array MapEntry) (ck : Nat) : Prop := (∀ e ∈ es.toList, e.born < ck) ∧ (es.toList.map (·.born)).Nodup
def SMap (h : AHeap) (r : Nat) (K : IntKind) (f : List (Int × Value)) : Prop := ∃ es ck, h.get r = some (.map es ck) ∧ kv es.toList = kvs K f ∧ stampsOk es ck
theorem SMap.imap {h : AHeap} {r : Nat} {K : IntKind} {f : List (Int × Value)} (m : SMap h r K f) : IMap h r K f := let ⟨es, ck, g, e, _⟩ := m; ⟨es, ck, g, e⟩
theorem SMap.same {h h' : AHeap} {r : Nat} {K : IntKind} {f : List (Int × Value)} (m : SMap h r K f) (s : Same h h') : SMap h' r K f := let ⟨es, ck, g, e⟩ := m; ⟨es, ck, s.get g, e⟩
theorem SMap.keeps {h h' : AHeap} {r : Nat} {K : IntKind} {f : List (Int × Value)} {wr : List Nat} (m : SMap h r K f) (s : Keeps wr h h') (hr : r ∉ wr) : SMap h' r K f := let ⟨es, ck, g, e⟩ := m; ⟨es, ck, s.get g hr, e⟩
theorem SMap.lt {h : AHeap} {r : Nat} {K : IntKind} {f : List (Int × Value)} (m : SMap h r K f) : r < h.n := m.imap.lt
theorem map_find_del (P : Program) (kt : TypeId) (K : IntKind) (k : Int) : ∀ (l : List MapEntry) (f : List (Int × Value)) (i : Nat), kv l = kvs K f →
  (adel f k = f ∧ mapFind P (.int K) kt (.int K k) l i = some none) ∨ ∃ j, mapFind P (.int K) kt (.int K k) l i = some (some (i + j)) ∧ j < l.length ∧ kv (l.eraseIdx j) = kvs K (adel f k)
 | [], f, i, h => by
  cases f with
  | nil => exact .inl ⟨rfl, rfl⟩
  | cons p r => simp [kv, kvs] at h
 | e :: l, f, i, h => by
  cases f with
  | nil => simp [kv, kvs] at h
  | cons p r =>
   simp only [kv, kvs, List.map_cons, List.cons.injEq, Prod.mk.injEq] at h
   obtain ⟨⟨h1, h2⟩, h3⟩ := h
   by_cases hk : p.1 = k
   ·
    refine .inr ⟨0, ?_, by simp, ?_⟩
    · simp [mapFind, h1, eqKey_int, hk]
    · simp only [adel, if_pos hk, List.eraseIdx_cons_zero]; exact h3
   ·
    have hk' : (k == p.1) = false := by simpa using fun e : k = p.1 => hk e.symm
    rcases map_find_del P kt K k l r (i + 1) h3 with ⟨a, b⟩ | ⟨j, a, b, c⟩
    · exact .inl ⟨by simp only [adel, if_neg hk, a], by simp only [mapFind, h1, eqKey_int, hk', b]⟩
    ·
     refine .inr ⟨j + 1, ?_, by simp; omega, ?_⟩
     · simp only [mapFind, h1, eqKey_int, hk', a]; congr 2; omega
     ·
      simp only [kv, kvs] at c
      simp only [List.eraseIdx_cons_succ, kv, kvs, adel, if_neg hk, List.map_cons, c, h1, h2]
theorem aUpdate_S {P : Program} {h : AHeap} {t : TypeId} {K : IntKind} {z : Value} [hm : MI P t K z] {r : Nat} {f : List (Int × Value)} (m : SMap h r K f) (k : Int) (v : Value) : ∃ o, aUpdate P h t (.map (some r)) (.int K k) v = some (h.put r (some o), r) ∧ SMap (h.put r (some o)) r K (aset f k v) := by
 obtain ⟨kt, e, h1, h2, h3, h4, h5⟩ := hm.h
 obtain ⟨es, ck, g, he, hb, hn⟩ := m
 have hr := AHeap.lt g
 rcases map_find P kt K k v es.toList f 0 he with ⟨a, b, c⟩ | ⟨j, a, b, c, d, d2⟩
 ·
  refine ⟨.map (es.push { key := .int K k, val := v, born := ck }) (ck + 1), ?_, _, _, AHeap.get_put_same _ hr _, ?_, ?_, ?_⟩
  · simp only [aUpdate, h1, g, keyAt_int h2 h5 he, b]
  · rw [← c]; simp [kv]
  ·
   intro x hx
   rw [Array.toList_push, List.mem_append] at hx
   rcases hx with hx | hx
   · have := hb x hx; omega
   · simp only [List.mem_singleton] at hx; rw [hx]; exact Nat.lt_succ_self _
  ·
   rw [Array.toList_push, List.map_append, List.nodup_append]
   refine ⟨hn, by simp, fun x hx y hy => ?_⟩
   obtain ⟨e', he', rfl⟩ := List.mem_map.1 hx
   simp only [List.map_cons, List.map_nil, List.mem_singleton] at hy
   have := hb e' he'; omega
 ·
  rw [Nat.zero_add] at a
  have hs : keyStays es j (.int K k) = true := by
   have : (es[j]?).map (·.key) = some (.int K k) := by simpa using d
   simp [keyStays, this, Instr.sameBits]
  have hbs : (es.modify j fun e => { e with key := .int K k, val := v }).toList.map (·.born) = es.toList.map (·.born) := by
   apply List.ext_getElem?
   intro i
   simp only [Array.toList_modify, List.getElem?_map, List.getElem?_modify]
   cases es.toList[i]? with
   | none => rfl
   | some y => simp only [Option.map_some, Option.map_eq_map]; split <;> rfl
  refine ⟨.map (es.modify j fun e => { e with key := .int K k, val := v }) ck, ?_, _, _, AHeap.get_put_same _ hr _, ?_, ?_, ?_⟩
  · simp only [aUpdate, h1, g, keyAt_int h2 h5 he, a, hs, if_true]
  · rw [← d2]; simp
  ·
   intro x hx
   have : x.born ∈ (es.modify j fun e => { e with key := .int K k, val := v }).toList.map (·.born) := List.mem_map_of_mem hx
   rw [hbs] at this
   obtain ⟨e', he', hq⟩ := List.mem_map.1 this
   have := hb e' he'; omega
  · rw [hbs]; exact hn
theorem aDelete_S {P : Program} {h : AHeap} {t : TypeId} {K : IntKind} {z : Value} [hm : MI P t K z] {r : Nat} {f : List (Int × Value)} (m : SMap h r K f) (k : Int) : ∃ o, aDelete P h t (.map (some r)) (.int K k) = some (h.put r (some o), [r]) ∧ SMap (h.put r (some o)) r K (adel f k) := by
 obtain ⟨kt, e, h1, h2, h3, h4, h5⟩ := hm.h
 obtain ⟨es, ck, g, he, hb, hn⟩ := m
 have hr := AHeap.lt g
 rcases map_find_del P kt K k es.toList f 0 he with ⟨a, b⟩ | ⟨j, a, b, c⟩
 ·
  refine ⟨.map es ck, ?_, es, ck, AHeap.get_put_same _ hr _, ?_, hb, hn⟩
  · simp only [aDelete, h1, g, keyAt_int h2 h5 he, b]
  · rw [a]; exact he
 ·
  rw [Nat.zero_add] at a
  have hj : j < es.size := by simpa using b
  have ht : (es.eraseIdxIfInBounds j).toList = es.toList.eraseIdx j := by
   rw [Array.eraseIdxIfInBounds, dif_pos hj, Array.toList_eraseIdx]
  refine ⟨.map (es.eraseIdxIfInBounds j) ck, ?_, _, _, AHeap.get_put_same _ hr _, ?_, ?_, ?_⟩
  · simp only [aDelete, h1, g, keyAt_int h2 h5 he, a]
  · rw [ht]; exact c
  · rw [ht]; exact fun x hx => hb x (List.mem_of_mem_eraseIdx hx)
  · rw [ht]; exact hn.sublist ((List.eraseIdx_sublist _ _).map _)
section
variable {P : Program} {h : AHeap} {o : Oper} {ov : Ov} {W : Nat → Prop} {q : Bool} {N : Nat} {ops : Array Oper} {os : List Oper} {k : List It} {df : List Nat} {Q : PQ} {d : Nat} {b₀ : Bool}
theorem GoR.mapUpdateS {t : TypeId} {x y v : Operand} {K : IntKind} {z : Value} {r : Nat} {f : List (Int × Value)} {n : Int} {u : Value} [hm : MI P t K z] (ho : o.op = .mapUpdate t x y v ∨ o.op = .insert t x y v) (hd : o.dst = none) (hgd : o.guard = none) (hx : evO ov x = some (.map (some r))) (hy : evO ov y = some (.int K n)) (hv : evO ov v = some u) (m : SMap h r K f) (hw : W r) (g : ∀ h', SMap h' r K (aset f n u) → Keeps [r] h h' → h'.n = h.n → GoR P W q N ops true os k ov df h' Q) : GoR P W q N ops true (o :: os) k ov df h Q := by
 obtain ⟨ob, h1, h2⟩ := aUpdate_S (P := P) (t := t) m n u
 exact GoR.step0 (r := ⟨undef, h.put r (some ob), [r], [r], false, false⟩) hgd hd (fun tm hr => .write fun D W hD hW => OpRun.mapUpdate ho (by rw [evO_eq hr hx, evO_eq hr hy, evO_eq hr hv]; exact h1) (hD r (by simp)) (hW r (by simp)).2) (.inl rfl) (fun i hi => by simp at hi; subst hi; exact hw) (g _ h2 ⟨Nat.le_refl _, fun i hi hn => AHeap.get_put_ne _ _ (fun e => hn (by simp [e]))⟩ rfl)
theorem GoR.deleteS {t t₂ : TypeId} {x y : Operand} {K : IntKind} {z : Value} {r : Nat} {f : List (Int × Value)} {n : Int} [hm : MI P t K z] (ho : o.op = .call ⟨.builtin .delete, #[x, y], #[t, t₂]⟩) (hd : o.dst = none) (hgd : o.guard = none) (hx : evO ov x = some (.map (some r))) (hy : evO ov y = some (.int K n)) (m : SMap h r K f) (hw : W r) (g : ∀ h', SMap h' r K (adel f n) → Keeps [r] h h' → h'.n = h.n → GoR P W q N ops true os k ov df h' Q) : GoR P W q N ops true (o :: os) k ov df h Q := by
 obtain ⟨ob, h1, h2⟩ := aDelete_S (P := P) (t := t) m n
 exact GoR.step0 (r := ⟨undef, h.put r (some ob), [r], [r], false, false⟩) hgd hd (fun tm hr => .write fun D W hD hW => OpRun.delete ho (by rw [evO_eq hr hx, evO_eq hr hy]; exact h1) (fun i hi => hD i hi) (fun i hi => (hW i hi).2)) (.inl rfl) (fun i hi => by simp at hi; subst hi; exact hw) (g _ h2 ⟨Nat.le_refl _, fun i hi hn => AHeap.get_put_ne _ _ (fun e => hn (by simp [e]))⟩ rfl)
theorem GoL.lookup2 {tr : List (Option LE)} {t : TypeId} {x y : Operand} {K : IntKind} {z : Value} {r : Nat} {f : List (Int × Value)} {n : Int} [hm : MI P t K z] (ho : o.op = .lookup t x y true) (hd : o.dst = some d) (hN : dOk d N = true) (hgd : o.guard = none) (hx : evO ov x = some (.map (some r))) (hy : evO ov y = some (.int K n)) (m : IMap h r K f) (g : GoL P W q N ops (tr ++ [some ⟨h.n, h.n, [r], [], false, true⟩]) os k ((d, .tuple #[(al f n).getD z, .bool (al f n).isSome]) :: ov) df h Q) : GoL P W q N ops tr (o :: os) k ov df h Q := GoL.step (r := ⟨.tuple #[(al f n).getD z, .bool (al f n).isSome], h, [r], [], false, true⟩) (some ⟨h.n, h.n, [r], [], false, true⟩) ⟨rfl, rfl, rfl, rfl, rfl, rfl⟩ hgd hd hN (S.lookup ho hx hy m) (fun i hi => by cases hi) g
theorem GoL.deleteS {tr : List (Option LE)} {t t₂ : TypeId} {x y : Operand} {K : IntKind} {z : Value} {r : Nat} {f : List (Int × Value)} {n : Int} [hm : MI P t K z] (ho : o.op = .call ⟨.builtin .delete, #[x, y], #[t, t₂]⟩) (hd : o.dst = none) (hgd : o.guard = none) (hx : evO ov x = some (.map (some r))) (hy : evO ov y = some (.int K n)) (m : SMap h r K f) (hw : W r) (g : ∀ h', SMap h' r K (adel f n) → Keeps [r] h h' → h'.n = h.n → GoL P W q N ops (tr ++ [some ⟨h.n, h.n, [r], [r], false, false⟩]) os k ov df h' Q) : GoL P W q N ops tr (o :: os) k ov df h Q := by
 obtain ⟨ob, h1, h2⟩ := aDelete_S (P := P) (t := t) m n
 exact GoL.step0 (r := ⟨undef, h.put r (some ob), [r], [r], false, false⟩) (some ⟨h.n, h.n, [r], [r], false, false⟩) ⟨rfl, rfl, rfl, rfl, rfl, rfl⟩ hgd hd (fun tm hr => .write fun D W hD hW => OpRun.delete ho (by rw [evO_eq hr hx, evO_eq hr hy]; exact h1) (fun i hi => hD i hi) (fun i hi => (hW i hi).2)) (fun i hi => by simp at hi; subst hi; exact hw) (g _ h2 ⟨Nat.le_refl _, fun i hi hn => AHeap.get_put_ne _ _ (fun e => hn (by simp [e]))⟩ rfl)
end
end Go.Proofs.Ytccbmmnkiihkaaa
namespace Go.Proofs.Ytccbmmnkiihkaaa
section
variable {κ : Type}
def gkv (kf : κ → Value) (f : List (κ × Value)) : List (Value × Value) := f.map fun p => (kf p.1, p.2)
def GMap (kf : κ → Value) (h : AHeap) (r : Nat) (f : List (κ × Value)) : Prop := ∃ es ck, h.get r = some (.map es ck) ∧ kv es.toList = gkv kf f ∧ stampsOk es ck
variable {kf : κ → Value}
theorem GMap.same {h h' : AHeap} {r : Nat} {f : List (κ × Value)} (m : GMap kf h r f) (s : Same h h') : GMap kf h' r f := let ⟨es, ck, g, e⟩ := m; ⟨es, ck, s.get g, e⟩
theorem GMap.keeps {h h' : AHeap} {r : Nat} {f : List (κ × Value)} {wr : List Nat} (m : GMap kf h r f) (s : Keeps wr h h') (hr : r ∉ wr) : GMap kf h' r f := let ⟨es, ck, g, e⟩ := m; ⟨es, ck, s.get g hr, e⟩
theorem GMap.lt {h : AHeap} {r : Nat} {f : List (κ × Value)} (m : GMap kf h r f) : r < h.n := let ⟨_, _, g, _⟩ := m; AHeap.lt g
theorem keyAt_g {P : Program} {kt : TypeId} {d : TypeDesc} {k : κ} {es : Array MapEntry} {em : Bool} {f : List (κ × Value)} (hu : P.underlying kt = some d) (hc : ∀ em n, calm P (Instr.checkKey em 10000 kt (kf n)) = some ()) (hfl : ∀ a, flatB (kf a) = true) (he : kv es.toList = gkv kf f) : keyAt P kt (kf k) es em = mapFind P d kt (kf k) es.toList 0 := by
 have hf : flatKeys es = true := by
  refine List.all_eq_true.2 fun e hm => ?_
  have : (e.key, e.val) ∈ kv es.toList := List.mem_map_of_mem hm
  rw [he] at this
  obtain ⟨p, -, hp⟩ := List.mem_map.1 this
  have := congrArg Prod.fst hp
  simp only at this
  rw [← this]; exact hfl _
 simp only [keyAt, hu, hfl, hf, hc, Bool.and_self, if_true]
section
variable {P : Program} {h : AHeap} {o : Oper} {ov : Ov} {W : Nat → Prop} {q : Bool} {N : Nat} {ops : Array Oper} {os : List Oper} {k : List It} {df : List Nat} {Q : PQ} {d : Nat} {b₀ : Bool} {tr : List (Option LE)}
theorem GoR.makeMapI {t : TypeId} (ho : o.op = .makeMap t none) (hd : o.dst = some d) (hN : dOk d N = true) (hgd : o.guard = none) (g : ∀ h', (∀ K, SMap h' h.n K []) → Same h h' → h'.n = h.n + 1 → GoR P W q N ops b₀ os k ((d, .map (some h.n)) :: ov) df h' Q) : GoR P W q N ops b₀ (o :: os) k ov df h Q := GoR.step (r := ⟨.map (some h.n), h.push (.map #[] 0), [], [], false, false⟩) hgd hd hN (S.makeMap ho) (.inr rfl) (fun i hi => by cases hi) (g _ (fun K => ⟨_, _, AHeap.get_push_same _ _, rfl, by simp [stampsOk]⟩) ((Same.refl h).push _) rfl)
theorem GoR.makeMapG (kf : κ → Value) {t : TypeId} (ho : o.op = .makeMap t none) (hd : o.dst = some d) (hN : dOk d N = true) (hgd : o.guard = none) (g : ∀ h', GMap kf h' h.n [] → Same h h' → h'.n = h.n + 1 → GoR P W q N ops b₀ os k ((d, .map (some h.n)) :: ov) df h' Q) : GoR P W q N ops b₀ (o :: os) k ov df h Q := GoR.step (r := ⟨.map (some h.n), h.push (.map #[] 0), [], [], false, false⟩) hgd hd hN (S.makeMap ho) (.inr rfl) (fun i hi => by cases hi) (g _ ⟨_, _, AHeap.get_push_same _ _, rfl, by simp [stampsOk]⟩ ((Same.refl h).push _) rfl)
end
variable [DecidableEq κ]
def gl {β : Type} : List (κ × β) → κ → Option β
 | [], _ => none
 | p :: r, k => if p.1 = k then some p.2 else gl r k
def gset {β : Type} : List (κ × β) → κ → β → List (κ × β)
 | [], k, v => [(k, v)]
 | p :: r, k, v => if p.1 = k then (k, v) :: r else p :: gset r k v
def gdel {β : Type} : List (κ × β) → κ → List (κ × β)
 | [], _ => []
 | p :: r, k => if p.1 = k then r else p :: gdel r k
class MG (P : Program) (t : TypeId) (kf : κ → Value) (z : outParam Value) : Prop where
 h : ∃ kt e d, P.underlying t = some (.map kt e) ∧ P.underlying kt = some d ∧ zeroT P e = some z ∧ flatB z = true ∧ (∀ em n, calm P (Instr.checkKey em 10000 kt (kf n)) = some ()) ∧ (∀ a b, eqKey P d kt (kf a) (kf b) = some (decide (a = b))) ∧ (∀ a, flatB (kf a) = true) ∧ ∀ a, Instr.sameBits 10000 (kf a) (kf a) = true
theorem gmap_find {P : Program} {d : TypeDesc} {kt : TypeId} (heq : ∀ a b, eqKey P d kt (kf a) (kf b) = some (decide (a = b))) (k : κ) (v : Value) : ∀ (l : List MapEntry) (f : List (κ × Value)) (i : Nat), kv l = gkv kf f →
  (gl f k = none ∧ mapFind P d kt (kf k) l i = some none ∧ kv l ++ [(kf k, v)] = gkv kf (gset f k v) ∧ gdel f k = f) ∨
  ∃ j, mapFind P d kt (kf k) l i = some (some (i + j)) ∧ j < l.length ∧ gl f k = some (valAt l j) ∧ (l[j]?).map (·.key) = some (kf k) ∧ kv (l.modify j fun e => { e with key := kf k, val := v }) = gkv kf (gset f k v) ∧ kv (l.eraseIdx j) = gkv kf (gdel f k)
 | [], f, i, h => by
  cases f with
  | nil => exact .inl ⟨rfl, rfl, rfl, rfl⟩
  | cons p r => simp [kv, gkv] at h
 | e :: l, f, i, h => by
  cases f with
  | nil => simp [kv, gkv] at h
  | cons p r =>
   simp only [kv, gkv, List.map_cons, List.cons.injEq, Prod.mk.injEq] at h
   obtain ⟨⟨h1, h2⟩, h3⟩ := h
   by_cases hk : p.1 = k
   ·
    refine .inr ⟨0, ?_, by simp, ?_, ?_, ?_, ?_⟩
    · simp [mapFind, h1, heq, hk]
    · simp [gl, hk, valAt, h2]
    · simp [h1, hk]
    · simp only [List.modify_zero_cons, kv, gkv, gset, if_pos hk, List.map_cons, h3]
    · simp only [gdel, if_pos hk, List.eraseIdx_cons_zero]; exact h3
   ·
    have hk' : decide (k = p.1) = false := decide_eq_false (Ne.symm hk)
    rcases gmap_find heq k v l r (i + 1) h3 with ⟨a, b, c, c2⟩ | ⟨j, a, b, c, d, e', e2⟩
    ·
     refine .inl ⟨by simp [gl, hk, a], by simp only [mapFind, h1, heq, hk', b], ?_, by simp only [gdel, if_neg hk, c2]⟩
     simp only [kv, gkv] at c
     simp only [kv, gkv, gset, if_neg hk, List.map_cons, List.cons_append, c, h1, h2]
    ·
     refine .inr ⟨j + 1, ?_, by simp; omega, ?_, by simpa using d, ?_, ?_⟩
     · simp only [mapFind, h1, heq, hk', a]; congr 2; omega
     · simp only [gl, if_neg hk, c, valAt, List.getElem?_cons_succ]
     ·
      simp only [kv, gkv] at e'
      simp only [List.modify_succ_cons, kv, gkv, gset, if_neg hk, List.map_cons, e', h1, h2]
     ·
      simp only [kv, gkv] at e2
      simp only [List.eraseIdx_cons_succ, kv, gkv, gdel, if_neg hk, List.map_cons, e2, h1, h2]
theorem aLookup_g {P : Program} {h : AHeap} {t : TypeId} {z : Value} [hm : MG P t kf z] {r : Nat} {f : List (κ × Value)} (m : GMap kf h r f) (k : κ) (ok : Bool) : aLookup P h t (.map (some r)) (kf k) ok = some (if ok then .tuple #[(gl f k).getD z, .bool (gl f k).isSome] else (gl f k).getD z, [r]) := by
 obtain ⟨kt, e, d, h1, h2, h3, h4, h5, h6, h7, h8⟩ := hm.h
 obtain ⟨es, ck, g, he, -⟩ := m
 simp only [aLookup, h1, h3, h4, if_true, g, keyAt_g h2 h5 h7 he]
 rcases gmap_find h6 k z es.toList f 0 he with ⟨a, b, -⟩ | ⟨j, a, -, c, -, -⟩
 · simp [a, b]
 · simp [a, c]
theorem aUpdate_g {P : Program} {h : AHeap} {t : TypeId} {z : Value} [hm : MG P t kf z] {r : Nat} {f : List (κ × Value)} (m : GMap kf h r f) (k : κ) (v : Value) : ∃ o, aUpdate P h t (.map (some r)) (kf k) v = some (h.put r (some o), r) ∧ GMap kf (h.put r (some o)) r (gset f k v) := by
 obtain ⟨kt, e, d, h1, h2, h3, h4, h5, h6, h7, h8⟩ := hm.h
 obtain ⟨es, ck, g, he, hb, hn⟩ := m
 have hr := AHeap.lt g
 rcases gmap_find h6 k v es.toList f 0 he with ⟨a, b, c, -⟩ | ⟨j, a, b, c, d, d2, -⟩
 ·
  refine ⟨.map (es.push { key := kf k, val := v, born := ck }) (ck + 1), ?_, _, _, AHeap.get_put_same _ hr _, ?_, ?_, ?_⟩
  · simp only [aUpdate, h1, g, keyAt_g h2 h5 h7 he, b]
  · rw [← c]; simp [kv]
  ·
   intro x hx
   rw [Array.toList_push, List.mem_append] at hx
   rcases hx with hx | hx
   · have := hb x hx; omega
   · simp only [List.mem_singleton] at hx; rw [hx]; exact Nat.lt_succ_self _
  ·
   rw [Array.toList_push, List.map_append, List.nodup_append]
   refine ⟨hn, by simp, fun x hx y hy => ?_⟩
   obtain ⟨e', he', rfl⟩ := List.mem_map.1 hx
   simp only [List.map_cons, List.map_nil, List.mem_singleton] at hy
   have := hb e' he'; omega
 ·
  rw [Nat.zero_add] at a
  have hs : keyStays es j (kf k) = true := by
   have : (es[j]?).map (·.key) = some (kf k) := by simpa using d
   simp [keyStays, this, h8]
  have hbs : (es.modify j fun e => { e with key := kf k, val := v }).toList.map (·.born) = es.toList.map (·.born) := by
   apply List.ext_getElem?
   intro i
   simp only [Array.toList_modify, List.getElem?_map, List.getElem?_modify]
   cases es.toList[i]? with
   | none => rfl
   | some y => simp only [Option.map_some, Option.map_eq_map]; split <;> rfl
  refine ⟨.map (es.modify j fun e => { e with key := kf k, val := v }) ck, ?_, _, _, AHeap.get_put_same _ hr _, ?_, ?_, ?_⟩
  · simp only [aUpdate, h1, g, keyAt_g h2 h5 h7 he, a, hs, if_true]
  · rw [← d2]; simp
  ·
   intro x hx
   have : x.born ∈ (es.modify j fun e => { e with key := kf k, val := v }).toList.map (·.born) := List.mem_map_of_mem hx
   rw [hbs] at this
   obtain ⟨e', he', hq⟩ := List.mem_map.1 this
   have := hb e' he'; omega
  · rw [hbs]; exact hn
theorem aDelete_g {P : Program} {h : AHeap} {t : TypeId} {z : Value} [hm : MG P t kf z] {r : Nat} {f : List (κ × Value)} (m : GMap kf h r f) (k : κ) : ∃ o, aDelete P h t (.map (some r)) (kf k) = some (h.put r (some o), [r]) ∧ GMap kf (h.put r (some o)) r (gdel f k) := by
 obtain ⟨kt, e, d, h1, h2, h3, h4, h5, h6, h7, h8⟩ := hm.h
 obtain ⟨es, ck, g, he, hb, hn⟩ := m
 have hr := AHeap.lt g
 rcases gmap_find h6 k undef es.toList f 0 he with ⟨-, b, -, a⟩ | ⟨j, a, b, -, -, -, c⟩
 ·
  refine ⟨.map es ck, ?_, es, ck, AHeap.get_put_same _ hr _, ?_, hb, hn⟩
  · simp only [aDelete, h1, g, keyAt_g h2 h5 h7 he, b]
  · rw [a]; exact he
 ·
  rw [Nat.zero_add] at a
  have hj : j < es.size := by simpa using b
  have ht : (es.eraseIdxIfInBounds j).toList = es.toList.eraseIdx j := by
   rw [Array.eraseIdxIfInBounds, dif_pos hj, Array.toList_eraseIdx]
  refine ⟨.map (es.eraseIdxIfInBounds j) ck, ?_, _, _, AHeap.get_put_same _ hr _, ?_, ?_, ?_⟩
  · simp only [aDelete, h1, g, keyAt_g h2 h5 h7 he, a]
  · rw [ht]; exact c
  · rw [ht]; exact fun x hx => hb x (List.mem_of_mem_eraseIdx hx)
  · rw [ht]; exact hn.sublist ((List.eraseIdx_sublist _ _).map _)
variable {P : Program} {h : AHeap} {o : Oper} {ov : Ov} {W : Nat → Prop} {q : Bool} {N : Nat} {ops : Array Oper} {os : List Oper} {k : List It} {df : List Nat} {Q : PQ} {d : Nat} {b₀ : Bool} {tr : List (Option LE)}
theorem S.lookupG {t : TypeId} {x y : Operand} {z : Value} {r : Nat} {f : List (κ × Value)} {n : κ} {ok : Bool} [hm : MG P t kf z] (ho : o.op = .lookup t x y ok) (hx : evO ov x = some (.map (some r))) (hy : evO ov y = some (kf n)) (m : GMap kf h r f) : ∀ tm, Rp ov tm → OpOk P o tm h ⟨if ok then .tuple #[(gl f n).getD z, .bool (gl f n).isSome] else (gl f n).getD z, h, [r], [], false, true⟩ := fun tm hr => .read fun D W hD => OpRun.lookup ho (by rw [evO_eq hr hx, evO_eq hr hy]; exact aLookup_g m n ok) hD
theorem GoR.lookupG2 {t : TypeId} {x y : Operand} {z : Value} {r : Nat} {f : List (κ × Value)} {n : κ} [hm : MG P t kf z] (ho : o.op = .lookup t x y true) (hd : o.dst = some d) (hN : dOk d N = true) (hgd : o.guard = none) (hx : evO ov x = some (.map (some r))) (hy : evO ov y = some (kf n)) (m : GMap kf h r f) (g : GoR P W q N ops b₀ os k ((d, .tuple #[(gl f n).getD z, .bool (gl f n).isSome]) :: ov) df h Q) : GoR P W q N ops b₀ (o :: os) k ov df h Q := GoR.step (r := ⟨.tuple #[(gl f n).getD z, .bool (gl f n).isSome], h, [r], [], false, true⟩) hgd hd hN (S.lookupG ho hx hy m) (.inr rfl) (fun i hi => by cases hi) g
theorem GoL.lookupG2 {t : TypeId} {x y : Operand} {z : Value} {r : Nat} {f : List (κ × Value)} {n : κ} [hm : MG P t kf z] (ho : o.op = .lookup t x y true) (hd : o.dst = some d) (hN : dOk d N = true) (hgd : o.guard = none) (hx : evO ov x = some (.map (some r))) (hy : evO ov y = some (kf n)) (m : GMap kf h r f) (g : GoL P W q N ops (tr ++ [some ⟨h.n, h.n, [r], [], false, true⟩]) os k ((d, .tuple #[(gl f n).getD z, .bool (gl f n).isSome]) :: ov) df h Q) : GoL P W q N ops tr (o :: os) k ov df h Q := GoL.step (r := ⟨.tuple #[(gl f n).getD z, .bool (gl f n).isSome], h, [r], [], false, true⟩) (some ⟨h.n, h.n, [r], [], false, true⟩) ⟨rfl, rfl, rfl, rfl, rfl, rfl⟩ hgd hd hN (S.lookupG ho hx hy m) (fun i hi => by cases hi) g
theorem GoL.mapUpdateG {t : TypeId} {x y v : Operand} {z : Value} {r : Nat} {f : List (κ × Value)} {n : κ} {u : Value} [hm : MG P t kf z] (ho : o.op = .mapUpdate t x y v ∨ o.op = .insert t x y v) (hd : o.dst = none) (hgd : o.guard = none) (hx : evO ov x = some (.map (some r))) (hy : evO ov y = some (kf n)) (hv : evO ov v = some u) (m : GMap kf h r f) (hw : W r) (g : ∀ h', GMap kf h' r (gset f n u) → Keeps [r] h h' → h'.n = h.n → GoL P W q N ops (tr ++ [some ⟨h.n, h.n, [r], [r], false, false⟩]) os k ov df h' Q) : GoL P W q N ops tr (o :: os) k ov df h Q := by
 obtain ⟨ob, h1, h2⟩ := aUpdate_g (P := P) (t := t) m n u
 exact GoL.step0 (r := ⟨undef, h.put r (some ob), [r], [r], false, false⟩) (some ⟨h.n, h.n, [r], [r], false, false⟩) ⟨rfl, rfl, rfl, rfl, rfl, rfl⟩ hgd hd (fun tm hr => .write fun D W hD hW => OpRun.mapUpdate ho (by rw [evO_eq hr hx, evO_eq hr hy, evO_eq hr hv]; exact h1) (hD r (by simp)) (hW r (by simp)).2) (fun i hi => by simp at hi; subst hi; exact hw) (g _ h2 ⟨Nat.le_refl _, fun i hi hn => AHeap.get_put_ne _ _ (fun e => hn (by simp [e]))⟩ rfl)
theorem GoL.deleteG {t t₂ : TypeId} {x y : Operand} {z : Value} {r : Nat} {f : List (κ × Value)} {n : κ} [hm : MG P t kf z] (ho : o.op = .call ⟨.builtin .delete, #[x, y], #[t, t₂]⟩) (hd : o.dst = none) (hgd : o.guard = none) (hx : evO ov x = some (.map (some r))) (hy : evO ov y = some (kf n)) (m : GMap kf h r f) (hw : W r) (g : ∀ h', GMap kf h' r (gdel f n) → Keeps [r] h h' → h'.n = h.n → GoL P W q N ops (tr ++ [some ⟨h.n, h.n, [r], [r], false, false⟩]) os k ov df h' Q) : GoL P W q N ops tr (o :: os) k ov df h Q := by
 obtain ⟨ob, h1, h2⟩ := aDelete_g (P := P) (t := t) m n
 exact GoL.step0 (r := ⟨undef, h.put r (some ob), [r], [r], false, false⟩) (some ⟨h.n, h.n, [r], [r], false, false⟩) ⟨rfl, rfl, rfl, rfl, rfl, rfl⟩ hgd hd (fun tm hr => .write fun D W hD hW => OpRun.delete ho (by rw [evO_eq hr hx, evO_eq hr hy]; exact h1) (fun i hi => hD i hi) (fun i hi => (hW i hi).2)) (fun i hi => by simp at hi; subst hi; exact hw) (g _ h2 ⟨Nat.le_refl _, fun i hi hn => AHeap.get_put_ne _ _ (fun e => hn (by simp [e]))⟩ rfl)
theorem GoL.lookup1 {t : TypeId} {x y : Operand} {K : IntKind} {z : Value} {r : Nat} {f : List (Int × Value)} {n : Int} [hm : MI P t K z] (ho : o.op = .lookup t x y false) (hd : o.dst = some d) (hN : dOk d N = true) (hgd : o.guard = none) (hx : evO ov x = some (.map (some r))) (hy : evO ov y = some (.int K n)) (m : IMap h r K f) (g : GoL P W q N ops (tr ++ [some ⟨h.n, h.n, [r], [], false, true⟩]) os k ((d, (al f n).getD z) :: ov) df h Q) : GoL P W q N ops tr (o :: os) k ov df h Q := GoL.step (r := ⟨(al f n).getD z, h, [r], [], false, true⟩) (some ⟨h.n, h.n, [r], [], false, true⟩) ⟨rfl, rfl, rfl, rfl, rfl, rfl⟩ hgd hd hN (S.lookup ho hx hy m) (fun i hi => by cases hi) g
theorem GoL.mapUpdateS {t : TypeId} {x y v : Operand} {K : IntKind} {z : Value} {r : Nat} {f : List (Int × Value)} {n : Int} {u : Value} [hm : MI P t K z] (ho : o.op = .mapUpdate t x y v ∨ o.op = .insert t x y v) (hd : o.dst = none) (hgd : o.guard = none) (hx : evO ov x = some (.map (some r))) (hy : evO ov y = some (.int K n)) (hv : evO ov v = some u) (m : SMap h r K f) (hw : W r) (g : ∀ h', SMap h' r K (aset f n u) → Keeps [r] h h' → h'.n = h.n → GoL P W q N ops (tr ++ [some ⟨h.n, h.n, [r], [r], false, false⟩]) os k ov df h' Q) : GoL P W q N ops tr (o :: os) k ov df h Q := by
 obtain ⟨ob, h1, h2⟩ := aUpdate_S (P := P) (t := t) m n u
 exact GoL.step0 (r := ⟨undef, h.put r (some ob), [r], [r], false, false⟩) (some ⟨h.n, h.n, [r], [r], false, false⟩) ⟨rfl, rfl, rfl, rfl, rfl, rfl⟩ hgd hd (fun tm hr => .write fun D W hD hW => OpRun.mapUpdate ho (by rw [evO_eq hr hx, evO_eq hr hy, evO_eq hr hv]; exact h1) (hD r (by simp)) (hW r (by simp)).2) (fun i hi => by simp at hi; subst hi; exact hw) (g _ h2 ⟨Nat.le_refl _, fun i hi hn => AHeap.get_put_ne _ _ (fun e => hn (by simp [e]))⟩ rfl)
end
end Go.Proofs.Ytccbmmnkiihkaaa
namespace Go.Proofs.Ytccbmmnkiihkaaa
set_option maxRecDepth 100000
structure PV where
 t : Nat
 fl : Nat
 sid : Nat
 ssn : Nat
 ppid : Nat
 a : Option Addr
 cap : Nat
 z : List UInt8
def pC (p : PV) : List Value := [.int .u32 (p.t : Nat), .int .u8 (p.fl : Nat), .int .u16 (p.sid : Nat), .int .u16 (p.ssn : Nat), .int .u32 (p.ppid : Nat), .slice p.a p.z.length p.cap]
def pV (p : PV) : Value := .agg (pC p).toArray
structure PB (p : PV) : Prop where
 t : p.t < 4294967296
 fl : p.fl < 256
 sid : p.sid < 65536
 ssn : p.ssn < 65536
 ppid : p.ppid < 4294967296
def pm (l : List PV) : List (Int × Value) := l.map fun p => ((p.t : Int), pV p)
def pf : List PV → Nat → Option PV
 | [], _ => none
 | p :: r, t => if p.t = t then some p else pf r t
def pdel : List PV → Nat → List PV
 | [], _ => []
 | p :: r, t => if p.t = t then r else p :: pdel r t
def heldN (l : List PV) : Nat := (l.map fun p => p.z.length).sum
theorem al_pm : ∀ (l : List PV) (t : Nat), al (pm l) (t : Int) = (pf l t).map pV
 | [], t => rfl
 | p :: l, t => by
  show (if ((p.t : Nat) : Int) = (t : Int) then some (pV p) else al (pm l) t) = _
  unfold pf
  by_cases h : p.t = t
  · rw [if_pos h, if_pos (by omega)]; rfl
  · rw [if_neg h, if_neg (by omega)]; exact al_pm l t
theorem aset_pm : ∀ (l : List PV) (p : PV), pf l p.t = none → aset (pm l) (p.t : Nat) (pV p) = pm (l ++ [p])
 | [], p, _ => rfl
 | x :: l, p, h => by
  show (if ((x.t : Nat) : Int) = (p.t : Int) then _ else _) = _
  unfold pf at h
  by_cases e : x.t = p.t
  · rw [if_pos e] at h; cases h
  ·
   rw [if_neg e] at h
   rw [if_neg (by omega)]
   show _ :: aset (pm l) (p.t : Nat) (pV p) = _
   rw [aset_pm l p h]; rfl
theorem adel_pm : ∀ (l : List PV) (t : Nat), adel (pm l) (t : Nat) = pm (pdel l t)
 | [], t => rfl
 | x :: l, t => by
  show (if ((x.t : Nat) : Int) = (t : Int) then pm l else ((x.t : Int), pV x) :: adel (pm l) t) = _
  unfold pdel
  by_cases e : x.t = t
  · rw [if_pos e, if_pos (by omega)]
  · rw [if_neg e, if_neg (by omega), adel_pm l t]; rfl
theorem pf_mem : ∀ {l : List PV} {t : Nat} {q : PV}, pf l t = some q → q ∈ l ∧ q.t = t
 | p :: l, t, q, h => by
  unfold pf at h
  by_cases e : p.t = t
  · rw [if_pos e] at h; cases h; exact ⟨by simp, e⟩
  ·
   rw [if_neg e] at h
   have := pf_mem h
   exact ⟨by simp [this.1], this.2⟩
theorem pdel_sub : ∀ {l : List PV} {t : Nat} {q : PV}, q ∈ pdel l t → q ∈ l
 | p :: l, t, q, h => by
  unfold pdel at h
  by_cases e : p.t = t
  · rw [if_pos e] at h; exact List.mem_cons_of_mem _ h
  ·
   rw [if_neg e] at h
   rcases List.mem_cons.1 h with rfl | h
   · simp
   · exact List.mem_cons_of_mem _ (pdel_sub h)
def zAt (l : List PV) (t : Nat) : List UInt8 := match pf l t with
 | some q => q.z
 | none => []
theorem held_del : ∀ (l : List PV) (t : Nat), (zAt l t).length + heldN (pdel l t) = heldN l
 | [], t => rfl
 | p :: l, t => by
  have ih := held_del l t
  unfold zAt pf pdel
  by_cases e : p.t = t
  · rw [if_pos e, if_pos e]; simp [heldN]
  ·
   rw [if_neg e, if_neg e]
   unfold zAt at ih
   simp only [heldN, List.map_cons, List.sum_cons] at ih ⊢
   omega
theorem held_snoc (l : List PV) (p : PV) : heldN (l ++ [p]) = heldN l + p.z.length := by simp [heldN]
def prev32 (t : Nat) : Nat := (t + 4294967295) % 4294967296
def nxt32 (t : Nat) : Nat := (t + 1) % 4294967296
theorem prev32_lt (t : Nat) : prev32 t < 4294967296 := Nat.mod_lt _ (by decide)
theorem nxt32_lt (t : Nat) : nxt32 t < 4294967296 := Nat.mod_lt _ (by decide)
def alikeB (q p : PV) : Bool := decide (q.sid = p.sid) && (decide (q.ssn = p.ssn) && decide ((q.fl ^^^ p.fl) &&& 4 = 0))
def backN (l : List PV) (p : PV) : Nat → PV → Option PV
 | 0, _ => none
 | n + 1, f => if f.fl &&& 2 = 0 then match pf l (prev32 f.t) with
   | none => none
   | some q => if alikeB q p = true ∧ q.fl &&& 1 = 0 then backN l p n q else none
  else some f
def fwdN (l : List PV) (p : PV) : Nat → PV → Option PV
 | 0, _ => none
 | n + 1, f => if f.fl &&& 1 = 0 then match pf l (nxt32 f.t) with
   | none => none
   | some q => if alikeB q p = true ∧ q.fl &&& 2 = 0 then fwdN l p n q else none
  else some f
def gat : Nat → Nat → List PV → List UInt8 → List UInt8 × List PV
 | 0, t, l, D => (D ++ zAt l t, pdel l t)
 | n + 1, t, l, D => gat n (nxt32 t) (pdel l t) (D ++ zAt l t)
theorem gat_zero (t : Nat) (l : List PV) (D : List UInt8) : gat 0 t l D = (D ++ zAt l t, pdel l t) := rfl
theorem gat_succ (n t : Nat) (l : List PV) (D : List UInt8) : gat (n + 1) t l D = gat n (nxt32 t) (pdel l t) (D ++ zAt l t) := rfl
theorem backN_succ (l : List PV) (p : PV) (n : Nat) (f : PV) : backN l p (n + 1) f = if f.fl &&& 2 = 0 then match pf l (prev32 f.t) with
   | none => none
   | some q => if alikeB q p = true ∧ q.fl &&& 1 = 0 then backN l p n q else none
  else some f := rfl
theorem fwdN_succ (l : List PV) (p : PV) (n : Nat) (f : PV) : fwdN l p (n + 1) f = if f.fl &&& 1 = 0 then match pf l (nxt32 f.t) with
   | none => none
   | some q => if alikeB q p = true ∧ q.fl &&& 2 = 0 then fwdN l p n q else none
  else some f := rfl
def gone (a b : Nat) : Nat := (b + 4294967296 - a) % 4294967296
abbrev MS := Nat × Bool × Nat × List UInt8
def putN (l : List PV) (p : PV) : List PV × Option MS :=
 match pf l p.t with
 | some _ => (l, none)
 | none => match backN (l ++ [p]) p (l.length + 1) p with
  | none => (l ++ [p], none)
  | some f => match fwdN (l ++ [p]) p (l.length + 1) p with
   | none => (l ++ [p], none)
   | some g => ((gat (gone f.t g.t) f.t (l ++ [p]) []).2, some (f.sid, decide (¬ f.fl &&& 4 = 0), f.ppid, (gat (gone f.t g.t) f.t (l ++ [p]) []).1))
theorem gat_held : ∀ (n t : Nat) (l : List PV) (D : List UInt8), (gat n t l D).1.length + heldN (gat n t l D).2 = D.length + heldN l
 | 0, t, l, D => by
  have := held_del l t
  simp only [gat, List.length_append]
  omega
 | n + 1, t, l, D => by
  have h := held_del l t
  have ih := gat_held n (nxt32 t) (pdel l t) (D ++ zAt l t)
  rw [List.length_append] at ih
  show (gat n (nxt32 t) (pdel l t) (D ++ zAt l t)).1.length + _ = _
  have e : (gat (n + 1) t l D).2 = (gat n (nxt32 t) (pdel l t) (D ++ zAt l t)).2 := rfl
  rw [e]
  omega
theorem nodup_le {α : Type} [DecidableEq α] : ∀ {l k : List α}, l.Nodup → (∀ x ∈ l, x ∈ k) → l.length ≤ k.length
 | [], k, _, _ => Nat.zero_le _
 | x :: l, k, h, hs => by
  rw [List.nodup_cons] at h
  have hx := hs x (by simp)
  have := nodup_le (l := l) (k := k.erase x) h.2 fun y hy => (List.mem_erase_of_ne (fun e => h.1 (by rw [← e]; exact hy))).2 (hs y (by simp [hy]))
  have h1 := List.length_erase_of_mem hx
  have h2 := List.length_pos_of_mem hx
  simp only [List.length_cons]
  omega
theorem steps_le {g : Nat → Nat} {k : Nat} {K : List Nat} (hg : ∀ i j, i ≤ k → j ≤ k → g i = g j → i = j) (h : ∀ i, i ≤ k → g i ∈ K) : k + 1 ≤ K.length := by
 have := nodup_le (l := (List.range (k + 1)).map g) (k := K) (List.pairwise_map.2 (List.nodup_range.imp_of_mem fun ha hb hab e => hab (hg _ _ (by have := List.mem_range.1 ha; omega) (by have := List.mem_range.1 hb; omega) e))) fun x hx => by
  obtain ⟨i, hi, rfl⟩ := List.mem_map.1 hx
  exact h i (by have := List.mem_range.1 hi; omega)
 simpa using this
end Go.Proofs.Ytccbmmnkiihkaaa
namespace Go.Proofs.Ytccbmmnkiihkaaa
set_option maxRecDepth 100000
def bitB (n w : Nat) : Bool := decide (n / w % 2 = 1)
def at32 (f k : Nat) : Nat := (f + k) % 4294967296
def sub32n (f k : Nat) : Nat := (f + 4294967296 - k) % 4294967296
theorem bit_t (n i : Nat) : n &&& 2 ^ i = 0 ↔ n.testBit i = false := by
 constructor
 ·
  intro h
  have := congrArg (fun x => Nat.testBit x i) h
  simpa [Nat.testBit_and, Nat.testBit_two_pow] using this
 ·
  intro h
  refine Nat.eq_of_testBit_eq fun j => ?_
  rw [Nat.testBit_and, Nat.testBit_two_pow, Nat.zero_testBit]
  by_cases e : i = j
  · subst e; rw [h]; rfl
  · simp [e]
theorem bit_b (n i : Nat) : bitB n (2 ^ i) = n.testBit i := by
 rw [Nat.testBit_eq_decide_div_mod_eq]; rfl
theorem bit_iff (n i : Nat) : n &&& 2 ^ i = 0 ↔ bitB n (2 ^ i) = false := by rw [bit_t, bit_b]
theorem bit4 (n : Nat) : n &&& 4 = 0 ↔ bitB n 4 = false := bit_iff n 2
theorem bit2 (n : Nat) : n &&& 2 = 0 ↔ bitB n 2 = false := bit_iff n 1
theorem bit1 (n : Nat) : n &&& 1 = 0 ↔ bitB n 1 = false := bit_iff n 0
theorem bitx (a b : Nat) : (a ^^^ b) &&& 4 = 0 ↔ bitB a 4 = bitB b 4 := by
 have h := bit_t (a ^^^ b) 2
 have h1 := bit_b a 2
 have h2 := bit_b b 2
 rw [Nat.testBit_xor] at h
 rw [show (2 : Nat) ^ 2 = 4 from rfl] at h h1 h2
 rw [h, h1, h2]
 cases a.testBit 2 <;> cases b.testBit 2 <;> simp
theorem alike_iff (q p : PV) : alikeB q p = true ↔ q.sid = p.sid ∧ q.ssn = p.ssn ∧ bitB q.fl 4 = bitB p.fl 4 := by
 unfold alikeB
 rw [Bool.and_eq_true, Bool.and_eq_true, decide_eq_true_eq, decide_eq_true_eq, decide_eq_true_eq, bitx]
def rowN (L : List PV) (f : Nat) : Nat → Option (List PV)
 | 0 => some []
 | n + 1 => match rowN L f n with
  | none => none
  | some r => match pf L (at32 f n) with
   | none => none
   | some q => some (r ++ [q])
theorem rowN_succ (L : List PV) (f n : Nat) : rowN L f (n + 1) = match rowN L f n with
  | none => none
  | some r => match pf L (at32 f n) with
   | none => none
   | some q => some (r ++ [q]) := rfl
theorem rowN_iff (L : List PV) (f : Nat) : ∀ (n : Nat) (r : List PV), rowN L f n = some r ↔ r.length = n ∧ ∀ k (h : k < r.length), pf L (at32 f k) = some r[k]
 | 0, r => by
  constructor
  · intro h; cases h; exact ⟨rfl, fun k h => by cases h⟩
  · rintro ⟨h, -⟩; rw [List.length_eq_zero_iff.1 h]; rfl
 | n + 1, r => by
  rw [rowN_succ]
  constructor
  ·
   intro h
   cases h1 : rowN L f n with
   | none => rw [h1] at h; cases h
   | some r1 =>
    rw [h1] at h
    cases h2 : pf L (at32 f n) with
    | none => rw [h2] at h; cases h
    | some q =>
     rw [h2] at h; cases h
     obtain ⟨e, hk⟩ := (rowN_iff L f n r1).1 h1
     refine ⟨by simp [e], fun k hk' => ?_⟩
     rcases Nat.lt_or_ge k r1.length with z | z
     · rw [List.getElem_append_left z]; exact hk k z
     ·
      have : k = n := by rw [List.length_append, List.length_singleton] at hk'; omega
      subst this
      rw [List.getElem_append_right z, List.getElem_singleton, h2]
  ·
   rintro ⟨e, hk⟩
   have hne : r ≠ [] := fun h => by rw [h] at e; cases e
   have ed := List.dropLast_concat_getLast hne
   have hdl : r.dropLast.length = n := by rw [List.length_dropLast]; omega
   have h1 : rowN L f n = some r.dropLast := (rowN_iff L f n _).2 ⟨hdl, fun k h => by
    rw [List.getElem_dropLast]; exact hk k (by omega)⟩
   have h2 : pf L (at32 f n) = some (r.getLast hne) := by
    rw [List.getLast_eq_getElem]
    have := hk n (by omega)
    rw [this]
    congr 2
    omega
   rw [h1, h2]
   exact congrArg some ed
structure Wh1 (n : Nat) (z : PV) (i : Nat) (p : PV) : Prop where
 t : p.t = at32 z.t i
 sid : p.sid = z.sid
 ssn : p.ssn = z.ssn
 u : bitB p.fl 4 = bitB z.fl 4
 b : bitB p.fl 2 = decide (i = 0)
 e : bitB p.fl 1 = decide (i = n - 1)
structure Whole (l : List PV) : Prop where
 pos : 0 < l.length
 each : ∀ i (h : i < l.length), Wh1 l.length (l[0]'pos) i l[i]
section
variable {L : List PV} {p : PV} {n f : Nat} {r : List PV}
theorem prev_at {k : Nat} (hf : f < 4294967296) : prev32 (at32 f (k + 1)) = at32 f k := by unfold prev32 at32; omega
theorem next_at {k : Nat} : nxt32 (at32 f k) = at32 f (k + 1) := by unfold nxt32 at32; omega
theorem row_t (h : rowN L f n = some r) {k : Nat} (hk : k < r.length) : r[k].t = at32 f k := (pf_mem (((rowN_iff L f n r).1 h).2 k hk)).2
theorem back_of (hf : f < 4294967296) (h : rowN L f n = some r) (w : Whole r) (j : Nat) (hj : j < r.length) (ha : r[j] = p) : ∀ (i : Nat) (hi : i < r.length) (m : Nat), i < m → i ≤ j → backN L p m r[i] = some (r[0]'w.pos)
 | 0, hi, m + 1, hm, _ => by
  have := (w.each 0 hi).b
  rw [backN_succ, if_neg]
  rw [bit2, this]; decide
 | i + 1, hi, m + 1, hm, hij => by
  have hb := (w.each (i + 1) hi).b
  have hb' := w.each i (by omega)
  have hp := w.each j hj
  rw [backN_succ, if_pos (by rw [bit2, hb]; exact decide_eq_false (by omega)), row_t h, prev_at hf, ((rowN_iff L f n r).1 h).2 i (by omega)]
  dsimp only
  have hal : alikeB r[i] p = true := (alike_iff _ _).2 ⟨by rw [← ha, hb'.sid, hp.sid], by rw [← ha, hb'.ssn, hp.ssn], by rw [← ha, hb'.u, hp.u]⟩
  rw [if_pos ⟨hal, by rw [bit1, hb'.e]; exact decide_eq_false (by omega)⟩]
  exact back_of hf h w j hj ha i (by omega) m (by omega) (by omega)
theorem fwd_of (h : rowN L f n = some r) (w : Whole r) (j : Nat) (hj : j < r.length) (ha : r[j] = p) : ∀ (d i : Nat) (hi : i < r.length) (m : Nat), i + d = r.length - 1 → d < m → fwdN L p m r[i] = some (r[r.length - 1]'(by have := w.pos; omega))
 | 0, i, hi, m + 1, hd, hm => by
  have := (w.each i hi).e
  obtain rfl : i = r.length - 1 := by omega
  rw [fwdN_succ, if_neg (by rw [bit1, this, decide_eq_true rfl]; decide)]
 | d + 1, i, hi, m + 1, hd, hm => by
  have he := (w.each i hi).e
  have hb' := w.each (i + 1) (by omega)
  have hp := w.each j hj
  rw [fwdN_succ, if_pos (by rw [bit1, he]; exact decide_eq_false (by omega)), row_t h, next_at, ((rowN_iff L f n r).1 h).2 (i + 1) (by omega)]
  dsimp only
  have hal : alikeB r[i + 1] p = true := (alike_iff _ _).2 ⟨by rw [← ha, hb'.sid, hp.sid], by rw [← ha, hb'.ssn, hp.ssn], by rw [← ha, hb'.u, hp.u]⟩
  rw [if_pos ⟨hal, by rw [bit2, hb'.b]; exact decide_eq_false (by omega)⟩]
  exact fwd_of h w j hj ha d (i + 1) (by omega) m (by omega) (by omega)
theorem rowN_all (L : List PV) (f : Nat) : ∀ n, (∀ i, i < n → ∃ q, pf L (at32 f i) = some q) → ∃ r, rowN L f n = some r
 | 0, _ => ⟨[], rfl⟩
 | n + 1, h => by
  obtain ⟨r, hr⟩ := rowN_all L f n fun i hi => h i (by omega)
  obtain ⟨q, hq⟩ := h n (by omega)
  exact ⟨r ++ [q], by rw [rowN_succ, hr, hq]⟩
theorem bitT {n w : Nat} (h : ¬ bitB n w = false) : bitB n w = true := by cases hb : bitB n w <;> simp_all
theorem back_row : ∀ (m : Nat) (x g : PV), x.t < 4294967296 → pf L x.t = some x → backN L p m x = some g → ∃ a, a < m ∧ x.t = at32 g.t a ∧ g.t < 4294967296 ∧ pf L g.t = some g ∧ bitB g.fl 2 = true ∧ ∀ i, i ≤ a → ∃ q, pf L (at32 g.t i) = some q ∧ (i ≠ 0 → bitB q.fl 2 = false) ∧ (i < a → bitB q.fl 1 = false ∧ alikeB q p = true)
 | m + 1, x, g, hx, hp, h => by
  rw [backN_succ] at h
  split at h
  ·
   rename_i b2
   cases hq : pf L (prev32 x.t) with
   | none => rw [hq] at h; cases h
   | some q =>
    rw [hq] at h
    dsimp only at h
    split at h
    ·
     rename_i hc
     have hqt := (pf_mem hq).2
     obtain ⟨a, ha, ht, hg, hpg, hb, hall⟩ := back_row m q g (by rw [hqt]; exact prev32_lt _) (by rw [hqt]; exact hq) h
     have hxt : x.t = at32 g.t (a + 1) := by
      rw [hqt] at ht
      unfold prev32 at32 at *
      omega
     refine ⟨a + 1, by omega, hxt, hg, hpg, hb, fun i hi => ?_⟩
     rcases Nat.lt_or_ge a i with z | z
     ·
      obtain rfl : i = a + 1 := by omega
      exact ⟨x, by rw [← hxt]; exact hp, fun _ => (bit2 _).1 b2, fun z => by omega⟩
     ·
      obtain ⟨q', h1, h2, h3⟩ := hall i z
      refine ⟨q', h1, h2, fun _ => ?_⟩
      rcases Nat.lt_or_ge i a with y | y
      · exact h3 y
      ·
       obtain rfl : i = a := by omega
       rw [← ht, hqt, hq] at h1
       cases h1
       exact ⟨(bit1 _).1 hc.2, hc.1⟩
    · cases h
  ·
   rename_i b2
   cases h
   have h0 : at32 x.t 0 = x.t := by unfold at32; omega
   refine ⟨0, by omega, h0.symm, hx, hp, bitT (by rw [← bit2]; exact b2), fun i hi => ?_⟩
   obtain rfl : i = 0 := by omega
   exact ⟨x, by rw [h0]; exact hp, fun z => absurd rfl z, fun z => by omega⟩
theorem fwd_row : ∀ (m : Nat) (x g : PV), x.t < 4294967296 → pf L x.t = some x → fwdN L p m x = some g → ∃ b, b < m ∧ g.t = at32 x.t b ∧ pf L g.t = some g ∧ bitB g.fl 1 = true ∧ ∀ i, i ≤ b → ∃ q, pf L (at32 x.t i) = some q ∧ (i ≠ 0 → bitB q.fl 2 = false ∧ alikeB q p = true) ∧ (i < b → bitB q.fl 1 = false)
 | m + 1, x, g, hx, hp, h => by
  have h0 : at32 x.t 0 = x.t := by unfold at32; omega
  rw [fwdN_succ] at h
  split at h
  ·
   rename_i b2
   cases hq : pf L (nxt32 x.t) with
   | none => rw [hq] at h; cases h
   | some q =>
    rw [hq] at h
    dsimp only at h
    split at h
    ·
     rename_i hc
     have hqt := (pf_mem hq).2
     obtain ⟨b, hb, ht, hpg, hbg, hall⟩ := fwd_row m q g (by rw [hqt]; exact nxt32_lt _) (by rw [hqt]; exact hq) h
     have hsh : ∀ i, at32 q.t i = at32 x.t (i + 1) := fun i => by rw [hqt]; unfold nxt32 at32; omega
     refine ⟨b + 1, by omega, by rw [ht, hsh], hpg, hbg, fun i hi => ?_⟩
     cases i with
     | zero => exact ⟨x, by rw [h0]; exact hp, fun z => absurd rfl z, fun _ => (bit1 _).1 b2⟩
     | succ i =>
      obtain ⟨q', h1, h2, h3⟩ := hall i (by omega)
      rw [hsh] at h1
      refine ⟨q', h1, fun _ => ?_, fun z => h3 (by omega)⟩
      cases i with
      | zero =>
       rw [← hsh, show at32 q.t 0 = q.t from by rw [hqt]; have := nxt32_lt x.t; unfold at32; omega, hqt, hq] at h1
       cases h1
       exact ⟨(bit2 _).1 hc.2, hc.1⟩
      | succ i => exact h2 (by omega)
    · cases h
  ·
   rename_i b2
   cases h
   refine ⟨0, by omega, h0.symm, hp, bitT (by rw [← bit1]; exact b2), fun i hi => ?_⟩
   obtain rfl : i = 0 := by omega
   exact ⟨x, by rw [h0]; exact hp, fun z => absurd rfl z, fun z => by omega⟩
end
end Go.Proofs.Ytccbmmnkiihkaaa
namespace Go.Proofs.Ytccbmmnkiihkaaa
set_option maxRecDepth 100000
theorem pf_snoc : ∀ {l : List PV} {p : PV}, pf l p.t = none → pf (l ++ [p]) p.t = some p
 | [], p, _ => by show (if p.t = p.t then some p else none) = some p; rw [if_pos rfl]
 | x :: l, p, h => by
  unfold pf at h
  show (if x.t = p.t then some x else pf (l ++ [p]) p.t) = some p
  by_cases e : x.t = p.t
  · rw [if_pos e] at h; cases h
  ·
   rw [if_neg e] at h
   rw [if_neg e]; exact pf_snoc h
theorem gone_at (f k : Nat) (hf : f < 4294967296) (hk : k < 4294967296) : gone f (at32 f k) = k := by unfold gone at32; omega
theorem sub_at (x k : Nat) (hx : x < 4294967296) (hk : k < 4294967296) : at32 (sub32n x k) k = x := by unfold sub32n at32; omega
theorem at_sub (f k : Nat) (hf : f < 4294967296) (hk : k < 4294967296) : sub32n (at32 f k) k = f := by unfold sub32n at32; omega
theorem sub32n_lt (x k : Nat) : sub32n x k < 4294967296 := Nat.mod_lt _ (by decide)
theorem at_add (f a i : Nat) (h : a ≤ i) : at32 f i = at32 (at32 f a) (i - a) := by unfold at32; omega
theorem at_inj {f i j : Nat} (hi : i < 4294967296) (hj : j < 4294967296) (h : at32 f i = at32 f j) : i = j := by unfold at32 at h; omega
theorem put_whole {l : List PV} {p : PV} {n back : Nat} {r : List PV} (hp : p.t < 4294967296) (h0 : pf l p.t = none) (hn : n ≤ l.length + 1) (hb : back < n) (hl : l.length ≤ 1000000) (hr : rowN (l ++ [p]) (sub32n p.t back) n = some r) (w : Whole r) :
  ∃ z, r[0]? = some z ∧ z.t = sub32n p.t back ∧ z.ssn = p.ssn ∧ putN l p = ((gat (n - 1) z.t (l ++ [p]) []).2, some (z.sid, bitB z.fl 4, z.ppid, (gat (n - 1) z.t (l ++ [p]) []).1)) := by
 have hL := pf_snoc h0
 have hrl := ((rowN_iff _ _ _ _).1 hr).1
 have hbp : r[back]'(by omega) = p := by
  have := ((rowN_iff _ _ _ _).1 hr).2 back (by omega)
  rw [sub_at _ _ hp (by omega), hL] at this
  exact (Option.some.inj this).symm
 have hB := back_of (sub32n_lt _ _) hr w back (by omega) hbp back (by omega) (l.length + 1) (by omega) (Nat.le_refl _)
 have hF := fwd_of hr w back (by omega) hbp (r.length - 1 - back) back (by omega) (l.length + 1) (by omega) (by omega)
 rw [hbp] at hB hF
 have t0 := row_t hr (k := 0) (by omega)
 have tn := row_t hr (k := r.length - 1) (by omega)
 have t00 : at32 (sub32n p.t back) 0 = sub32n p.t back := by have := sub32n_lt p.t back; unfold at32; omega
 rw [t00] at t0
 have hss := (w.each back (by omega)).ssn
 rw [hbp] at hss
 have hg : gone (r[0]'w.pos).t (r[r.length - 1]'(by omega)).t = n - 1 := by
  rw [t0, tn, gone_at _ _ (sub32n_lt _ _) (by omega)]; omega
 refine ⟨r[0]'w.pos, List.getElem?_eq_getElem w.pos, t0, hss.symm, ?_⟩
 unfold putN
 rw [h0]
 dsimp only
 rw [hB]
 dsimp only
 rw [hF]
 dsimp only
 rw [hg]
 have hd : decide (¬ (r[0]'w.pos).fl &&& 4 = 0) = bitB (r[0]'w.pos).fl 4 := by
  cases h4 : bitB (r[0]'w.pos).fl 4 with
  | true => exact decide_eq_true (by rw [bit4, h4]; decide)
  | false => exact decide_eq_false (by rw [bit4, h4]; decide)
 rw [hd]
theorem put_none {l : List PV} {p : PV} (hp : p.t < 4294967296) (h0 : pf l p.t = none) (hl : l.length ≤ 1000000) (hno : ∀ n back r, n ≤ l.length + 1 → back < n → rowN (l ++ [p]) (sub32n p.t back) n = some r → ¬ Whole r) : putN l p = (l ++ [p], none) := by
 have hL := pf_snoc h0
 unfold putN
 rw [h0]
 dsimp only
 cases hB : backN (l ++ [p]) p (l.length + 1) p with
 | none => rfl
 | some f =>
  dsimp only
  cases hF : fwdN (l ++ [p]) p (l.length + 1) p with
  | none => rfl
  | some g =>
   exfalso
   obtain ⟨a, ha, hta, hft, hpf, hfb, hA⟩ := back_row _ _ _ hp hL hB
   obtain ⟨b, hb, htb, hpg, hge, hBb⟩ := fwd_row _ _ _ hp hL hF
   have hall : ∀ i, i < a + b + 1 → ∃ q, pf (l ++ [p]) (at32 f.t i) = some q ∧ bitB q.fl 2 = decide (i = 0) ∧ bitB q.fl 1 = decide (i = a + b) ∧ (q.sid = p.sid ∧ q.ssn = p.ssn ∧ bitB q.fl 4 = bitB p.fl 4) := by
    intro i hi
    have e1 : ∀ j, a ≤ j → at32 f.t j = at32 p.t (j - a) := fun j hj => by rw [hta]; exact at_add _ _ _ hj
    rcases Nat.lt_or_ge i a with z | z
    ·
     obtain ⟨q, h1, h2, h3⟩ := hA i (by omega)
     obtain ⟨h3, h4⟩ := h3 z
     refine ⟨q, h1, ?_, by rw [h3]; exact (decide_eq_false (by omega)).symm, (alike_iff _ _).1 h4⟩
     by_cases e : i = 0
     ·
      subst e
      rw [show at32 f.t 0 = f.t from by unfold at32; omega, hpf] at h1
      cases h1
      rw [hfb]; rfl
     · rw [h2 e]; exact (decide_eq_false e).symm
    ·
     obtain ⟨q, h1, h2, h3⟩ := hBb (i - a) (by omega)
     rw [← e1 i z] at h1
     have hone : bitB q.fl 1 = decide (i = a + b) := by
      by_cases e : i = a + b
      ·
       rw [e, e1 _ (by omega), show a + b - a = b by omega, ← htb, hpg] at h1
       cases h1
       rw [hge]; exact (decide_eq_true e).symm
      · rw [h3 (by omega)]; exact (decide_eq_false e).symm
     by_cases e : i = a
     ·
      subst e
      rw [e1 _ (Nat.le_refl _), Nat.sub_self, show at32 p.t 0 = p.t from by unfold at32; omega, hL] at h1
      cases h1
      refine ⟨p, by rw [e1 _ (Nat.le_refl _), Nat.sub_self, show at32 p.t 0 = p.t from by unfold at32; omega, hL], ?_, hone, rfl, rfl, rfl⟩
      obtain ⟨q', g1, g2, -⟩ := hA i (Nat.le_refl _)
      rw [← hta, hL] at g1
      cases g1
      by_cases e : i = 0
      ·
       subst e
       rw [show at32 f.t 0 = f.t from by unfold at32; omega] at hta
       rw [← hta, hL] at hpf
       cases hpf
       rw [hfb]; rfl
      · rw [g2 e]; exact (decide_eq_false e).symm
     ·
      obtain ⟨h2, h4⟩ := h2 (by omega)
      exact ⟨q, h1, by rw [h2]; exact (decide_eq_false (by omega)).symm, hone, (alike_iff _ _).1 h4⟩
   have hlen : a + b + 1 ≤ l.length + 1 := by
    have := steps_le (g := fun i => at32 f.t i) (k := a + b) (K := (l ++ [p]).map (·.t)) (fun i j hi hj e => at_inj (by omega) (by omega) e) (fun i hi => by
     obtain ⟨q, h1, -⟩ := hall i (by omega)
     obtain ⟨h2, h3⟩ := pf_mem h1
     exact List.mem_map.2 ⟨q, h2, h3⟩)
    simpa using this
   obtain ⟨r, hr⟩ := rowN_all (l ++ [p]) f.t (a + b + 1) fun i hi => let ⟨q, h1, _⟩ := hall i hi; ⟨q, h1⟩
   have hfs : sub32n p.t a = f.t := by rw [hta]; exact at_sub _ _ hft (by omega)
   refine hno (a + b + 1) a r hlen (by omega) (by rw [hfs]; exact hr) ?_
   obtain ⟨hrl, hrk⟩ := (rowN_iff _ _ _ _).1 hr
   have hq : ∀ i (hi : i < r.length), bitB r[i].fl 2 = decide (i = 0) ∧ bitB r[i].fl 1 = decide (i = a + b) ∧ (r[i].sid = p.sid ∧ r[i].ssn = p.ssn ∧ bitB r[i].fl 4 = bitB p.fl 4) := fun i hi => by
    obtain ⟨q, h1, h2⟩ := hall i (by omega)
    rw [hrk i hi] at h1
    cases h1
    exact h2
   refine ⟨by omega, fun i hi => ?_⟩
   obtain ⟨b1, b2, s1, s2, s3⟩ := hq i hi
   obtain ⟨-, -, z1, z2, z3⟩ := hq 0 (by omega)
   have t0 := row_t hr (k := 0) (by omega)
   rw [show at32 f.t 0 = f.t from by unfold at32; omega] at t0
   exact ⟨by rw [t0]; exact row_t hr hi, by rw [s1, z1], by rw [s2, z2], by rw [s3, z3], b1, by rw [b2, hrl]; rfl⟩
end Go.Proofs.Ytccbmmnkiihkaaa
namespace Go.Proofs.Ytccbmmnkiihkaaa
set_option maxRecDepth 100000
theorem pf_del_ne : ∀ (l : List PV) {t u : Nat}, t ≠ u → pf (pdel l t) u = pf l u
 | [], t, u, _ => rfl
 | x :: l, t, u, h => by
  unfold pdel
  by_cases e : x.t = t
  ·
   rw [if_pos e]
   show _ = (if x.t = u then some x else pf l u)
   rw [if_neg (by rw [e]; exact h)]
  ·
   rw [if_neg e]
   show (if x.t = u then some x else pf (pdel l t) u) = (if x.t = u then some x else pf l u)
   rw [pf_del_ne l h]
def gatS (L : List PV) (D : List UInt8) (t : Nat) : Nat → List UInt8 × List PV
 | 0 => (D, L)
 | i + 1 => ((gatS L D t i).1 ++ zAt (gatS L D t i).2 (at32 t i), pdel (gatS L D t i).2 (at32 t i))
theorem gatS_succ (L : List PV) (D : List UInt8) (t i : Nat) : gatS L D t (i + 1) = ((gatS L D t i).1 ++ zAt (gatS L D t i).2 (at32 t i), pdel (gatS L D t i).2 (at32 t i)) := rfl
theorem gatS_shift (L : List PV) (D : List UInt8) {t : Nat} (ht : t < 4294967296) : ∀ i, gatS L D t (i + 1) = gatS (pdel L t) (D ++ zAt L t) (nxt32 t) i
 | 0 => by
  rw [gatS_succ, show at32 t 0 = t from by unfold at32; omega]; rfl
 | i + 1 => by
  rw [gatS_succ, gatS_shift L D ht i, gatS_succ, show at32 (nxt32 t) i = at32 t (i + 1) from by unfold nxt32 at32; omega]
theorem gat_S : ∀ (n : Nat) {t : Nat} (L : List PV) (D : List UInt8), t < 4294967296 → gat n t L D = gatS L D t (n + 1)
 | 0, t, L, D, ht => by rw [gatS_shift L D ht]; rfl
 | n + 1, t, L, D, ht => by rw [gat_succ, gat_S n _ _ (nxt32_lt t), gatS_shift L D ht]
theorem gatS_pf (L : List PV) (D : List UInt8) (t : Nat) : ∀ (i j : Nat), i ≤ j → j < 4294967296 → pf (gatS L D t i).2 (at32 t j) = pf L (at32 t j)
 | 0, j, _, _ => rfl
 | i + 1, j, h, hj => by
  rw [gatS_succ]
  show pf (pdel _ _) _ = _
  rw [pf_del_ne _ (fun e => by have := at_inj (f := t) (i := i) (j := j) (by omega) hj e; omega), gatS_pf L D t i j (by omega) hj]
theorem gatS_z {L : List PV} {f n : Nat} {r : List PV} (hr : rowN L f n = some r) (D : List UInt8) {i : Nat} (hi : i < r.length) (hn : n < 4294967296) : pf (gatS L D f i).2 (at32 f i) = some r[i] ∧ gatS L D f (i + 1) = ((gatS L D f i).1 ++ r[i].z, pdel (gatS L D f i).2 (at32 f i)) := by
 obtain ⟨hl, hk⟩ := (rowN_iff _ _ _ _).1 hr
 have := (gatS_pf L D f i i (Nat.le_refl _) (by omega)).trans (hk i hi)
 refine ⟨this, ?_⟩
 rw [gatS_succ]
 unfold zAt
 rw [this]
end Go.Proofs.Ytccbmmnkiihkaaa
namespace Go.Proofs.Ytccbmmnkiihkaaa
section
variable {P : Program} {W : Nat → Prop} {q : Bool} {N : Nat} {k : List It} {ov : Ov} {df : List Nat} {h : AHeap} {Q : PQ} {ops : Array Oper} {os : List Oper} {o : Oper} {d : Nat} {b₀ : Bool} {tr : List (Option LE)}
theorem S.maxI {x y : Operand} {ts : Array TypeId} {kd : IntKind} {i j : Int} (ho : o.op = .call ⟨.builtin .max, #[x, y], ts⟩) (hx : evO ov x = some (.int kd i)) (hy : evO ov y = some (.int kd j)) : ∀ tm, Rp ov tm → OpOk P o tm h (pureO h (.int kd (if j > i then j else i))) := fun tm hr =>
 OpOk.flat (by simp [ho]) rfl fun m w A hA => by
  have h1 := hA x (by simp [ho, Op.operands, Call.operands])
  have h2 := hA y (by simp [ho, Op.operands, Call.operands])
  rw [evO_eq hr hx] at h1
  rw [evO_eq hr hy] at h2
  have e1 := VRel.eq_of_flat h1 rfl
  have e2 := VRel.eq_of_flat h2 rfl
  rw [exec_builtin ho]
  simp [builtin, Builtin.max_, Builtin.max2, e1, e2]
theorem S.minI {x y : Operand} {ts : Array TypeId} {kd : IntKind} {i j : Int} (ho : o.op = .call ⟨.builtin .min, #[x, y], ts⟩) (hx : evO ov x = some (.int kd i)) (hy : evO ov y = some (.int kd j)) : ∀ tm, Rp ov tm → OpOk P o tm h (pureO h (.int kd (if j < i then j else i))) := fun tm hr =>
 OpOk.flat (by simp [ho]) rfl fun m w A hA => by
  have h1 := hA x (by simp [ho, Op.operands, Call.operands])
  have h2 := hA y (by simp [ho, Op.operands, Call.operands])
  rw [evO_eq hr hx] at h1
  rw [evO_eq hr hy] at h2
  have e1 := VRel.eq_of_flat h1 rfl
  have e2 := VRel.eq_of_flat h2 rfl
  rw [exec_builtin ho]
  simp [builtin, Builtin.min_, Builtin.min2, e1, e2]
theorem GoR.maxI {x y : Operand} {ts : Array TypeId} {kd : IntKind} {i j : Int} (ho : o.op = .call ⟨.builtin .max, #[x, y], ts⟩) (hd : o.dst = some d) (hN : dOk d N = true) (hgd : o.guard = none) (hx : evO ov x = some (.int kd i)) (hy : evO ov y = some (.int kd j)) (g : GoR P W q N ops b₀ os k ((d, .int kd (if j > i then j else i)) :: ov) df h Q) : GoR P W q N ops b₀ (o :: os) k ov df h Q :=
 GoR.step (r := pureO h _) hgd hd hN (S.maxI ho hx hy) (.inr rfl) (fun i hi => by cases hi) g
theorem GoR.minI {x y : Operand} {ts : Array TypeId} {kd : IntKind} {i j : Int} (ho : o.op = .call ⟨.builtin .min, #[x, y], ts⟩) (hd : o.dst = some d) (hN : dOk d N = true) (hgd : o.guard = none) (hx : evO ov x = some (.int kd i)) (hy : evO ov y = some (.int kd j)) (g : GoR P W q N ops b₀ os k ((d, .int kd (if j < i then j else i)) :: ov) df h Q) : GoR P W q N ops b₀ (o :: os) k ov df h Q :=
 GoR.step (r := pureO h _) hgd hd hN (S.minI ho hx hy) (.inr rfl) (fun i hi => by cases hi) g
theorem S.boolEq {t t₂ : TypeId} {x y : Operand} {a b : Bool} (ho : o.op = .binOp .eql t x y t₂) (hx : evO ov x = some (.bool a)) (hy : evO ov y = some (.bool b)) (hu : P.underlying t = some .bool) : ∀ tm, Rp ov tm → OpOk P o tm h (pureO h (.bool (a == b))) := fun tm hr =>
 OpOk.flat (by simp [ho]) rfl fun m w A hA => by
  have h1 := hA x (by simp [ho, Op.operands])
  have h2 := hA y (by simp [ho, Op.operands])
  rw [evO_eq hr hx] at h1
  rw [evO_eq hr hy] at h2
  have e1 := VRel.eq_of_flat h1 rfl
  have e2 := VRel.eq_of_flat h2 rfl
  simp [execOp, ho, e1, e2, eqGuard, binOp, run_equal_bool w t a b hu]
theorem GoR.boolEq {t t₂ : TypeId} {x y : Operand} {a b : Bool} (ho : o.op = .binOp .eql t x y t₂) (hd : o.dst = some d) (hN : dOk d N = true) (hgd : o.guard = none) (hx : evO ov x = some (.bool a)) (hy : evO ov y = some (.bool b)) (hu : P.underlying t = some .bool) (g : GoR P W q N ops b₀ os k ((d, .bool (a == b)) :: ov) df h Q) : GoR P W q N ops b₀ (o :: os) k ov df h Q :=
 GoR.step (r := pureO h _) hgd hd hN (S.boolEq ho hx hy hu) (.inr rfl) (fun i hi => by cases hi) g
end
end Go.Proofs.Ytccbmmnkiihkaaa
namespace Go.Proofs.Ytccbmmnkiihkaaa
class CL (P : Program) (t : TypeId) (e : outParam TypeId) (sz : outParam Nat) : Prop where
 h : ∃ z, P.underlying t = some (.slice e) ∧ zeroT P e = some z ∧ flatB z = true ∧ z.cells.toList.length = sz ∧ z.cells.toList.all Value.oneCell' = true
section
variable {P : Program} {h : AHeap} {o : Oper} {ov : Ov} {W : Nat → Prop} {q : Bool} {N : Nat} {ops : Array Oper} {os : List Oper} {k : List It} {df : List Nat} {Q : PQ}
end
end Go.Proofs.Ytccbmmnkiihkaaa
namespace Go.Proofs.Ytccbmmnkiihkaaa
section
variable {P : Program} {h : AHeap} {o : Oper} {ov : Ov} {W : Nat → Prop} {q : Bool} {N : Nat} {ops : Array Oper} {os : List Oper} {k : List It} {df : List Nat} {Q : PQ} {d : Nat} {tr : List (Option LE)}
end
end Go.Proofs.Ytccbmmnkiihkaaa
namespace Go.Proofs.Ytccbmmnkiihkaaa
section
variable {P : Program} {h : AHeap} {H : Type}
def Sized (P : Program) {H : Type} (t : TypeId) (d : DataW H) : Prop := ∀ n ∈ d.weights P t, n ≤ reachBytes
theorem Sized.of_all {ts : List TypeId} {ds : List (DataW H)} (h : (DataW.weightsEach P ts ds).all (· ≤ reachBytes) = true) {j : Nat} {t : TypeId} {d : DataW H} (ht : ts[j]? = some t) (hd : ds[j]? = some d) : Sized P t d := fun n hn => by
 have := List.all_eq_true.1 h _ (DataW.weights_mem_each ht hd n hn)
 simpa using this
end
end Go.Proofs.Ytccbmmnkiihkaaa
namespace Go.Proofs.Ytccbmmnkiihkaaa
def FreeFrom (m : Mp) (a : Nat) : Prop := ∀ i, a ≤ i → m i = none
theorem FreeFrom.fresh {m : Mp} {h h' : AHeap} (k : FreeFrom m h.n) : Fresh m h h' := fun i a b => k i a
theorem FreeFrom.step {m m' : Mp} {W : Nat → Prop} {h h' : AHeap} {w w' : World} (k : FreeFrom m h.n) (hn : h.n ≤ h'.n) (f : Fr m m' W h h' w w') : FreeFrom m' h'.n := fun i a => by rw [f.old i (.inr a)]; exact k i (by omega)
def DRun (P : Program) (W : Nat → Prop) (q : Bool) (c : Code) (s : ASt) (R : Exit → ASt → Prop) : Prop :=
 ∀ (m : Mp) (w : World) (A : Act) (r : Option Nat), (q = false → r = none) → MOk P m → FreeFrom m s.h.n → SRel P m s A w → c.wpIn (WF r) 0 P (fun x' A' w' => ∃ s', R x' s' ∧ AFr W s.h s'.h ∧ ∃ m', Fr m m' W s.h s'.h w w' ∧ SRel P m' s' A' w') A w
section
variable {P : Program} {W : Nat → Prop} {q : Bool} {c c₁ c₂ : Code} {s s₁ s₂ s' : ASt} {x : Exit} {R R' : Exit → ASt → Prop}
theorem DRun.mono (k : DRun P W q c s R) (h : ∀ x s', R x s' → R' x s') : DRun P W q c s R' := fun m w A r hq hm hf hs => wpIn_mono (k m w A r hq hm hf hs) fun e a' w' ⟨s', h1, h2⟩ => ⟨s', h _ _ h1, h2⟩
theorem DRun.of_run (k : Run P W q c s x s') (hR : R x s') : DRun P W q c s R := fun m w A r hq hm hf hs => wpIn_mono (k.run m w A r hq hm hf.fresh hs) fun e a' w' ⟨he, m', f, sr⟩ => ⟨s', by rw [he]; exact hR, k.fr, m', f, sr⟩
theorem DRun.seq {R₁ : Exit → ASt → Prop} (h1 : DRun P W q c₁ s R₁) (h2 : ∀ s₁, R₁ .normal s₁ → DRun P W q c₂ s₁ R) (h3 : ∀ x s₁, x ≠ .normal → R₁ x s₁ → R x s₁) : DRun P W q (.seq c₁ c₂) s R := by
 refine fun m w A r hq hm hf hs => wpIn_seq (wpIn_mono (h1 m w A r hq hm hf hs) ?_)
 rintro e a₁ w₁ ⟨s₁, r₁, af1, m₁, f1, hs1⟩
 cases e with
 | normal =>
  refine wpIn_mono (h2 s₁ r₁ m₁ w₁ a₁ r hq (hm.mono (f1.le hf.fresh)) (hf.step af1.n f1) hs1) ?_
  rintro e a₂ w₂ ⟨s₂, r₂, af2, m₂, f2, hs2⟩
  exact ⟨s₂, r₂, af1.trans af2, m₂, Fr.trans af1 af2.n f1 f2, hs2⟩
 | _ => exact ⟨s₁, h3 _ _ (by simp) r₁, af1, m₁, f1, hs1⟩
theorem DRun.cond {o : Operand} {b : Bool} (he : evalT s.tm o = .bool b) (h1 : DRun P W q (if b then c₁ else c₂) s R) : DRun P W q (.cond o c₁ c₂) s R := fun m w A r hq hm hf hs => wpIn_cond (hs.tm.eval hm he) (h1 m w A r hq hm hf hs)
theorem DRun.block {id : Nat} (h1 : DRun P W q c s fun x s' => R (Exit.leave id x) s') : DRun P W q (.block id c) s R := by
 refine fun m w A r hq hm hf hs => wpIn_block (wpIn_mono (h1 m w A r hq hm hf hs) ?_)
 rintro e a₁ w₁ ⟨s₁, r₁, h⟩
 cases e with
 | exit i =>
  simp only [Exit.inBlock]
  simp only [Exit.leave] at r₁
  split
  ·
   rename_i hi
   rw [if_pos hi] at r₁
   exact ⟨s₁, r₁, h⟩
  ·
   rename_i hi
   rw [if_neg hi] at r₁
   exact ⟨s₁, r₁, h⟩
 | _ => exact ⟨s₁, r₁, h⟩
theorem DRun.loop {I : Nat → ASt → Prop} (body : ∀ k s, I k s → DRun P W q c s fun x s' => (x = .normal ∧ ∃ k', k' < k ∧ I k' s') ∨ (x ≠ .normal ∧ R x s')) {k₀ : Nat} (hI : I k₀ s) : DRun P W q (.loop c) s R := by
 have main : ∀ (n k : Nat) (s : ASt), k < n → I k s → ∀ (m : Mp) (w : World) (A : Act) (r : Option Nat), (q = false → r = none) → MOk P m → FreeFrom m s.h.n → SRel P m s A w → ∀ (b : Frame) (k : List Item) (cs : List Frame), b.roundOf = r → ∃ e a' w', (∃ s', R e s' ∧ AFr W s.h s'.h ∧ ∃ m', Fr m m' W s.h s'.h w w' ∧ SRel P m' s' a' w') ∧ ArrivesIn (Machine.fenced P (WF r)) P (lone (b.atR A (.code c :: .inLoop c :: k)) cs w) b k cs e a' w' := by
  intro n
  induction n with
  | zero => intro k s h; omega
  | succ n ih =>
   intro k₁ s hn hI m w A r hq hm hf hs b k cs hb
   obtain ⟨e, a₁, w₁, ⟨s₁, r₁, af1, m₁, f1, hs1⟩, harr⟩ := body k₁ s hI m w A r hq hm hf hs b (.inLoop c :: k) cs hb trivial (WF.room _ _)
   rcases r₁ with ⟨he, k₂, hms, hI1⟩ | ⟨he, hR⟩
   ·
    subst he
    obtain ⟨e₂, a₂, w₂, ⟨s₂, r₂, af2, m₂, f2, hs2⟩, harr₂⟩ := ih k₂ s₁ (by omega) hI1 m₁ w₁ a₁ r hq (hm.mono (f1.le hf.fresh)) (hf.step af1.n f1) hs1 b k cs hb
    exact ⟨e₂, a₂, w₂, ⟨s₂, r₂, af1.trans af2, m₂, Fr.trans af1 af2.n f1 f2, hs2⟩, .of_steps (StepsIn.trans harr (.one (fenced_calm (F := WF r) (n := 0) trivial (WF.room _ _) rfl) stepR_inLoop)) harr₂⟩
   · exact ⟨e, a₁, w₁, ⟨s₁, hR, af1, m₁, f1, hs1⟩, .pass (x := .inLoop c) rfl (fun _ _ => .inl he) harr⟩
 intro m w A r hq hm hf hs b k cs hb h1 h2
 obtain ⟨e, a', w', hq, harr⟩ := main _ _ s (Nat.lt_succ_self _) hI m w A r hq hm hf hs b k cs hb
 exact ⟨e, a', w', hq, .of_steps (.one (fenced_calm (F := WF r) h1 h2 rfl) stepR_loop) harr⟩
end
def OpD (P : Program) (W : Nat → Prop) (o : Oper) (tm : List Value) (h : AHeap) (R : Value → AHeap → Prop) : Prop :=
 ∀ (m : Mp) (w : World) (A : Act) (r : Option Nat), MOk P m → FreeFrom m h.n → (∀ x ∈ o.op.operands, VRel m (evalT tm x) (A.eval x)) → HRel P m Ev h w →
  ∀ (K : Act → World → Prop) (Q : Exit → Act → World → Prop), (∀ v h' v' w' m', R v h' → AFr W h h' → Fr m m' W h h' w w' → VRel m' v v' → HRel P m' Ev h' w' → K (A.put o.dst v') w') → o.wpIn (WF r) 0 P A w K Q
theorem OpD.of_run {P : Program} {W : Nat → Prop} {o : Oper} {tm : List Value} {h h' : AHeap} {v : Value} {R : Value → AHeap → Prop} (k : OpRun P Ev W o tm h v h') (hR : R v h') : OpD P W o tm h R := fun m w A r hm hf hx H K Q hK => k.run m w A r hm hf.fresh hx H K Q fun v' w' m' f x y => hK v h' v' w' m' hR k.fr f x y
def OpsD (P : Program) (W : Nat → Prop) (ops : Array Oper) : List Nat → List Value → AHeap → (List Value → AHeap → Prop) → Prop
 | [], tm, h, R => R tm h
 | i :: is, tm, h, R => ∃ o, ops[i]? = some o ∧ ((Region.wanted o (yielded ops tm.toArray) = false ∧ OpsD P W ops is (putT tm o.dst undef) h R) ∨ (Region.wanted o (yielded ops tm.toArray) = true ∧ ∃ R₁, OpD P W o tm h R₁ ∧ ∀ v h', R₁ v h' → OpsD P W ops is (putT tm o.dst v) h' R))
theorem OpsD.run {P : Program} {W : Nat → Prop} {ops : Array Oper} (hk : opsOk P ops = true) {r : Option Nat} {R : List Value → AHeap → Prop} : ∀ (is : List Nat) (tm : List Value) (h : AHeap), OpsD P W ops is tm h R → ∀ (m : Mp) (A : Act) (w : World), MOk P m → FreeFrom m h.n → ARel m tm.toArray A.tmps → HRel P m Ev h w →
  ∀ Q : Exit → Act → World → Prop, (∀ tm' h' m' A' w', R tm' h' → AFr W h h' → Fr m m' W h h' w w' → ARel m' tm'.toArray A'.tmps → A'.defers = A.defers → HRel P m' Ev h' w' → Q .normal A' w') → wpOpsIn (WF r) 0 P ops Q is A w
 | [], tm, h, k => fun m A w hm hf ht hh Q hQ => hQ tm h m A w k (.refl _ _) (.refl _ _ _ _) ht rfl hh
 | i :: is, tm, h, k => fun m A w hm hf ht hh Q hQ => by
  obtain ⟨o, ho, k⟩ := k
  rw [wpOpsIn_cons]
  unfold wpOpIn
  have hlen : A.tmps.size = tm.length := by have := ht.1; simpa using this.symm
  rcases k with ⟨hw, k⟩ | ⟨hw, R₁, k1, k2⟩
  ·
   have hw' : Region.wanted o (yielded ops A.tmps) = false := by
    rw [← hw]; unfold Region.wanted
    cases o.guard with
    | none => rfl
    | some gw => simp only; rw [yielded_rel (m := m) hlen gw.1 fun d _ => by simpa using ht.getD d]
   simp only [ho, hw', Bool.false_eq_true, if_false]
   refine ⟨fun _ _ => trivial, OpsD.run hk is _ h k m _ w hm hf (putT_rel ht (.tuple rfl fun i v v' e => by simp at e)) hh Q fun tm' h' m' A' w' hr af f a d b => hQ tm' h' m' A' w' hr af f a ?_ b⟩
   rw [d]; cases o.dst <;> rfl
  ·
   have hw' : Region.wanted o (yielded ops A.tmps) = true := by
    rw [← hw]; unfold Region.wanted
    cases o.guard with
    | none => rfl
    | some gw => simp only; rw [yielded_rel (m := m) hlen gw.1 fun d _ => by simpa using ht.getD d]
   simp only [ho, hw', if_true]
   refine k1 m w A r hm hf (fun x hx => opd_rel hm ?_ fun t _ => by simpa using ht.getD t) hh _ _ fun v h' v' w' m' hr1 af1 f hv hh' => ?_
   · exact List.all_eq_true.1 (List.all_eq_true.1 hk o (by simpa using Array.mem_of_getElem? ho)) x (by simpa using hx)
   ·
    refine OpsD.run hk is _ h' (k2 v h' hr1) m' _ w' (hm.mono (f.le hf.fresh)) (hf.step af1.n f) (putT_rel (ht.mono (f.le hf.fresh)) hv) hh' Q fun tm'' h'' m'' A' w'' hr af f' a d b => hQ tm'' h'' m'' A' w'' hr (af1.trans af) (Fr.trans af1 af.n f f') a ?_ b
    rw [d]; cases o.dst <;> rfl
theorem DRun.region {P : Program} {W : Nat → Prop} {q : Bool} {id : Nat} {ops : Array Oper} {s : ASt} {R : Exit → ASt → Prop} (hk : opsOk P ops = true) (k : OpsD P W ops (List.range ops.size) s.tm s.h fun tm' h' => R .normal ⟨tm', s.df, h'⟩) : DRun P W q (.region id ops false) s R :=
 fun m w A r _ hm hf hs => wpIn_region (OpsD.run hk _ _ _ k m A w hm hf hs.tm hs.h _ fun tm' h' m' A' w' hr af f a d b => ⟨⟨tm', s.df, h'⟩, hr, af, m', f, ⟨a, by rw [d]; exact hs.df.mono (f.le hf.fresh), b⟩⟩)
theorem ERel.at {m : Mp} {es es' : Array MapEntry} (k : ERel m es es') {e' : MapEntry} (he : e' ∈ es'.toList) : ∃ e ∈ es.toList, VRel m e.key e'.key ∧ VRel m e.val e'.val ∧ e.born = e'.born := by
 obtain ⟨j, hj, rfl⟩ := List.getElem_of_mem he
 have hj' : j < es'.size := by simpa using hj
 have hj2 : j < es.size := by rw [k.1]; exact hj'
 refine ⟨es[j], by simp, ?_⟩
 have := k.2 j es[j] es'[j] (by simp [hj2]) (by simp [hj'])
 simpa using this
theorem ERel.at' {m : Mp} {es es' : Array MapEntry} (k : ERel m es es') {e : MapEntry} (he : e ∈ es.toList) : ∃ e' ∈ es'.toList, VRel m e.key e'.key ∧ VRel m e.val e'.val ∧ e.born = e'.born := by
 obtain ⟨j, hj, rfl⟩ := List.getElem_of_mem he
 have hj' : j < es.size := by simpa using hj
 have hj2 : j < es'.size := by rw [← k.1]; exact hj'
 refine ⟨es'[j], by simp, ?_⟩
 have := k.2 j es[j] es'[j] (by simp [hj']) (by simp [hj2])
 simpa using this
def NextR (h : AHeap) (i r c : Nat) (seen : List Nat) (es : Array MapEntry) (v : Value) (h' : AHeap) : Prop :=
 ((∀ e ∈ es.toList, e.born ∈ seen) ∧ v = .tuple #[.bool false] ∧ h' = h) ∨ ∃ e ∈ es.toList, e.born ∉ seen ∧ v = .tuple #[.bool true, e.key, e.val] ∧ h' = h.put i (some (.mit (some r) c (seen ++ [e.born])))
theorem OpD.next {P : Program} {W : Nat → Prop} {o : Oper} {tm : List Value} {h : AHeap} {x : Operand} {i r c : Nat} {seen : List Nat} {es : Array MapEntry} (ho : o.op = .next x false) (hx : evalT tm x = .pointer (some ⟨i, 0, none⟩)) (hi : h.get i = some (.mit (some r) c seen)) (hr : h.get r = some (.map es c)) (hb : ∀ e ∈ es.toList, e.born < c) (hW : W i) : OpD P W o tm h (NextR h i r c seen es) := fun m w A r' hm hf hxs H K Q hK => by
 have h1 := hxs x (by simp [ho, Op.operands])
 rw [hx] at h1
 generalize hy : A.eval x = x' at h1
 cases h1 with
 | @ptr _ _ l hl =>
 obtain ⟨o', a1, a2⟩ := H.obj i l _ trivial hl hi
 cases a2 with
 | @mit _ _ lr _ hs hlr =>
 obtain ⟨o2, b1, b2⟩ := H.obj r lr _ trivial hlr hr
 cases b2 with
 | @map _ es' _ er =>
 have hold : ∀ x ∈ es'.toList, x.born < c := fun e' he' => by
  obtain ⟨e, h1, -, -, h4⟩ := er.at he'
  have := hb e h1; omega
 have ad : (⟨l.b, 0 + l.sh, none⟩ : Addr) = ⟨l.b, 0, none⟩ := by rw [hs]
 rw [ad] at hy
 have hd : ∀ c, o.op ≠ .defer c := by simp [ho]
 rcases run_next_at w o.type l.b lr.b c c seen.toArray es' c a1 b1 hold (Nat.le_refl _) (P := P) with ⟨h0, hrun⟩ | ⟨e', he', w1, hw1, hrun⟩
 ·
  refine wpIn_value hd (v := .tuple #[.bool false]) (w' := w) ?_ (hK _ h _ w m (.inl ⟨fun e he => ?_, rfl, rfl⟩) (.refl _ _) (.refl _ _ _ _) (VRel.flat _ rfl) H)
  ·
   simp [execOp, ho, hy, hrun, Sem.run_bind, Result.andThen]
   try rfl
  ·
   obtain ⟨e', he', -, -, hbb⟩ := er.at' he
   have : e' ∉ (leftOf es' seen.toArray).toList := by
    rw [Array.eq_empty_of_size_eq_zero h0]; simp
   simp only [leftOf, Array.toList_filter, List.mem_filter, he', true_and, Bool.not_eq_true'] at this
   have : seen.toArray.contains e'.born = true := by simpa using this
   rw [hbb]; simpa using this
 ·
  simp only [leftOf, Array.toList_filter, List.mem_filter, Bool.not_eq_true'] at he'
  obtain ⟨e, he, hk, hv, hbb⟩ := er.at he'.1
  have hni : e.born ∉ seen := by rw [hbb]; simpa using he'.2
  have hou : (AObj.mit (some r) c (seen ++ [e.born])).other = true := rfl
  have Fd : Fr m m W h h w w1 := by
   rcases hw1 with rfl | rfl
   · exact .refl _ _ _ _
   · exact Fr.drew m W h w _
  have H1 : HRel P m Ev h w1 := by
   rcases hw1 with rfl | rfl
   · exact H
   · exact H.world rfl
  have hob : ORel P m l (.mit (some r) c (seen ++ [e.born])) (.mapIter (some lr.b) c (seen.toArray.push e'.born) c) := by
   have := ORel.mit (P := P) (m := m) (l := l) (r := r) (k := c) (lr := lr) (seen := seen ++ [e.born]) hs hlr
   rw [hbb] at this ⊢
   simpa using this
  refine wpIn_value hd (v := .tuple #[.bool true, e'.key, e'.val]) (w' := ChangeMaps.setBlock w1 l.b (.mapIter (some lr.b) c (seen.toArray.push e'.born) c)) ?_ (hK (.tuple #[.bool true, e.key, e.val]) (h.put i (some (.mit (some r) c (seen ++ [e.born])))) _ _ m (.inr ⟨e, he, hni, rfl, rfl⟩) (AFr.putOther h hW hi hou) ?_ ?_ ?_)
  ·
   simp [execOp, ho, hy, hrun, Sem.run_bind, Result.andThen]
   try rfl
  · exact Fr.trans (AFr.refl W h) (by simp) Fd (Fr.putOther hW hl hi _ _)
  ·
   refine .tuple rfl fun j u u' e1 e2 => ?_
   match j, e1, e2 with
   | 0, e1, e2 => simp at e1 e2; subst e1 e2; exact .bool _
   | 1, e1, e2 => simp at e1 e2; subst e1 e2; exact hk
   | 2, e1, e2 => simp at e1 e2; subst e1 e2; exact hv
   | j + 3, e1, e2 => simp at e1
  · exact H1.putOther hl hi hou hob
end Go.Proofs.Ytccbmmnkiihkaaa
namespace Go.Proofs.Ytccbmmnkiihkaaa
def GxD (P : Program) (W : Nat → Prop) (q : Bool) : List It → Exit → List Value → List Nat → AHeap → PQ → Prop
 | [], x, tm, df, h, Q => Q x tm df h
 | .leave id :: k, x, tm, df, h, Q => GxD P W q k (Exit.leave id x) tm df h Q
 | .sc :: k, x, tm, df, h, Q => (∀ l, x ≠ .goto l) ∧ GxD P W q k x tm df h Q
 | .back R :: k, x, tm, df, h, Q => (x = .normal → R tm df h) ∧ (x ≠ .normal → GxD P W q k x tm df h Q)
 | .soft _ :: k, x, tm, df, h, Q => GxD P W q k x tm df h Q
 | .code c :: k, x, tm, df, h, Q => (x = .normal → DRun P W q c ⟨tm, df, h⟩ fun x' s' => s'.tm.length = tm.length ∧ GxD P W q k x' s'.tm s'.df s'.h Q) ∧ (x ≠ .normal → GxD P W q k x tm df h Q)
def GoD (P : Program) (W : Nat → Prop) (q : Bool) (n : Nat) (k : List It) (x : Exit) (ov : Ov) (df : List Nat) (h : AHeap) (Q : PQ) : Prop :=
 ∀ tm : List Value, tm.length = n → Rp ov tm → GxD P W q k x tm df h Q
def SegQ (P : Program) (W : Nat → Prop) (q : Bool) (k : List It) (Q : PQ) : PQ := fun x tm df h => GxD P W q k x tm df h Q
section
variable {P : Program} {W : Nat → Prop} {q : Bool} {n : Nat} {k : List It} {x : Exit} {ov : Ov} {df : List Nat} {h : AHeap} {Q : PQ}
theorem GoD.name (g : ∀ h', h' = h → GoD P W q n k x ov df h' Q) : GoD P W q n k x ov df h Q := g h rfl
theorem GoD.skip_code {c : Code} (hx : x ≠ .normal) (g : GoD P W q n k x ov df h Q) : GoD P W q n (.code c :: k) x ov df h Q := fun tm hN hr => ⟨fun e => absurd e hx, fun _ => g tm hN hr⟩
theorem GoD.leave {id : Nat} (g : GoD P W q n k (Exit.leave id x) ov df h Q) : GoD P W q n (.leave id :: k) x ov df h Q := g
theorem GoD.seq {a b : Code} (g : GoD P W q n (.code a :: .code b :: k) .normal ov df h Q) : GoD P W q n (.code (.seq a b) :: k) .normal ov df h Q := fun tm hN hr => by
 refine ⟨fun _ => ?_, fun e => absurd rfl e⟩
 refine DRun.seq ((g tm hN hr).1 rfl) (fun s₁ ⟨n1, g1⟩ => (g1.1 rfl).mono fun x s' ⟨n2, g2⟩ => ⟨n2.trans n1, g2⟩) fun x s₁ hx ⟨n1, g1⟩ => ⟨n1, g1.2 hx⟩
theorem GoD.block {id : Nat} {c : Code} (g : GoD P W q n (.code c :: .leave id :: k) .normal ov df h Q) : GoD P W q n (.code (.block id c) :: k) .normal ov df h Q := fun tm hN hr => ⟨fun _ => DRun.block (((g tm hN hr).1 rfl).mono fun x s' ⟨n1, g1⟩ => ⟨n1, g1⟩), fun e => absurd rfl e⟩
theorem Gx.drun {c : Code} {tm : List Value} (g : Gx P W q [.code c] .normal tm df h (SegQ P W q k Q)) : GxD P W q (.code c :: k) .normal tm df h Q := by
 obtain ⟨x', tm', df', h', r, hl, g'⟩ := g.1 rfl
 exact ⟨fun _ => DRun.of_run r ⟨hl, g'⟩, fun e => absurd rfl e⟩
theorem GoD.seg {c : Code} (g : Go P W q n [.code c] .normal ov df h (SegQ P W q k Q)) : GoD P W q n (.code c :: k) .normal ov df h Q := fun tm hN hr => Gx.drun (g tm hN hr)
theorem GoD.back (g : GoD P W q n k x ov df h Q) : Go P W q n [] x ov df h (SegQ P W q k Q) := fun tm hN hr => g tm hN hr
theorem GoD.loop {α : Type} (fr : α → Ov) (dfs : α → List Nat) (hp : α → AHeap) (I : α → Prop) (ms : α → Nat) (a₀ : α) {c : Code}
  (h0 : I a₀) (hs : Ov.sub ov (fr a₀)) (hd : df = dfs a₀) (hh : h = hp a₀)
  (round : ∀ a, I a → GoD P W q n (.code c :: .back (Round fr dfs hp I ms (ms a)) :: k) .normal (fr a) (dfs a) (hp a) Q) : GoD P W q n (.code (.loop c) :: k) .normal ov df h Q := fun tm hN hr => by
 refine ⟨fun _ => ?_, fun e => absurd rfl e⟩
 subst hd hh
 refine DRun.loop (I := fun j s => ∃ a, I a ∧ ms a = j ∧ s.tm.length = n ∧ Rp (fr a) s.tm ∧ s.df = dfs a ∧ s.h = hp a) (k₀ := ms a₀) ?_ ⟨a₀, h0, rfl, hN, hr.sub hs, rfl, rfl⟩
 rintro j ⟨tm1, df1, h1⟩ ⟨a, ha, rfl, hl, hrp, e1, e2⟩
 simp only at hl hrp e1 e2
 subst e1 e2
 refine ((round a ha tm1 hl hrp).1 rfl).mono fun x' s' ⟨n1, g1⟩ => ?_
 by_cases hx : x' = .normal
 ·
  obtain ⟨b, hb, hm, hrb, f1, f2⟩ := g1.1 hx
  exact .inl ⟨hx, ms b, hm, b, hb, rfl, n1.trans hl, hrb, f1, f2⟩
 · exact .inr ⟨hx, (n1.trans hl).trans hN.symm, g1.2 hx⟩
theorem GoD.again {α : Type} {fr : α → Ov} {dfs : α → List Nat} {hp : α → AHeap} {I : α → Prop} {ms : α → Nat} {j : Nat} (a : α) (ha : I a) (hm : ms a < j) (hs : Ov.sub ov (fr a)) (hd : df = dfs a) (hh : h = hp a) : GoD P W q n (.back (Round fr dfs hp I ms j) :: k) .normal ov df h Q := fun tm hN hr => ⟨fun _ => ⟨a, ha, hm, hr.sub hs, hd, hh⟩, fun e => absurd rfl e⟩
theorem range2 : List.range 2 = [0, 1] := rfl
theorem GoD.next {id : Nat} {o1 o2 : Oper} {d1 d2 : Tmp} {xo : Operand} {i r c : Nat} {seen : List Nat} {es : Array MapEntry} (hk : opsOk P #[o1, o2] = true) (h1 : o1.op = .next xo false) (hd1 : o1.dst = some d1) (hN1 : dOk d1 n = true) (hg1 : o1.guard = none) (h2 : o2.op = .extract (.tmp d1) 0) (hd2 : o2.dst = some d2) (hN2 : dOk d2 n = true) (hg2 : o2.guard = none)
  (hx : evO ov xo = some (.pointer (some ⟨i, 0, none⟩))) (hi : h.get i = some (.mit (some r) c seen)) (hr : h.get r = some (.map es c)) (hb : ∀ e ∈ es.toList, e.born < c) (hW : W i)
  (g0 : (∀ e ∈ es.toList, e.born ∈ seen) → GoD P W q n k .normal ((d2, .bool false) :: (d1, .tuple #[.bool false]) :: ov) df h Q)
  (g1 : ∀ e ∈ es.toList, e.born ∉ seen → GoD P W q n k .normal ((d2, .bool true) :: (d1, .tuple #[.bool true, e.key, e.val]) :: ov) df (h.put i (some (.mit (some r) c (seen ++ [e.born])))) Q) :
  GoD P W q n (.code (.region id #[o1, o2] false) :: k) .normal ov df h Q := fun tm hN hrp => by
 refine ⟨fun _ => DRun.region hk ?_, fun e => absurd rfl e⟩
 show OpsD P W #[o1, o2] (List.range 2) tm h _
 rw [range2]
 refine ⟨o1, rfl, .inr ⟨by simp [Region.wanted, hg1], NextR h i r c seen es, OpD.next h1 (evO_eq hrp hx) hi hr hb hW, fun v h' hR => ?_⟩⟩
 have rp1 : Rp ((d1, v) :: ov) (putT tm o1.dst v) := by rw [hd1]; exact hrp.put hN hN1 v
 have l1 : (putT tm o1.dst v).length = n := by rw [putT_len]; exact hN
 rcases hR with ⟨hall, rfl, rfl⟩ | ⟨e, he, hs, rfl, rfl⟩
 ·
  refine ⟨o2, rfl, .inr ⟨by simp [Region.wanted, hg2], fun u h'' => u = .bool false ∧ h'' = h', OpD.of_run (OpRun.extract h2 (v := .bool false) ?_) ⟨rfl, rfl⟩, ?_⟩⟩
  · rw [evO_eq rp1 (x := .tmp d1) (v := .tuple #[.bool false]) (by simp [evO, Ov.find])]; rfl
  ·
   rintro u h'' ⟨rfl, rfl⟩
   refine ⟨?_, ?_⟩
   · rw [putT_len, putT_len]
   · exact g0 hall _ (by rw [putT_len]; exact l1) (by rw [hd2]; exact rp1.put l1 hN2 _)
 ·
  refine ⟨o2, rfl, .inr ⟨by simp [Region.wanted, hg2], fun u h'' => u = .bool true ∧ h'' = h.put i (some (.mit (some r) c (seen ++ [e.born]))), OpD.of_run (OpRun.extract h2 (v := .bool true) ?_) ⟨rfl, rfl⟩, ?_⟩⟩
  · rw [evO_eq rp1 (x := .tmp d1) (v := .tuple #[.bool true, e.key, e.val]) (by simp [evO, Ov.find])]; rfl
  ·
   rintro u h'' ⟨rfl, rfl⟩
   refine ⟨?_, ?_⟩
   · rw [putT_len, putT_len]
   · exact g1 e he hs _ (by rw [putT_len]; exact l1) (by rw [hd2]; exact rp1.put l1 hN2 _)
end
section
variable {P : Program} {W : Nat → Prop} {q : Bool} {N : Nat} {k : List It} {ov : Ov} {df : List Nat} {h : AHeap} {Q : PQ} {ops : Array Oper} {b₀ : Bool} {o : Oper} {os : List Oper} {d : Tmp}
theorem GoR.range {t : TypeId} {x : Operand} {r ck : Nat} {es : Array MapEntry} {kt e : TypeId} (ho : o.op = .range t x) (hd : o.dst = some d) (hN : dOk d N = true) (hgd : o.guard = none) (hx : evO ov x = some (.map (some r))) (hu : P.underlying t = some (.map kt e)) (hr : h.get r = some (.map es ck)) (g : GoR P W q N ops b₀ os k ((d, .pointer (some ⟨h.n, 0, none⟩)) :: ov) df (h.push (.mit (some r) ck [])) Q) : GoR P W q N ops b₀ (o :: os) k ov df h Q :=
 GoR.step (r := ⟨.pointer (some ⟨h.n, 0, none⟩), h.push (.mit (some r) ck []), [r], [], false, false⟩) hgd hd hN (fun tm hr' => .write fun D W' h1 h2 => OpRun.range ho (by rw [evO_eq hr' hx]; simp [aRange, hu, hr]) h1) (.inr rfl) (fun i hi => by cases hi) g
end
end Go.Proofs.Ytccbmmnkiihkaaa
namespace Go.Proofs.Ytccbmmnkiihkaaa
def cutM (m : Mp) (n : Nat) : Mp := fun i => if i < n then m i else none
theorem cutM_lt {m : Mp} {n i : Nat} (h : i < n) : cutM m n i = m i := if_pos h
theorem HRel.kept {P : Program} {m : Mp} {h : AHeap} {w w' : World} (hh : HRel P m Ev h w) (hk : ∀ b, b < w.heap.size → w'.heap[b]? = w.heap[b]?) (hs : w.heap.size ≤ w'.heap.size) : HRel P m Ev h w' where
 lt := fun i l e => Nat.lt_of_lt_of_le (hh.lt i l e) hs
 typ := hh.typ
 inj := hh.inj
 roS := hh.roS
 obj := fun i l o _ a b => by
  obtain ⟨o', x, y⟩ := hh.obj i l o trivial a b
  exact ⟨o', by rw [hk l.b (hh.lt i l a)]; exact x, y⟩
section
variable {P : Program} {W : Nat → Prop} {q : Bool} {n n0 sz len : Nat} {e : TypeId} {cs : List Value} {ov : Ov} {h : AHeap} {rs : List ResultVar} {x : Exit}
end
end Go.Proofs.Ytccbmmnkiihkaaa
namespace Go.Proofs.Ytccbmmnkiihkaaa
theorem HRel.fewer {P : Program} {m : Mp} {h H : AHeap} {w : World} (hh : HRel P m Ev h w) (sub : ∀ i o, H.get i = some o → h.get i = some o) : HRel P m Ev H w where
 lt := hh.lt
 typ := fun i l c t a b => hh.typ i l c t a (sub i _ b)
 inj := fun i j l k a b c d e => by
  refine hh.inj i j l k a b (fun q => c ?_) ?_ e
  ·
   cases hc : H.get i with
   | none => rfl
   | some o => rw [sub i o hc] at q; cases q
  ·
   obtain ⟨o, x, y⟩ := d
   exact ⟨o, sub j o x, y⟩
 roS := fun i l c a b => hh.roS i l c a (sub i _ b)
 obj := fun i l o _ a b => hh.obj i l o trivial a (sub i _ b)
theorem CallRun.frame {P : Program} {C : Nat → Prop} {f : FuncId} {args : Array Value} {H h H' h' : AHeap} {v : Value} (k : CallRun P C f args H v H') (n0 : H.n = h.n) (n1 : H'.n = h'.n) (sub : ∀ i o, H.get i = some o → h.get i = some o)
  (e1 : ∀ i, i < h.n → ¬ C i → h'.get i = h.get i) (e2 : ∀ i o, (C i ∨ h.n ≤ i) → h'.get i = some o → H'.get i = some o) : CallRun P C f args h v h' := by
 have hn : h.n ≤ h'.n := by rw [← n0, ← n1]; exact k.fr.n
 have liv : ∀ i, H.live i → h.live i := fun i ⟨o, x, y⟩ => ⟨o, sub i o x, y⟩
 have frm : ∀ i, i < h.n → C i → ∀ o, h'.get i = some o → H'.get i = some o := fun i hi hc o e => e2 i o (.inl hc) e
 refine ⟨⟨hn, e1, fun i c t hi e => ?_, fun i hi e => ?_, fun i hi e => ?_, fun i c hi e => ?_⟩, fun m w args' hm hf ha hh => ?_⟩
 ·
  by_cases hc : C i
  ·
   obtain ⟨c₀, a, b⟩ := k.fr.typ i c t (by omega) (frm i hi hc _ e)
   exact ⟨c₀, sub i _ a, b⟩
  · exact ⟨c, by rw [← e1 i hi hc]; exact e, rfl⟩
 ·
  by_cases hc : C i
  ·
   cases ho : h'.get i with
   | none => exact absurd ho e
   | some o =>
    have := k.fr.alive i (by omega) (by rw [frm i hi hc o ho]; simp)
    cases hq : H.get i with
    | none => exact absurd hq this
    | some o' => rw [sub i o' hq]; simp
  · rw [← e1 i hi hc]; exact e
 ·
  by_cases hc : C i
  ·
   obtain ⟨o, x, y⟩ := e
   exact liv i (k.fr.live i (by omega) ⟨o, frm i hi hc o x, y⟩)
  · exact AHeap.live_eq (e1 i hi hc) e
 ·
  by_cases hc : C i
  · exact sub i _ (k.fr.roT i c (by omega) (frm i hi hc _ e))
  · rw [← e1 i hi hc]; exact e
 refine (k.run m w args' hm (fun i a b => hf i (by omega) (by omega)) ha (hh.fewer sub)).mono ?_
 rintro e w' ⟨v', m', rfl, F, V, R⟩
 have old : ∀ i, (i < h.n ∨ h'.n ≤ i) → m' i = m i := fun i hi => F.old i (by rw [n0, n1]; exact hi)
 have hle : m.le m' := F.le fun i a b => hf i (by omega) (by omega)
 have keep : ∀ i l, i < h.n → ¬ C i → m i = some l → h.get i ≠ none → w'.heap[l.b]? = w.heap[l.b]? := fun i l hi hc a b => by
  refine F.keep l.b (hh.lt i l a) fun j k' hj cj lj mj e => ?_
  obtain rfl := hh.inj i j l k' a mj b (liv j lj) e.symm
  exact hc cj
 have cross : ∀ i j l k', i < h.n → ¬ C i → m i = some l → h.get i ≠ none → h.n ≤ j → j < h'.n → m' j = some k' → l.b = k'.b → False := fun i j l k' hi hc a b hj hj' mj e => by
  rcases F.new j k' (by omega) (by omega) mj with q | ⟨j₀, k₀, h1, c0, l0, m0, e0⟩
  · have := hh.lt i l a; omega
  ·
   obtain rfl := hh.inj i j₀ l k₀ a m0 b (liv j₀ l0) (by rw [e0]; exact e)
   exact hc c0
 have inN : ∀ i, h'.get i ≠ none → i < h'.n := fun i e => by
  cases q : h'.get i with
  | none => exact absurd q e
  | some o => exact AHeap.lt q
 refine ⟨v', m', rfl, ⟨old, fun i l a b c => ?_, fun b hb hk => ?_, F.size, F.os, F.tape, F.output⟩, V, ?_⟩
 ·
  rcases F.new i l (by omega) (by omega) c with q | ⟨j, k', h1, h2, h3, h4, h5⟩
  · exact .inl q
  · exact .inr ⟨j, k', by omega, h2, liv j h3, h4, h5⟩
 · exact F.keep b hb fun j k' hj cj lj mj => hk j k' (by omega) cj (liv j lj) mj
 ·
  refine ⟨R.lt, fun i l c t a b => ?_, fun i j l k' a b c d e => ?_, fun i l c a b => ?_, fun i l o _ a b => ?_⟩
  ·
   by_cases hi : i < h.n ∧ ¬ C i
   ·
    rw [old i (.inl hi.1)] at a
    rw [e1 i hi.1 hi.2] at b
    exact hh.typ i l c t a b
   ·
    refine R.typ i l c t a (e2 i _ ?_ b)
    by_cases hc : C i
    · exact .inl hc
    · exact .inr (Nat.le_of_not_lt fun q => hi ⟨q, hc⟩)
  ·
   have hi' := inN i c
   have hj' := inN j d.ne
   have cls : ∀ i, ¬ (i < h.n ∧ ¬ C i) → C i ∨ h.n ≤ i := fun i hi => by
    by_cases hc : C i
    · exact .inl hc
    · exact .inr (Nat.le_of_not_lt fun q => hi ⟨q, hc⟩)
   have up : ∀ i, ¬ (i < h.n ∧ ¬ C i) → h'.get i ≠ none → H'.get i ≠ none := fun i hi q => by
    cases ho : h'.get i with
    | none => exact absurd ho q
    | some o => rw [e2 i o (cls i hi) ho]; simp
   by_cases hi : i < h.n ∧ ¬ C i
   ·
    rw [old i (.inl hi.1)] at a
    rw [e1 i hi.1 hi.2] at c
    by_cases hj : j < h.n
    ·
     rw [old j (.inl hj)] at b
     refine hh.inj i j l k' a b c ?_ e
     by_cases cj : C j
     ·
      obtain ⟨o, x, y⟩ := d
      exact liv j (k.fr.live j (by omega) ⟨o, frm j hj cj o x, y⟩)
     · exact AHeap.live_eq (e1 j hj cj) d
    · exact (cross i j l k' hi.1 hi.2 a c (by omega) hj' b e).elim
   ·
    by_cases hj : j < h.n ∧ ¬ C j
    ·
     rw [old j (.inl hj.1)] at b
     have dj := AHeap.live_eq (e1 j hj.1 hj.2) d
     by_cases hi2 : i < h.n
     ·
      rw [old i (.inl hi2)] at a
      refine hh.inj i j l k' a b ?_ dj e
      have q := k.fr.alive i (by omega) (up i hi c)
      cases hq : H.get i with
      | none => exact absurd hq q
      | some o' => rw [sub i o' hq]; simp
     · exact (cross j i k' l hj.1 hj.2 b dj.ne (by omega) hi' a e.symm).elim
    ·
     refine R.inj i j l k' a b (up i hi c) ?_ e
     obtain ⟨o, x, y⟩ := d
     exact ⟨o, e2 j o (cls j hj) x, y⟩
  ·
   by_cases hi : i < h.n ∧ ¬ C i
   ·
    rw [old i (.inl hi.1)] at a
    rw [e1 i hi.1 hi.2] at b
    exact hh.roS i l c a b
   ·
    refine R.roS i l c a (e2 i _ ?_ b)
    by_cases hc : C i
    · exact .inl hc
    · exact .inr (Nat.le_of_not_lt fun q => hi ⟨q, hc⟩)
  ·
   by_cases hi : i < h.n ∧ ¬ C i
   ·
    rw [old i (.inl hi.1)] at a
    rw [e1 i hi.1 hi.2] at b
    obtain ⟨o', x, y⟩ := hh.obj i l o trivial a b
    exact ⟨o', by rw [keep i l hi.1 hi.2 a (by rw [b]; simp)]; exact x, y.mono hle⟩
   ·
    refine R.obj i l o trivial a (e2 i _ ?_ b)
    by_cases hc : C i
    · exact .inl hc
    · exact .inr (Nat.le_of_not_lt fun q => hi ⟨q, hc⟩)
end Go.Proofs.Ytccbmmnkiihkaaa
namespace Go.Proofs.Ytccbmmnkiihkaaa
def low (n : Nat) : Value → Bool
 | .pointer (some ⟨b, _, _⟩) => Nat.blt b n
 | .slice (some ⟨b, _, _⟩) _ _ => Nat.blt b n
 | .map (some r) => Nat.blt r n
 | v => flatB v
theorem VRel.cut {m : Mp} {n : Nat} {v v' : Value} (hl : low n v = true) (h : VRel m v v') : VRel (cutM m n) v v' := by
 have lt : ∀ {a b : Nat}, Nat.blt a b = true → a < b := fun h => by simpa [Nat.blt_eq] using h
 cases h with
 | ptr h => exact .ptr (by rw [cutM_lt (lt hl)]; exact h)
 | slice h hc => exact .slice (by rw [cutM_lt (lt hl)]; exact h) hc
 | slice0 i o a => exact .slice0 i o a
 | map h => exact .map (by rw [cutM_lt (lt hl)]; exact h)
 | pnil => exact .pnil
 | snil => exact .snil
 | mnil => exact .mnil
 | bool b => exact .bool b
 | int k n => exact .int k n
 | float k n => exact .float k n
 | complex k a b => exact .complex k a b
 | string s => exact .string s
 | nilFunc => exact .nilFunc
 | nilIface => exact .nilIface
 | func hf h1 h2 h3 h4 => simp [low, flatB, flat1, flat0] at hl
 | yield h => simp [low, flatB, flat1, flat0] at hl
 | iface t h =>
  have e := VRel.eq_of_flat (.iface t h) hl
  rw [e]; exact VRel.flat _ hl
 | agg h1 h3 =>
  have e := VRel.eq_of_flat (.agg h1 h3) hl
  rw [e]; exact VRel.flat _ hl
 | tuple h1 h3 =>
  have e := VRel.eq_of_flat (.tuple h1 h3) hl
  rw [e]; exact VRel.flat _ hl
def lowO (n : Nat) : AObj → Prop
 | .cells c _ => ∀ x ∈ c, low n x = true
 | .ro c => ∀ x ∈ c, low n x = true
 | .map es _ => ∀ e ∈ es.toList, low n e.key = true ∧ low n e.val = true
 | _ => False
theorem ORel.cut {P : Program} {m : Mp} {n : Nat} {l : Loc} {o : AObj} {o' : Obj} (hl : lowO n o) (h : ORel P m l o o') : ORel P (cutM m n) l o o' := by
 cases h with
 | cells hs hf hv => exact .cells hs hf fun i v e => let ⟨v', a, b⟩ := hv i v e; ⟨v', a, b.cut (hl v (List.mem_of_getElem? e))⟩
 | ro hs hv => exact .ro hs fun i v e => let ⟨v', a, b⟩ := hv i v e; ⟨v', a, b.cut (hl v (List.mem_of_getElem? e))⟩
 | map h => exact .map ⟨h.1, fun i e e' a b => by
   obtain ⟨x, y, z⟩ := h.2 i e e' a b
   have := hl e (by simpa using Array.mem_of_getElem? a)
   exact ⟨x.cut this.1, y.cut this.2, z⟩⟩
 | _ => exact hl.elim
theorem HRel.cut {P : Program} {m : Mp} {h : AHeap} {w : World} (hl : ∀ i o, h.get i = some o → lowO h.n o) (hh : HRel P m Ev h w) : HRel P (cutM m h.n) Ev h w := by
 have key : ∀ i l, cutM m h.n i = some l → m i = some l := fun i l e => by
  unfold cutM at e
  split at e
  · exact e
  · cases e
 exact {
     lt := fun i l e => hh.lt i l (key i l e)
     typ := fun i l c t e => hh.typ i l c t (key i l e)
     inj := fun i j l k e e' => hh.inj i j l k (key i l e) (key j k e')
     roS := fun i l c e => hh.roS i l c (key i l e)
     obj := fun i l o _ e g => by
      obtain ⟨o', a, b⟩ := hh.obj i l o trivial (key i l e) g
      exact ⟨o', a, b.cut (hl i o g)⟩ }
end Go.Proofs.Ytccbmmnkiihkaaa
namespace Go.Proofs.Ytccbmmnkiihkaaa
section
variable {P : Program} {h : AHeap} {o : Oper} {ov : Ov} {W : Nat → Prop} {q : Bool} {N : Nat} {ops : Array Oper} {os : List Oper} {k : List It} {df : List Nat} {Q : PQ} {d : Nat} {b₀ : Bool}
end
end Go.Proofs.Ytccbmmnkiihkaaa
namespace Go.Proofs.Ytccbmmnkiihkaaa
set_option maxRecDepth 100000
theorem backN_mem : ∀ {n : Nat} {l : List PV} {p f g : PV}, backN l p n f = some g → g = f ∨ g ∈ l
 | 0, l, p, f, g, h => by cases h
 | n + 1, l, p, f, g, h => by
  rw [backN_succ] at h
  split at h
  ·
   cases hq : pf l (prev32 f.t) with
   | none => rw [hq] at h; cases h
   | some q =>
    rw [hq] at h
    simp only at h
    split at h
    ·
     rcases backN_mem h with rfl | z
     · exact .inr (pf_mem hq).1
     · exact .inr z
    · cases h
  · cases h; exact .inl rfl
theorem putN_cases (l : List PV) (p : PV) : putN l p = (l, none) ∨ putN l p = (l ++ [p], none) ∨ ∃ n u f, backN (l ++ [p]) p (l.length + 1) p = some f ∧ putN l p = ((gat n u (l ++ [p]) []).2, some (f.sid, decide (¬ f.fl &&& 4 = 0), f.ppid, (gat n u (l ++ [p]) []).1)) := by
 unfold putN
 cases h1 : pf l p.t with
 | some q => exact .inl rfl
 | none =>
  dsimp only
  cases h2 : backN (l ++ [p]) p (l.length + 1) p with
  | none => exact .inr (.inl rfl)
  | some f =>
   dsimp only
   cases h3 : fwdN (l ++ [p]) p (l.length + 1) p with
   | none => exact .inr (.inl rfl)
   | some g => exact .inr (.inr ⟨_, _, f, rfl, rfl⟩)
theorem putN_bound {l : List PV} {p : PV} {sid ppid : Nat} {un : Bool} {D : List UInt8} (hl : ∀ q ∈ l, PB q) (hp : PB p) (h : (putN l p).2 = some (sid, un, ppid, D)) : sid < 65536 ∧ ppid < 4294967296 := by
 rcases putN_cases l p with e | e | ⟨n, u, f, hf, e⟩
 · rw [e] at h; cases h
 · rw [e] at h; cases h
 ·
  rw [e] at h
  cases h
  have : PB f := by
   rcases backN_mem hf with rfl | z
   · exact hp
   ·
    rcases List.mem_append.1 z with z | z
    · exact hl f z
    · rw [List.mem_singleton.1 z]; exact hp
  exact ⟨this.sid, this.ppid⟩
def msLen : Option MS → Nat
 | none => 0
 | some m => m.2.2.2.length
theorem putN_held (l : List PV) (p : PV) : heldN (putN l p).1 + msLen (putN l p).2 ≤ heldN l + p.z.length := by
 rcases putN_cases l p with e | e | ⟨n, u, f, hf, e⟩
 · rw [e]; exact Nat.le_add_right _ _
 · rw [e]; exact Nat.le_of_eq (held_snoc l p)
 ·
  rw [e]
  have := gat_held n u (l ++ [p]) []
  rw [held_snoc] at this
  generalize gat n u (l ++ [p]) [] = X at *
  show heldN X.2 + X.1.length ≤ _
  simp only [List.length_nil] at this
  omega
theorem gat_len : ∀ (n t : Nat) (l : List PV) (D : List UInt8), (gat n t l D).2.length ≤ l.length
 | 0, t, l, D => by rw [gat_zero]; exact pdel_len l t
 | n + 1, t, l, D => by rw [gat_succ]; exact Nat.le_trans (gat_len n _ _ _) (pdel_len l t)
where
 pdel_len : ∀ (l : List PV) (t : Nat), (pdel l t).length ≤ l.length
  | [], t => Nat.le_refl _
  | p :: l, t => by
   unfold pdel
   split
   · simp
   · have := pdel_len l t; simp; omega
theorem putN_len (l : List PV) (p : PV) : (putN l p).1.length ≤ l.length + 1 := by
 rcases putN_cases l p with e | e | ⟨n, u, f, hf, e⟩
 · rw [e]; exact Nat.le_succ _
 · rw [e, List.length_append]; exact Nat.le_refl _
 ·
  rw [e]
  have := gat_len n u (l ++ [p]) []
  rw [List.length_append] at this
  exact this
end Go.Proofs.Ytccbmmnkiihkaaa
namespace Go.Proofs.Ytccbmmnkiihkaaa
def loudRowPS (ops : Array Oper) (s : Nat) (w : List Nat) (i : Nat) : List (Option LE) → Nat → Prop
 | [], _ => True
 | e :: es, j => (j = s ∨ pairP ops w i j e) ∧ loudRowPS ops s w i es (j + 1)
def loudPS (ops : Array Oper) (s : Nat) (all : List (Option LE)) : List (Option LE) → Nat → Prop
 | [], _ => True
 | none :: es, i => loudPS ops s all es (i + 1)
 | some e :: es, i => ((∀ b ∈ e.wr, e.n ≤ b) ∨ loudRowPS ops s e.wr i all 0) ∧ loudPS ops s all es (i + 1)
def onlyW (b i0 : Nat) : List (Option LE) → Nat → Prop
 | [], _ => True
 | e :: es, i => (i = i0 ∨ match e with
  | none => True
  | some e => b ∉ e.wr) ∧ onlyW b i0 es (i + 1)
theorem MtL.get : ∀ {l : List (Nat × OR)} {xs : List (Option LE)} {k n : Nat} {r : OR}, MtL l xs → l[k]? = some (n, r) → ∃ x, xs[k]? = some x ∧ Mt1 n r x
 | [], [], k, n, r, _, e => by simp at e
 | (m, r') :: l, x :: xs, 0, n, r, h, e => by simp at e; obtain ⟨rfl, rfl⟩ := e; exact ⟨x, rfl, h.1⟩
 | (m, r') :: l, x :: xs, k + 1, n, r, h, e => by simpa using MtL.get (k := k) h.2 (by simpa using e)
 | [], _ :: _, _, _, _, h, _ => h.elim
 | _ :: _, [], _, _, _, h, _ => h.elim
theorem onlyW.at {b i0 : Nat} : ∀ {xs : List (Option LE)} {i k : Nat} {x : Option LE}, onlyW b i0 xs i → xs[k]? = some x → i + k = i0 ∨ match x with
  | none => True
  | some e => b ∉ e.wr
 | y :: xs, i, 0, x, h, e => by simp at e; subst e; exact h.1
 | y :: xs, i, k + 1, x, h, e => by
  have := onlyW.at (k := k) h.2 (by simpa using e)
  rwa [show i + 1 + k = i + (k + 1) by omega] at this
 | [], i, k, x, _, e => by simp at e
theorem loudRowPS.at {ops : Array Oper} {s : Nat} {w : List Nat} {i : Nat} : ∀ {xs : List (Option LE)} {j k : Nat} {x : Option LE}, loudRowPS ops s w i xs j → xs[k]? = some x → j + k = s ∨ pairP ops w i (j + k) x
 | y :: xs, j, 0, x, h, e => by simp at e; subst e; exact h.1
 | y :: xs, j, k + 1, x, h, e => by
  have := loudRowPS.at (k := k) h.2 (by simpa using e)
  rwa [show j + 1 + k = j + (k + 1) by omega] at this
 | [], j, k, x, _, e => by simp at e
theorem loudPS.at {ops : Array Oper} {s : Nat} {all : List (Option LE)} : ∀ {xs : List (Option LE)} {i k : Nat} {e : LE}, loudPS ops s all xs i → xs[k]? = some (some e) → (∀ b ∈ e.wr, e.n ≤ b) ∨ loudRowPS ops s e.wr (i + k) all 0
 | none :: xs, i, 0, e, h, h2 => by simp at h2
 | some y :: xs, i, 0, e, h, h2 => by simp at h2; subst h2; exact h.1
 | none :: xs, i, k + 1, e, h, h2 => by
  have := loudPS.at (xs := xs) (k := k) (i := i + 1) h (by simpa using h2)
  rwa [show i + 1 + k = i + (k + 1) by omega] at this
 | some y :: xs, i, k + 1, e, h, h2 => by
  have := loudPS.at (xs := xs) (k := k) (i := i + 1) h.2 (by simpa using h2)
  rwa [show i + 1 + k = i + (k + 1) by omega] at this
 | [], i, k, e, _, h2 => by simp at h2
section
variable {P : Program} {Wt : Nat → Prop} {ops : Array Oper}
end
section
variable {P : Program} {W : Nat → Prop} {q : Bool} {N : Nat} {k : List It} {ov : Ov} {df : List Nat} {h : AHeap} {Q : PQ} {id : Nat} {ops : Array Oper} {os : List Oper}
end
section
variable {ops : Array Oper} {all : List (Option LE)} {es : List (Option LE)} {e : LE} {i s : Nat}
theorem loudPS.nil : loudPS ops s all [] i := trivial
theorem loudPS.none (k : loudPS ops s all es (i + 1)) : loudPS ops s all (none :: es) i := k
theorem loudPS.new (hw : ∀ b ∈ e.wr, e.n ≤ b) (k : loudPS ops s all es (i + 1)) : loudPS ops s all (some e :: es) i := ⟨.inl hw, k⟩
theorem loudPS.row (hr : loudRowPS ops s e.wr i all 0) (k : loudPS ops s all es (i + 1)) : loudPS ops s all (some e :: es) i := ⟨.inr hr, k⟩
variable {w : List Nat} {j : Nat}
theorem loudRowPS.nil : loudRowPS ops s w i [] j := trivial
theorem loudRowPS.none (k : loudRowPS ops s w i es (j + 1)) : loudRowPS ops s w i (none :: es) j := ⟨.inr trivial, k⟩
theorem loudRowPS.soft {e : Option LE} (h : j = s) (k : loudRowPS ops s w i es (j + 1)) : loudRowPS ops s w i (e :: es) j := ⟨.inl h, k⟩
theorem loudRowPS.one {e : Option LE} (h : pairP ops w i j e) (k : loudRowPS ops s w i es (j + 1)) : loudRowPS ops s w i (e :: es) j := ⟨.inr h, k⟩
end
end Go.Proofs.Ytccbmmnkiihkaaa