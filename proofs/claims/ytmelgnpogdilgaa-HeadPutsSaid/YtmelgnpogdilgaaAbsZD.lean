/- The fast evaluator is sound: code and calls; closed calls. No conditions. -/
import Derived.Test.YtmelgnpogdilgaaAbsZC
import Derived.Below
namespace Go.Proofs.Ytmelgnpogdilgaa
set_option linter.unusedVariables false
open Go.RowKit
section
variable {A : Type} {a : A} {P : Program} {S : Summ} {E : CodeK A}
def SOk (P : Program) (S : Summ) : Prop := ∀ f args h v h' wr, S f args h = some (v, h', wr) → CallRun P (· ∈ wr) f args.toArray h v h'
theorem fResults_eq {h : AHeap} {ft : BT} {tm : List Value} (hr : Rep ft tm) : ∀ rs, fResults P h ft rs = aResults P h tm rs
  | [] => rfl
  | .tmp t :: rs => by simp only [fResults, aResults]; rw [fResults_eq hr rs, hr t]
  | .cell b t :: rs => by simp only [fResults, aResults]; rw [fResults_eq hr rs, hr b]; rfl
theorem fResult_eq {h : AHeap} {ft : BT} {tm : List Value} (hr : Rep ft tm) (rs : List ResultVar) : fResult P h ft rs = aResult P h tm rs := by
  unfold fResult aResult
  rw [fResults_eq hr rs]
  rfl
theorem callK_sound (hS : SOk P S) (hE : EKOk P E) : CKOk P (callK P S E) := fun f args h K a he => by
  have he : Option.rec (optK (P.funcs[f]?) fun fn => optK fn.body fun c => callBody P E fn c args h K) (fun r => forceV r.1 fun v => K v r.2.1 r.2.2) (S f args h) = some a := he
  cases hs : S f args h with
  | some r =>
    rw [hs] at he
    obtain ⟨v, h', wr⟩ := r
    have he : forceV v (fun v => K v h' wr) = some a := he
    rw [forceV_eq] at he
    exact ⟨v, h', wr, hS _ _ _ _ _ _ hs, he⟩
  | none =>
    rw [hs] at he
    obtain ⟨fn, hf, he⟩ := optK_inv he
    obtain ⟨c, hb, he⟩ := optK_inv he
    obtain ⟨ft, h1, he⟩ := ofLK_rep he (fn.ntmps - args.length)
    rw [forceNat_eq] at he
    obtain ⟨x, tm', ft', df', h₁, wr, g1, g2, g3, he⟩ := hE _ _ _ _ _ _ _ _ he (args ++ List.replicate (fn.ntmps - args.length) undef) (by simp) h1
    obtain ⟨hx, he⟩ := ifK_yes he
    rw [Bool.and_eq_true] at hx
    obtain ⟨h₂, ht, he⟩ := optK_inv he
    obtain ⟨v, hv, he⟩ := optK_inv he
    rw [forceV_eq] at he
    rw [fResult_eq g2] at hv
    have hx1 : x = .normal ∨ x = .ret := by
      have := hx.1
      cases x <;> simp [leftB] at this <;> simp
    have hdf : ∀ d ∈ df', h.n ≤ d := fun d hd => Nat.le_of_ble_eq_true (List.all_eq_true.1 hx.2 d hd)
    have run : Run P (fun i => i ∈ wr ∨ i ∈ df') false c ⟨args.toArray.toList ++ List.replicate (fn.ntmps - args.toArray.size) undef, [], h⟩ x ⟨tm', df', h₁⟩ := by
      have := g3.weak (W' := fun i => i ∈ wr ∨ i ∈ df') fun i hi => .inl hi
      simpa using this
    have cr := (CallRun.of_marks hf hb run hx1 ht (fun d hd => .inr hd) hv).old
    refine ⟨v, h₂, oldOf h.n wr, cr.weak fun i hi => ?_, he⟩
    rcases hi with ⟨hi | hi, hlt⟩
    · simp [oldOf, hi, hlt]
    · have := hdf i hi; omega
theorem LoopRun.weak {W W' : Nat → Prop} {q : Bool} {c : Code} {s s' : ASt} {x : Exit} (k : LoopRun P W q c s x s') (hw : ∀ i, W i → W' i) : LoopRun P W' q c s x s' := by
  induction k with
  | out h hx => exact .out (h.weak hw) hx
  | more h _ ih => exact .more (h.weak hw) ih
def ELOk (P : Program) (E : CodeK A) : Prop := ∀ q N c ft df h K a, E q N (.loop c) ft df h K = some a → ∀ tm : List Value, tm.length = N → Rep ft tm → ∃ x tm' ft' df' h' wr, tm'.length = N ∧ Rep ft' tm' ∧ LoopRun P (· ∈ wr) q c ⟨tm, df, h⟩ x ⟨tm', df', h'⟩ ∧ K x ft' df' h' wr = some a
theorem isNormal_no {x : Exit} (h : isNormal x = false) : x ≠ .normal := fun e => by subst e; cases h
theorem isNormal_yes {x : Exit} (h : isNormal x = true) : x = .normal := by cases x <;> first | rfl | cases h
theorem loop_sound (hE : EKOk P E) (hL : ELOk P E) (q : Bool) (N : Nat) (c : Code) (ft : BT) (df : List Nat) (h : AHeap) (K : KC A) (a : A) (he : cLoop c P S E q N ft df h K = some a) (tm : List Value) (hN : tm.length = N) (hr : Rep ft tm) :
    ∃ x tm' ft' df' h' wr, tm'.length = N ∧ Rep ft' tm' ∧ LoopRun P (· ∈ wr) q c ⟨tm, df, h⟩ x ⟨tm', df', h'⟩ ∧ K x ft' df' h' wr = some a := by
  obtain ⟨x, tm₁, ft₁, df₁, h₁, wr, g1, g2, g3, he⟩ := hE _ _ _ _ _ _ _ _ he tm hN hr
  rcases ifK_inv he with ⟨hx, he⟩ | ⟨hx, he⟩
  · obtain rfl := isNormal_yes hx
    obtain ⟨x₂, tm₂, ft₂, df₂, h₂, wr₂, k1, k2, k3, he⟩ := hL _ _ _ _ _ _ _ _ he tm₁ g1 g2
    exact ⟨x₂, tm₂, ft₂, df₂, h₂, _, k1, k2, .more (g3.weak fun i hi => by simp [show i ∈ wr from hi]) (k3.weak fun i hi => by simp [show i ∈ wr₂ from hi]), he⟩
  · exact ⟨x, tm₁, ft₁, df₁, h₁, wr, g1, g2, .out g3 (isNormal_no hx), he⟩
theorem range_sound (hS : SOk P S) (hE : EKOk P E) (q : Bool) (N : Nat) (g : Operand) (ps : Array Tmp) (asg bo : Code) (ft : BT) (df : List Nat) (h : AHeap) (K : KC A) (a : A) (he : cRange g ps asg bo P S E q N ft df h K = some a) (tm : List Value) (hN : tm.length = N) (hr : Rep ft tm) :
    ∃ x tm' ft' df' h' wr, tm'.length = N ∧ Rep ft' tm' ∧ Run P (· ∈ wr) q (.rangeFunc g ps asg bo) ⟨tm, df, h⟩ x ⟨tm', df', h'⟩ ∧ K x ft' df' h' wr = some a := by
  unfold cRange at he
  rw [evalF_eq hr] at he
  generalize hf : evalT tm g = v at he
  cases v with
  | func fn first cap =>
    cases fn with
    | func f =>
      rcases ifK_inv he with ⟨_, he⟩ | ⟨hq, he⟩
      · cases he
      · subst hq
        obtain ⟨hc, he⟩ := ifK_yes he
        obtain ⟨ho, he⟩ := ifK_yes he
        obtain ⟨fn, h1, h2, h3⟩ := calls_spec hc
        have etm : toL ft N 0 = tm := by rw [toL_eq hr N 0 (by rw [hN]; omega)]; rfl
        rw [forceL_eq, etm, hpushK_eq, hpushK_eq] at he
        obtain ⟨v, h₃, wr, cr, he⟩ := callK_sound hS hE _ _ _ _ _ he
        split at he
        · rename_i st pe tm' ps' as' bo' df' hl
          rw [hget_eq] at hl
          split at he
          · rename_i x hst hx
            rw [hputK_eq] at he
            have cr' := cr.weak (W' := fun i => i ∈ (h.n + 1) :: wr) fun i hi => by simp [show i ∈ wr from hi]
            have e : (first.toList ++ [Value.func (.yield (h.n + 1)) #[] #[]] ++ cap.toList).toArray = first ++ #[.func (.yield (h.n + 1)) #[] #[]] ++ cap := by
              apply Array.toList_inj.1
              simp
            rw [e] at cr'
            exact ⟨x, tm, ft, _, _, _, hN, hr, Run.rangeFunc (s := ⟨tm, df, h⟩) ho hf h1 h2 h3 cr' hl hst hx (by simp), he⟩
          · cases he
        · cases he
    | _ => cases he
  | _ => cases he
theorem fev_sound (hS : SOk P S) : ∀ n, EKOk P (fev (A := A) P S n) ∧ ELOk P (fev (A := A) P S n)
  | 0 => ⟨(fun q N c ft df h K a he => by cases he), (fun q N c ft df h K a he => by cases he)⟩
  | n + 1 => by
    obtain ⟨hE, hL⟩ := fev_sound hS n
    have loop := loop_sound (S := S) hE hL
    refine ⟨fun q N c ft df h K a he tm hN hr => ?_, fun q N c ft df h K a he tm hN hr => loop q N c ft df h K a he tm hN hr⟩
    cases c with
    | skip => exact ⟨.normal, tm, ft, df, h, [], hN, hr, .skip, he⟩
    | label l => exact ⟨.normal, tm, ft, df, h, [], hN, hr, .label l, he⟩
    | ret => exact ⟨.ret, tm, ft, df, h, [], hN, hr, .ret, he⟩
    | exit id => exact ⟨.exit id, tm, ft, df, h, [], hN, hr, .exit id, he⟩
    | region id ops draw => exact regionK_sound (callK_sound hS hE) hE he tm hN hr
    | seq c₁ c₂ =>
      have he : cSeq c₁ c₂ P S (fev P S n) q N ft df h K = some a := he
      obtain ⟨x, tm₁, ft₁, df₁, h₁, wr, g1, g2, g3, he⟩ := hE _ _ _ _ _ _ _ _ he tm hN hr
      rcases ifK_inv he with ⟨hx, he⟩ | ⟨hx, he⟩
      · obtain rfl := isNormal_yes hx
        obtain ⟨x₂, tm₂, ft₂, df₂, h₂, wr₂, k1, k2, k3, he⟩ := hE _ _ _ _ _ _ _ _ he tm₁ g1 g2
        exact ⟨x₂, tm₂, ft₂, df₂, h₂, _, k1, k2, .seq (g3.weak fun i hi => by simp [show i ∈ wr from hi]) (k3.weak fun i hi => by simp [show i ∈ wr₂ from hi]), he⟩
      · exact ⟨x, tm₁, ft₁, df₁, h₁, wr, g1, g2, .seq_out g3 (isNormal_no hx), he⟩
    | cond o c₁ c₂ =>
      have he : cCond o c₁ c₂ P S (fev P S n) q N ft df h K = some a := he
      unfold cCond at he
      rw [evalF_eq hr] at he
      obtain ⟨t, h1, he⟩ := boolK_inv he
      rcases ifK_inv he with ⟨rfl, he⟩ | ⟨rfl, he⟩
      · obtain ⟨x, tm₁, ft₁, df₁, h₁, wr, g1, g2, g3, he⟩ := hE _ _ _ _ _ _ _ _ he tm hN hr
        exact ⟨x, tm₁, ft₁, df₁, h₁, wr, g1, g2, .cond_true h1 g3, he⟩
      · obtain ⟨x, tm₁, ft₁, df₁, h₁, wr, g1, g2, g3, he⟩ := hE _ _ _ _ _ _ _ _ he tm hN hr
        exact ⟨x, tm₁, ft₁, df₁, h₁, wr, g1, g2, .cond_false h1 g3, he⟩
    | block id c =>
      have he : cBlock id c P S (fev P S n) q N ft df h K = some a := he
      obtain ⟨x, tm₁, ft₁, df₁, h₁, wr, g1, g2, g3, he⟩ := hE _ _ _ _ _ _ _ _ he tm hN hr
      exact ⟨_, tm₁, ft₁, df₁, h₁, wr, g1, g2, .block g3, he⟩
    | loop c =>
      obtain ⟨x, tm₁, ft₁, df₁, h₁, wr, g1, g2, g3, he⟩ := loop q N c ft df h K a he tm hN hr
      exact ⟨x, tm₁, ft₁, df₁, h₁, wr, g1, g2, .loop g3, he⟩
    | rangeFunc g ps asg bo => exact range_sound hS hE q N g ps asg bo ft df h K a he tm hN hr
    | scope c =>
      have he : cScope c P S (fev P S n) q N ft df h K = some a := he
      obtain ⟨x, tm₁, ft₁, df₁, h₁, wr, g1, g2, g3, he⟩ := hE _ _ _ _ _ _ _ _ he tm hN hr
      rcases ifK_inv he with ⟨_, he⟩ | ⟨hx, he⟩
      · cases he
      · exact ⟨x, tm₁, ft₁, df₁, h₁, wr, g1, g2, Run.scope g3 (fun l e => by subst e; cases hx), he⟩
    | goto l => cases he
    | refuse why => cases he
/-- What the kernel has run is so. -/
theorem callRun_of (hS : SOk P S) {n : Nat} {f : FuncId} {args : List Value} {h : AHeap} {K : Value → AHeap → List Nat → Option A} (he : callK P S (fev P S n) f args h K = some a) : ∃ v h' wr, CallRun P (· ∈ wr) f args.toArray h v h' ∧ K v h' wr = some a :=
  callK_sound hS (fev_sound hS n).1 _ _ _ _ _ he
end
def noS : Summ := fun _ _ _ => none
theorem noS_ok (P : Program) : SOk P noS := fun _ _ _ _ _ _ e => by cases e
def emptyH : AHeap := ⟨0, .nil⟩
theorem hrel_empty (P : Program) (D : Nat → Prop) (w : World) : HRel P (fun _ => none) D emptyH w :=
  ⟨(fun i l e => by cases e), (fun i l c t e => by cases e), (fun i j l k e => by cases e), (fun i l c e => by cases e), (fun i l o _ e => by cases e)⟩
/-- A call without memory, at every world. -/
theorem calls_of {P : Program} {W : Nat → Prop} {f : FuncId} {args : Array Value} {v : Value} {h' : AHeap} (hg : P.globals.size = 0) (hc : CallRun P W f args emptyH v h') (ha : ∀ v ∈ args, flatB v = true) (hv : flatB v = true) (w : World) : Calls P f args w fun e w' => e = .returned v ∧ Below w.heap.size w w' := by
  have hr := hc.run (fun _ => none) w args (fun g hlt => by omega) (fun i _ _ => rfl) ⟨rfl, fun i u u' e e' => by rw [e] at e'; cases e'; exact VRel.flat _ (ha u (Array.mem_of_getElem? e))⟩ (hrel_empty P Ev w)
  refine (callsIn_wide.1 hr).mono ?_
  rintro e w' ⟨v', m', rfl, hF, hV, _⟩
  refine ⟨by rw [VRel.eq_of_flat hV hv], ?_⟩
  exact ⟨hF.os, hF.tape, hF.output, hF.size, fun b hb => hF.keep b hb fun j k hj => absurd hj (Nat.not_lt_zero j)⟩
end Go.Proofs.Ytmelgnpogdilgaa
