/- Ranges over functions, rounds, functions that are left, on related memories. No conditions. -/
import Derived.Test.YtmelgnpogdilgaaAbsR
import Derived.RangeFuncLeaves
namespace Go.Proofs.Ytmelgnpogdilgaa
set_option linter.unusedVariables false
section
variable {P : Program} {D W : Nat → Prop} {tm : List Value} {h : AHeap}
/-! ### The statement -/
def jumpOf : Exit → Option (Option Code)
  | .normal => some none
  | .ret => some (some .ret)
  | .exit id => some (some (.exit id))
  | _ => none
def exitOf : Option Code → Option Exit
  | none => some .normal
  | some .ret => some .ret
  | some (.exit id) => some (.exit id)
  | some _ => none
theorem upd_new {m : Mp} {i : Nat} {l : Loc} {h h' : AHeap} (hf : ∀ j, h.n ≤ j → j < h'.n → m j = none) (hi : i < h.n) : Fresh (upd m i l) h h' := fun j a b => by
  rw [upd_ne m l (by omega)]; exact hf j a b
/-- 'for .. := range g { .. }' -/
theorem Run.rangeFunc {g : Operand} {ps : Array Tmp} {assign body : Code} {s : ASt} {f : FuncId} {fn : Func} {first cap : Array Value} {v : Value} {h₂ : AHeap} {st : LoopState} {pe : Option Code} {tm' : List Value} {ps' : Array Tmp} {as' bo' : Code} {df' : Nat} {x : Exit}
    (hk : okOpd P g = true) (hg : evalT s.tm g = .func (.func f) first cap) (hfn : P.funcs[f]? = some fn) (hn : (fn.name == "runtime.NumGoroutine") = false) (hb : fn.body.isSome = true)
    (hc : CallRun P W f (first ++ #[.func (.yield (s.h.n + 1)) #[] #[]] ++ cap) ((s.h.push (.deferred true)).push (.loop .ready none s.tm ps assign body s.h.n)) v h₂)
    (hl : h₂.get (s.h.n + 1) = some (.loop st pe tm' ps' as' bo' df')) (hst : (st == .busy) = false) (hx : exitOf pe = some x) (hW : W (s.h.n + 1)) :
    Run P W false (.rangeFunc g ps assign body) s x ⟨s.tm, s.h.n :: s.df, h₂.put (s.h.n + 1) (some (.loop .exhausted pe tm' ps' as' bo' df'))⟩ := by
  have a1 : AFr W s.h (s.h.push (.deferred true)) := .push _ _ _
  have a2 : AFr W (s.h.push (.deferred true)) ((s.h.push (.deferred true)).push (.loop .ready none s.tm ps assign body s.h.n)) := .push _ _ _
  have a3 : AFr W h₂ (h₂.put (s.h.n + 1) (some (.loop .exhausted pe tm' ps' as' bo' df'))) := .putOther _ hW hl rfl
  refine ⟨a1.trans (a2.trans (hc.fr.trans a3)), fun m w A r hq hm hf hs => ?_⟩
  obtain rfl := hq rfl
  have n2 := hc.fr.n
  simp only [AHeap.n_push] at n2
  refine wpIn_rangeFunc fun fn' _ => ?_
  let ld : Loc := ⟨w.heap.size, 0, 0, 0, 0⟩
  let ll : Loc := ⟨w.heap.size + 1, 0, 0, 0, 0⟩
  let L : Loop := { state := .ready, pending := none, fn := fn', tmps := A.tmps, params := ps, assign := assign, body := body, defers := w.heap.size }
  let w₁ : World := (w.alloc (.deferred (some []))).alloc (.loop L)
  have f0 : m s.h.n = none := hf _ (Nat.le_refl _) (by simp; omega)
  have H1 : HRel P (upd m s.h.n ld) Ev (s.h.push (.deferred true)) (w.alloc (.deferred (some []))) := hs.h.alloc f0 rfl (fun c t e => by cases e) (.deferred true)
  have f1 : upd m s.h.n ld (s.h.n + 1) = none := by rw [upd_ne m ld (by omega)]; exact hf _ (by omega) (by simp; omega)
  have le1 : m.le (upd m s.h.n ld) := upd_le f0
  have le2 : (upd m s.h.n ld).le (upd (upd m s.h.n ld) (s.h.n + 1) ll) := upd_le f1
  have H2 : HRel P (upd (upd m s.h.n ld) (s.h.n + 1) ll) Ev ((s.h.push (.deferred true)).push (.loop .ready none s.tm ps assign body s.h.n)) w₁ := by
    refine H1.alloc f1 (by rw [alloc_size]) (fun c t e => by cases e) ?_
    exact ORel.loop (ld := ld) (hs.tm.mono (le1.trans le2)) (by show upd (upd m s.h.n ld) (s.h.n + 1) ll s.h.n = some ld; rw [upd_ne _ _ (by omega), upd_same])
  have hgv : VRel m (evalT s.tm g) (A.eval g) := opd_rel hm hk fun t _ => by simpa using hs.tm.getD t
  rw [hg] at hgv
  generalize hy : A.eval g = y at hgv
  cases hgv with
  | @func _ a b a' b' hfn' e1 e2 e3 e4 =>
    have hb' : ¬ fn.body = none := by intro e; rw [e] at hb; cases hb
    have hn' : ¬ fn.name = "runtime.NumGoroutine" := by simpa using hn
    let d : Deferred := { target := .fn (.func f) b', args := a' ++ #[.func (.yield (w.heap.size + 1)) #[] #[]] }
    refine ⟨w.heap.size + 1, [{ target := .collected w.heap.size, args := #[] }], w₁, d, w₁, f, a' ++ #[.func (.yield (w.heap.size + 1)) #[] #[]] ++ b', w₁, ?_, ?_, fun _ _ => trivial, ?_, fun hd => by simp [WF] at hd, trivial, fun cs hr => ?_⟩
    · have e9 : w₁ = { w with heap := (w.heap.push (.deferred (some []))).push (.loop L) } := rfl
      simp [Instr.enterLoop, WF, newObj, Sem.run, e9, L]
      rfl
    · have e8 : ∀ v, A.eval (.const v) = v := fun _ => rfl
      simp [resolve, rangeCall, hy, Deferred.ofValue, d, e8]
    · simp [d, invoke, callFunc, hfn, hn', hb']
    · have hy2 : VRel (upd (upd m s.h.n ld) (s.h.n + 1) ll) (.func (.yield (s.h.n + 1)) #[] #[]) (.func (.yield (w.heap.size + 1)) #[] #[]) := .yield (l := ll) (upd_same _ _ _)
      have hargs : ARel (upd (upd m s.h.n ld) (s.h.n + 1) ll) (first ++ #[.func (.yield (s.h.n + 1)) #[] #[]] ++ cap) (a' ++ #[.func (.yield (w.heap.size + 1)) #[] #[]] ++ b') :=
        (ARel.append (ARel.mono (le1.trans le2) (show ARel m first a' from ⟨e1, e3⟩)) ((ARel.empty _).push hy2)).append (ARel.mono (le1.trans le2) (show ARel m cap b' from ⟨e2, e4⟩))
      have hf2 : Fresh (upd (upd m s.h.n ld) (s.h.n + 1) ll) ((s.h.push (.deferred true)).push (.loop .ready none s.tm ps assign body s.h.n)) h₂ := fun i h1 h2 => by
        simp only [AHeap.n_push] at h1
        rw [upd_ne _ _ (by omega), upd_ne _ _ (by omega)]
        exact hf i (by omega) (by simpa using h2)
      obtain ⟨e, w₃, fr, ⟨v', m₂, he, hF, hV, hH⟩, hsteps, hfnn, hlv⟩ := (hc.run _ w₁ _ (hm.mono (le1.trans le2)) hf2 hargs H2).2 cs (room_wide _)
      subst he
      refine ⟨.returned v', w₃, fr, ?_, hsteps, hfnn, hlv⟩
      have ml : m₂ (s.h.n + 1) = some ll := by rw [hF.old _ (.inl (by simp))]; exact upd_same _ _ _
      have md : m₂ s.h.n = some ld := by rw [hF.old _ (.inl (by simp; omega)), upd_ne _ _ (by omega)]; exact upd_same _ _ _
      obtain ⟨o', b1, b2⟩ := hH.obj _ _ _ trivial ml hl
      cases b2 with
      | @loop _ _ _ tmR _ _ _ _ fnR ldR htm hdf =>
        have hst' : ¬ (st == LoopState.busy) = true := by rw [hst]; simp
        let L' : Loop := { state := .exhausted, pending := pe, fn := fnR, tmps := tmR, params := ps', assign := as', body := bo', defers := ldR.b }
        let w₄ : World := { w₃ with heap := w₃.heap.setIfInBounds ll.b (.loop L') }
        have hend : (Instr.endLoop (w.heap.size + 1)).run P w₃ = .ok pe w₄ := by
          have b1' : w₃.heap[w.heap.size + 1]? = some (.loop { state := st, pending := pe, fn := fnR, tmps := tmR, params := ps', assign := as', body := bo', defers := ldR.b }) := b1
          simp only [Instr.endLoop, Instr.getLoop, getObj, Sem.run_bind, Sem.run, b1', Result.andThen_ok, Sem.run_pure, if_neg hst']
          simp [setObj, Sem.run, b1', w₄, L', ll]
        have H4 : HRel P m₂ Ev (h₂.put (s.h.n + 1) (some (.loop .exhausted pe tm' ps' as' bo' df'))) w₄ := hH.putOther ml hl rfl (.loop htm hdf)
        have F4 : Fr m₂ m₂ W h₂ (h₂.put (s.h.n + 1) (some (.loop .exhausted pe tm' ps' as' bo' df'))) w₃ w₄ := Fr.putOther hW ml hl _ _
        have F1 : Fr m (upd m s.h.n ld) W s.h (s.h.push (.deferred true)) w (w.alloc (.deferred (some []))) := Fr.alloc m W s.h _ w _ ld rfl
        have F2 : Fr (upd m s.h.n ld) (upd (upd m s.h.n ld) (s.h.n + 1) ll) W (s.h.push (.deferred true)) ((s.h.push (.deferred true)).push (.loop .ready none s.tm ps assign body s.h.n)) (w.alloc (.deferred (some []))) w₁ := Fr.alloc (upd m s.h.n ld) W (s.h.push (.deferred true)) (.loop .ready none s.tm ps assign body s.h.n) (w.alloc (.deferred (some []))) (.loop L) ll (by rw [alloc_size])
        have FF := Fr.trans a1 (a2.trans (hc.fr.trans a3)).n F1 (Fr.trans a2 (hc.fr.trans a3).n F2 (Fr.trans hc.fr a3.n hF F4))
        have le3 := hF.le hf2
        have post : Post P m W s x ⟨s.tm, s.h.n :: s.df, h₂.put (s.h.n + 1) (some (.loop .exhausted pe tm' ps' as' bo' df'))⟩ w x { A with defers := [{ target := .collected w.heap.size, args := #[] }] ++ A.defers } w₄ := by
          refine ⟨rfl, m₂, FF, ⟨hs.tm.mono ((le1.trans le2).trans le3), ?_, H4⟩⟩
          have hd := hs.df.mono ((le1.trans le2).trans le3)
          refine ⟨by simp [hd.1], fun i j dd q1 q2 => ?_⟩
          cases i with
          | zero => simp at q1 q2; subst q1; subst q2; exact ⟨ld, md, rfl⟩
          | succ i => simp at q1 q2; exact hd.2 i j dd q1 q2
        refine ⟨pe, w₄, hend, ?_⟩
        unfold exitOf at hx
        split at hx
        · cases hx; exact post
        · cases hx; exact wpIn_ret post
        · cases hx; exact wpIn_exit post
        · cases hx
/-! ### A round -/
def setPs (tm : List Value) (ps : List Tmp) (args : List Value) : List Value := (ps.zip args).foldl (fun t p => t.set p.1 p.2) tm
theorem setPs_rel {m : Mp} : ∀ (ps : List Tmp) (args args' : List Value) (tm : List Value) (tm' : Array Value), ARel m tm.toArray tm' → ARel m args.toArray args'.toArray → ARel m (setPs tm ps args).toArray ((ps.zip args').foldl (fun t (p : Tmp × Value) => t.setIfInBounds p.1 p.2) tm')
  | [], _, _, tm, tm', h, _ => h
  | p :: ps, [], [], tm, tm', h, _ => h
  | p :: ps, [], b :: bs, tm, tm', h, ha => by have := ha.1; simp at this
  | p :: ps, a :: as, [], tm, tm', h, ha => by have := ha.1; simp at this
  | p :: ps, a :: as, b :: bs, tm, tm', h, ha => by
    have hab : VRel m a b := ha.2 0 a b (by simp) (by simp)
    have hrest : ARel m as.toArray bs.toArray := ⟨by have := ha.1; simpa using this, fun i u v q1 q2 => ha.2 (i + 1) u v (by simpa using q1) (by simpa using q2)⟩
    have := setPs_rel ps as bs (tm.set p a) (tm'.setIfInBounds p b) (by simpa using h.set p hab) hrest
    simpa [setPs] using this
theorem OpRun.yield {o : Oper} {f : Operand} {xs : Array Operand} {ts : Array TypeId} {l : Nat} {pe pe' pe₂ : Option Code} {tmL tmL' tm₂ : List Value} {ps ps' ps₂ : Array Tmp} {as as' as₂ bo bo' bo₂ : Code} {df df' df₂ : Nat} {st₂ : LoopState} {s₁ s₂ : ASt} {x : Exit} {jump : Option Code}
    (ho : o.op = .call { callee := .value f, args := xs, argTypes := ts }) (hf : evalT tm f = .func (.yield l) #[] #[]) (hl : h.get l = some (.loop .ready pe tmL ps as bo df)) (hsz : xs.size = ps.size)
    (ha : Run P W true as ⟨setPs tmL ps.toList (xs.toList.map (evalT tm)), [], h⟩ .normal s₁) (hl₁ : s₁.h.get l = some (.loop .ready pe' tmL' ps' as' bo' df'))
    (hb : Run P W true bo ⟨s₁.tm, s₁.df, s₁.h.put l (some (.loop .busy pe' tmL' ps' as' bo' df'))⟩ x s₂) (hl₂ : s₂.h.get l = some (.loop st₂ pe₂ tm₂ ps₂ as₂ bo₂ df₂)) (hj : jumpOf x = some jump) (hW : W l) :
    OpRun P Ev W o tm h (.bool jump.isNone) (s₂.h.put l (some (.loop (if jump.isNone then .ready else .done) jump tm₂ ps₂ as₂ bo₂ df₂))) := by
  have a1 : AFr W s₁.h (s₁.h.put l (some (.loop .busy pe' tmL' ps' as' bo' df'))) := .putOther _ hW hl₁ rfl
  have a2 : AFr W s₂.h (s₂.h.put l (some (.loop (if jump.isNone then .ready else .done) jump tm₂ ps₂ as₂ bo₂ df₂))) := .putOther _ hW hl₂ rfl
  have afr := ha.fr.trans (a1.trans (hb.fr.trans a2))
  refine ⟨afr, fun m w A r hm hfr hx H K Q hK => ?_⟩
  have hfv := hx f (by simp [ho, Op.operands, Call.operands])
  rw [hf] at hfv
  have hxs := ARel.of_map (m := m) xs (evalT tm) A.eval fun x hxx => hx x (by simp [ho, Op.operands, Call.operands, hxx])
  generalize hy : A.eval f = y at hfv
  cases hfv with
  | func hfn => exact absurd rfl (hfn l)
  | @yield _ ll hll =>
    obtain ⟨o', b1, b2⟩ := H.obj _ _ _ trivial hll hl
    cases b2 with
    | @loop _ _ _ tmR _ _ _ _ fnR ldR htm hdf =>
      have hrun : (execOp A.eval o).run P w = .ok (.round ll.b fnR ((ps.zip (xs.map A.eval)).foldl (fun tmps (t, a) => tmps.setIfInBounds t a) tmR) as bo) w := by
        simp [execOp, ho, resolve, hy, Deferred.ofValue, invoke, Instr.yield, Instr.getLoop, getObj, Sem.run, b1, hsz]
      refine ⟨fun _ _ => trivial, ?_⟩
      rw [Oper.semAt_eq _ _ _ (by simp [ho]), hrun]
      refine ⟨fun hd => by simp [WF] at hd, ?_⟩
      have htm' : ARel m (setPs tmL ps.toList (xs.toList.map (evalT tm))).toArray ((ps.zip (xs.map A.eval)).foldl (fun tmps (p : Tmp × Value) => tmps.setIfInBounds p.1 p.2) tmR) := by
        have hxs' : ARel m (xs.toList.map (evalT tm)).toArray (xs.map A.eval).toList.toArray := by
          have e : (xs.toList.map (evalT tm)).toArray = xs.map (evalT tm) := by apply Array.toList_inj.1; simp
          rw [e, Array.toArray_toList]; exact hxs
        have := setPs_rel ps.toList (xs.toList.map (evalT tm)) (xs.map A.eval).toList tmL tmR htm hxs'
        rw [← Array.foldl_toList]
        simpa using this
      have n1 := ha.fr.n
      have n3 := hb.fr.n
      simp only [AHeap.n_put] at n3
      have hf1 : Fresh m h s₁.h := hfr.left (by simpa using n3)
      refine roundIn_of_wpIn (F := WF r) trivial (wpIn_mono (ha.run m w ⟨_, []⟩ (some ll.b) (fun e => by cases e) hm hf1 ⟨htm', ⟨rfl, fun i j d e => by simp at e⟩, H⟩) ?_)
      rintro e A₁ w₁ ⟨rfl, m₁, f1, hs1⟩
      have m1l : m₁ l = some ll := by rw [f1.old _ (.inl (AHeap.lt hl))]; exact hll
      obtain ⟨o1, c1, c2⟩ := hs1.h.obj _ _ _ trivial m1l hl₁
      cases c2 with
      | @loop _ _ _ tmR1 _ _ _ _ fnR1 ldR1 htm1 hdf1 =>
        let w₂ : World := { w₁ with heap := w₁.heap.setIfInBounds ll.b (.loop { state := .busy, pending := pe', fn := fnR1, tmps := tmR1, params := ps', assign := as', body := bo', defers := ldR1.b }) }
        have hbeg : (Instr.beginRound ll.b).run P w₁ = .ok () w₂ := by
          simp [Instr.beginRound, Instr.getLoop, getObj, setObj, Sem.run, c1, w₂]
        have H2 : HRel P m₁ Ev (s₁.h.put l (some (.loop .busy pe' tmL' ps' as' bo' df'))) w₂ := hs1.h.putOther m1l hl₁ rfl (.loop htm1 hdf1)
        have F2 : Fr m₁ m₁ W s₁.h (s₁.h.put l (some (.loop .busy pe' tmL' ps' as' bo' df'))) w₁ w₂ := Fr.putOther hW m1l hl₁ _ _
        have le1 := f1.le hf1
        have hf2 : Fresh m₁ (s₁.h.put l (some (.loop .busy pe' tmL' ps' as' bo' df'))) s₂.h := by
          have := Fresh.right (h₂ := s₂.h) n1 hfr f1
          exact this
        refine ⟨w₂, hbeg, wpIn_mono (hb.run m₁ w₂ A₁ (some ll.b) (fun e => by cases e) (hm.mono le1) hf2 ⟨hs1.tm, hs1.df, H2⟩) ?_⟩
        rintro e A₂ w₃ ⟨he, m₂, f3, hs2⟩
        have m2l : m₂ l = some ll := by rw [f3.old _ (.inl (by simpa using AHeap.lt hl₁))]; exact m1l
        obtain ⟨o2, d1, d2⟩ := hs2.h.obj _ _ _ trivial m2l hl₂
        cases d2 with
        | @loop _ _ _ tmR2 _ _ _ _ fnR2 ldR2 htm2 hdf2 =>
          let w₄ : World := { w₃ with heap := w₃.heap.setIfInBounds ll.b (.loop { state := if jump.isNone then .ready else .done, pending := jump, fn := fnR2, tmps := tmR2, params := ps₂, assign := as₂, body := bo₂, defers := ldR2.b }) }
          have hend : (Instr.endRound ll.b jump).run P w₃ = .ok (.bool jump.isNone) w₄ := by
            simp [Instr.endRound, Instr.getLoop, getObj, setObj, Sem.run, d1, w₄]
          have H4 : HRel P m₂ Ev (s₂.h.put l (some (.loop (if jump.isNone then .ready else .done) jump tm₂ ps₂ as₂ bo₂ df₂))) w₄ := hs2.h.putOther m2l hl₂ rfl (.loop htm2 hdf2)
          have F4 : Fr m₂ m₂ W s₂.h (s₂.h.put l (some (.loop (if jump.isNone then .ready else .done) jump tm₂ ps₂ as₂ bo₂ df₂))) w₃ w₄ := Fr.putOther hW m2l hl₂ _ _
          have FF := Fr.trans ha.fr (a1.trans (hb.fr.trans a2)).n f1 (Fr.trans a1 (hb.fr.trans a2).n F2 (Fr.trans hb.fr a2.n f3 F4))
          have hKK := hK (.bool jump.isNone) w₄ m₂ FF (.bool _) H4
          have he' : e = x := he
          subst he'
          unfold jumpOf at hj
          split at hj
          · cases hj; exact ⟨_, w₄, hend, hKK⟩
          · cases hj; exact ⟨_, w₄, hend, hKK⟩
          · cases hj; exact ⟨_, w₄, hend, hKK⟩
          · cases hj
/-! ### Functions that are left with marks -/
def takeAll : AHeap → List Nat → Option AHeap
  | h, [] => some h
  | h, d :: ds => match h.get d with
    | some (.deferred true) => takeAll (h.put d (some (.deferred false))) ds
    | _ => none
theorem takeAll_fr : ∀ (df : List Nat) (h h' : AHeap), takeAll h df = some h' → (∀ d ∈ df, W d) → AFr W h h'
  | [], h, h', he, _ => by simp [takeAll] at he; subst he; exact .refl _ _
  | d :: ds, h, h', he, hw => by
    unfold takeAll at he
    split at he
    · rename_i hg
      exact (AFr.putOther h (hw d (by simp)) hg rfl).trans (takeAll_fr ds _ h' he fun x hx => hw x (by simp [hx]))
    · cases he
theorem takeAll_n {df : List Nat} : ∀ {h h' : AHeap}, takeAll h df = some h' → h'.n = h.n := by
  induction df with
  | nil => intro h h' he; simp [takeAll] at he; subst he; rfl
  | cons d ds ih =>
    intro h h' he
    unfold takeAll at he
    split at he
    · rw [ih he]; rfl
    · cases he
theorem leaves {fn : Func} {tmps : Array Value} {R : Ending → World → Prop} {m : Mp} : ∀ (df : List Nat) (ds : List Deferred) (h h' : AHeap) (w : World), DRel m df ds → HRel P m Ev h w → takeAll h df = some h' → (∀ d ∈ df, W d) →
    (∀ w', HRel P m Ev h' w' → Fr m m W h h' w w' → ∃ v, (results fn tmps).run P w' = .ok v w' ∧ R (.returned v) w') → LeavesInM Fence.wide 0 P fn tmps R ds .returning w
  | [], ds, h, h', w, hd, H, ht, hw, hk => by
    obtain rfl : ds = [] := by have := hd.1; simp at this; exact List.eq_nil_of_length_eq_zero this.symm
    simp [takeAll] at ht
    subst ht
    exact hk w H (.refl _ _ _ _)
  | d :: df, ds, h, h', w, hd, H, ht, hw, hk => by
    cases ds with
    | nil => have := hd.1; simp at this
    | cons dd ds =>
      obtain ⟨l, ml, rfl⟩ := hd.2 0 d dd (by simp) (by simp)
      have hd' : DRel m df ds := ⟨by have := hd.1; simpa using this, fun i j x q1 q2 => hd.2 (i + 1) j x (by simpa using q1) (by simpa using q2)⟩
      unfold takeAll at ht
      split at ht
      · rename_i hg
        obtain ⟨o', b1, b2⟩ := H.obj _ _ _ trivial ml hg
        cases b2 with
        | deferred =>
          have a1 : AFr W h (h.put d (some (.deferred false))) := .putOther _ (hw d (by simp)) hg rfl
          let w' : World := { w with heap := w.heap.setIfInBounds l.b (.deferred none) }
          have htake : (Instr.takeDeferred l.b).run P w = .ok [] w' := by
            simp only [if_true] at b1
            simp [Instr.takeDeferred, getObj, setObj, Sem.run, b1, w']
          have H' : HRel P m Ev (h.put d (some (.deferred false))) w' := H.putOther ml hg rfl (.deferred false)
          have F' : Fr m m W h (h.put d (some (.deferred false))) w w' := Fr.putOther (hw d (by simp)) ml hg _ _
          refine ⟨by simp, .inl ⟨l.b, w', rfl, htake, leaves df ds _ h' w' hd' H' ht (fun x hx => hw x (by simp [hx])) fun w'' H'' F'' => hk w'' H'' ?_⟩⟩
          exact Fr.trans a1 (by rw [takeAll_n ht]; exact Nat.le_refl _) F' F''
      · cases ht
theorem CallRun.of_marks {f : FuncId} {fn : Func} {c : Code} {args : Array Value} {x : Exit} {s' : ASt} {v : Value} {h' : AHeap} (hf : P.funcs[f]? = some fn) (hb : fn.body = some c)
    (hr : Run P W false c ⟨args.toList ++ List.replicate (fn.ntmps - args.size) undef, [], h⟩ x s') (hx : x = .normal ∨ x = .ret) (hd : takeAll s'.h s'.df = some h') (hW : ∀ d ∈ s'.df, W d) (hv : aResult P h' s'.tm fn.results.toList = some v) : CallRun P W f args h v h' := by
  have hta := takeAll_fr s'.df s'.h h' hd hW
  refine ⟨hr.fr.trans hta, fun m w args' hm hfr ha hh => callsIn_of_wp_marks (F := Fence.wide) hf hb trivial ?_⟩
  have hargs : ARel m (args.toList ++ List.replicate (fn.ntmps - args.size) undef).toArray (args' ++ Array.replicate (fn.ntmps - args'.size) undef) := by
    have e : (args.toList ++ List.replicate (fn.ntmps - args.size) undef).toArray = args ++ Array.replicate (fn.ntmps - args'.size) undef := by
      rw [← ha.1]
      apply Array.toList_inj.1
      simp
    rw [e]
    refine ha.append ⟨rfl, fun i u u' e e' => ?_⟩
    rw [e] at e'; cases e'
    have := Array.mem_of_getElem? e
    rw [Array.mem_replicate] at this
    rw [this.2]
    exact .tuple rfl fun i v v' e => by simp at e
  have nn := takeAll_n hd
  have hfr1 : Fresh m h s'.h := fun i a b => hfr i a (by omega)
  refine wpIn_mono (hr.run m w ⟨_, []⟩ none (fun _ => rfl) hm hfr1 ⟨hargs, ⟨rfl, fun i j d e => by simp at e⟩, hh⟩) ?_
  rintro e A' w' ⟨he, m', hF, hs⟩
  subst he
  have main : LeavesInM Fence.wide 0 P fn A'.tmps (fun e w' => ∃ v' m', e = .returned v' ∧ Fr m m' W h h' w w' ∧ VRel m' v v' ∧ HRel P m' Ev h' w') A'.defers .returning w' := by
    refine leaves s'.df A'.defers s'.h h' w' hs.df hs.h hd hW fun w'' H'' F'' => ?_
    obtain ⟨v', h1, h2⟩ := aResult_run hs.tm H'' hv
    exact ⟨v', h1, v', m', rfl, Fr.trans hr.fr hta.n hF F'', h2, H''⟩
  rcases hx with rfl | rfl
  · exact main
  · exact main
end
end Go.Proofs.Ytmelgnpogdilgaa
