/- Regions, calls and bodies in the judgement. No conditions. -/
import Derived.Test.YtmelgnpogdilgaaAbsL
namespace Go.Proofs.Ytmelgnpogdilgaa
set_option linter.unusedVariables false
section
variable {P : Program} {ops : Array Oper} {T : Nat → List Value} {H : Nat → AHeap} {V : Nat → Value} {D W : Nat → Nat → Prop} {L : Nat → Prop} {Wt : Nat → Prop} {m₀ m : Mp} {w₀ w : World} {ds : List Deferred} {listed : Array Bool} {A : Act}
theorem Inv.all (t : Trace P ops T H V D W L) (I : Inv P ops T H W L Wt m₀ w₀ ds listed m A w) (hr : Region.ready .any ops listed = []) : ∀ i, i < ops.size → lst listed i := by
  intro i
  induction i using Nat.strongRecOn with
  | _ i ih =>
    intro hi
    apply Classical.byContradiction
    intro hn
    have : i ∈ Region.ready .any ops listed := by
      rw [mem_ready]
      refine ⟨?_, ops[i], by simp [hi], fun e he hb => ?_⟩
      · have hl : i < listed.size := by rw [I.sz]; exact hi
        unfold lst at hn
        simp [hl] at hn ⊢
        exact hn
      · have := t.edge i ops[i] e (by simp [hi]) he hb
        exact ih e.on this (by omega)
    rw [hr] at this
    cases this
def Ends (P : Program) (T : Nat → List Value) (H : Nat → AHeap) (n : Nat) (Wt : Nat → Prop) (m₀ : Mp) (w₀ : World) (ds : List Deferred) (A : Act) (w : World) : Prop :=
  ∃ m, Fr m₀ m Wt (H 0) (H n) w₀ w ∧ ARel m (T n).toArray A.tmps ∧ A.defers = ds ∧ HRel P m Ev (H n) w
theorem Inv.ends (t : Trace P ops T H V D W L) (I : Inv P ops T H W L Wt m₀ w₀ ds listed m A w) (ha : ∀ i, i < ops.size → lst listed i) : Ends P T H ops.size Wt m₀ w₀ ds A w := by
  have hout : ∀ i o, ops.size ≤ i → ops[i]? = some o → False := fun i o h e => by rw [Array.getElem?_eq_none h] at e; cases e
  refine ⟨m, ⟨fun i hi => I.m1 i hi, I.new, I.keep, I.size, I.os, I.tape, I.output⟩, ⟨?_, fun i v v' e e' => ?_⟩, I.df, ⟨I.lt, I.typ _ (Nat.le_refl _), I.inj _ (Nat.le_refl _), I.roS _ (Nat.le_refl _), fun i l o _ e g => I.obj _ (Nat.le_refl _) i l o ⟨fun q h _ _ => ha q h, fun q h1 h2 => by omega⟩ e g⟩⟩
  · simp [I.tl, t.tmLen (Nat.zero_le _) (Nat.le_refl _)]
  · have := I.tv ops.size i (Nat.le_refl _) ⟨fun q o h _ _ => ha q h, fun q o h e => (hout q o h e).elim⟩
    have h1 : (T ops.size).getD i undef = v := by
      have : (T ops.size)[i]? = some v := by simpa using e
      simp [this]
    have h2 : A.tmps.getD i undef = v' := by simp [e']
    rw [h1, h2] at this
    exact this
theorem region_any (t : Trace P ops T H V D W L) (hWt : ∀ k, k < ops.size → L k → ∀ i, W k i → i < (H 0).n → Wt i) (hm : MOk P m₀) (hfr : Fresh m₀ (H 0) (H ops.size)) {r : Option Nat} {Q : Exit → Act → World → Prop} (hQ : ∀ A w, Ends P T H ops.size Wt m₀ w₀ ds A w → Q .normal A w) :
    ∀ (fuel : Nat) (listed : Array Bool) (m : Mp) (A : Act) (w : World), fuel + listed.toList.count true = ops.size → Inv P ops T H W L Wt m₀ w₀ ds listed m A w → wpAnyIn (WF r) 0 P .any ops Q fuel listed A w := by
  intro fuel
  induction fuel with
  | zero =>
    intro listed m A w hc I
    have hall : ∀ b ∈ listed.toList, b = true := by
      have := List.count_eq_length.1 (show listed.toList.count true = listed.toList.length by simp [I.sz] at *; omega)
      exact fun b hb => (this b hb).symm
    have hl : ∀ i, i < ops.size → lst listed i := fun i hi => by
      have hls : i < listed.size := by rw [I.sz]; exact hi
      unfold lst
      simp [hls]
      exact hall _ (by simp)
    refine ⟨?_, hQ _ _ (I.ends t hl)⟩
    apply List.eq_nil_iff_forall_not_mem.2
    intro j hj
    obtain ⟨_, o, ho, _⟩ := mem_ready.1 hj
    have := I.ready hj ho
    exact this.2.1 (hl j this.1)
  | succ fuel ih =>
    intro listed m A w hc I
    refine ⟨fun hr => hQ _ _ (I.ends t (I.all t hr)), fun j hj => ?_⟩
    obtain ⟨_, o, ho, _⟩ := mem_ready.1 hj
    obtain ⟨hlt, hn, hp⟩ := I.ready hj ho
    have hls : j < listed.size := by rw [I.sz]; exact hlt
    have hle : m₀.le m := fun i l e => by
      rw [I.m1 i ?_]
      · exact e
      · apply Classical.byContradiction
        intro hno
        rw [hfr i (by omega) (by omega)] at e; cases e
    have hcnt : fuel + (listed.setIfInBounds j true).toList.count true = ops.size := by
      have hf : listed.toList[j]'(by simpa using hls) = false := by
        unfold lst at hn
        simp [hls] at hn
        simpa using hn
      rw [Array.toList_setIfInBounds, List.count_set (by simpa using hls), hf]
      simp at hc ⊢
      omega
    have hw := I.wanted t ho hn hp
    have go : ∀ {m' : Mp} {w' : World} {v' : Value}, Fr m m' (W j) (H j) (H (j + 1)) w w' → VRel m' (V j) v' → HRel P m' (D j) (H (j + 1)) w' → wpAnyIn (WF r) 0 P .any ops Q fuel (listed.setIfInBounds j true) (A.put o.dst v') w' := fun hf hv hh => ih _ _ _ _ hcnt (I.more t hWt ho hn hp hf hv hh)
    unfold wpOpIn
    simp only [ho]
    rcases t.step j o ho with ⟨hw2, hop⟩ | ⟨hw2, hv, hh⟩
    · rw [hw, hw2]
      simp only [if_true]
      exact hop.run m w A r (hm.mono hle) (fun i h1 h2 => I.m2 j hlt hn i h1 h2) (I.opds t (hm.mono hle) ho hn hp) (I.hrel t hlt hn hp) _ _ fun v' w' m' f v h => go f v h
    · rw [hw, hw2]
      simp only [Bool.false_eq_true, if_false]
      refine ⟨fun _ _ => trivial, go (m' := m) ?_ ?_ ?_⟩
      · rw [hh]; exact Fr.refl _ _ _ _
      · rw [hv]; exact .tuple rfl fun i v v' e => by simp at e
      · rw [hh]; exact I.hrel t hlt hn hp
theorem Inv.start (t : Trace P ops T H V D W L) (hfr : Fresh m₀ (H 0) (H ops.size)) (ht : ARel m₀ (T 0).toArray A.tmps) (hd : A.defers = ds) (hh : HRel P m₀ Ev (H 0) w) : Inv P ops T H W L Wt m₀ w ds (Array.replicate ops.size false) m₀ A w := by
  have hno : ∀ i, ¬ lst (Array.replicate ops.size false) i := fun i => by
    unfold lst
    rw [Array.getD_eq_getD_getElem?]
    by_cases hi : i < ops.size
    · simp [hi]
    · rw [Array.getElem?_eq_none (by simp; omega)]; simp
  have hlow : ∀ k, k ≤ ops.size → ∀ i l, m₀ i = some l → (H k).get i ≠ none → i < (H 0).n := fun k hk i l e g => by
    apply Classical.byContradiction
    intro hn
    have hik : i < (H k).n := by
      cases hg : (H k).get i with
      | none => exact absurd hg g
      | some x => exact AHeap.lt hg
    have := t.n hk (Nat.le_refl _)
    rw [hfr i (by omega) (by omega)] at e; cases e
  exact {
    sz := by simp
    down := fun i j h _ => absurd h (hno j)
    m1 := fun _ _ => rfl
    m2 := fun k hk _ id h1 h2 => by
      have a := t.n (Nat.zero_le k) (by omega)
      have b := t.n (show k + 1 ≤ ops.size by omega) (Nat.le_refl _)
      exact hfr id (by omega) (by omega)
    df := hd
    tl := by have := ht.1; simpa using this.symm
    tv := fun k q hk hc => by
      have e : (T k).getD q undef = (T 0).getD q undef := t.tmSame (Nat.zero_le k) hk fun i o _ h2 ho hd => absurd (hc.1 i o h2 ho hd) (hno i)
      rw [e]
      have := ht.getD q
      simpa using this
    lt := hh.lt
    typ := fun k hk i l c ty e g => by
      obtain ⟨c₀, g1, g2⟩ := t.typ (Nat.zero_le k) hk (hlow k hk i l e (by rw [g]; simp)) g
      have := hh.typ i l c₀ ty e g1
      exact ⟨this.1, g2 ▸ this.2⟩
    inj := fun k hk i j l l' e e' g g' eb => hh.inj i j l l' e e' (t.alive (Nat.zero_le k) hk (hlow k hk i l e g) g) (t.liveT (Nat.zero_le k) hk (hlow k hk j l' e' g'.ne) g') eb
    roS := fun k hk i l c e g => hh.roS i l c e (t.roT (Nat.zero_le k) hk (hlow k hk i l e (by rw [g]; simp)) g)
    inj2 := fun k hk _ _ i l j l' _ _ e' h1 h2 _ => by
      have := t.n (Nat.zero_le (k + 1)) (by omega)
      rw [hfr j (by omega) h2] at e'; cases e'
    obj := fun k hk i l o hc e g => by
      have e1 := t.same (Nat.zero_le k) hk (hlow k hk i l e (by rw [g]; simp)) fun q _ h2 hl hw => absurd (hc.1 q h2 hl hw) (hno q)
      rw [e1] at g
      exact hh.obj i l o trivial e g
    new := fun i l h1 h2 e => by rw [hfr i h1 h2] at e; cases e
    keep := fun _ _ _ => rfl
    size := Nat.le_refl _
    os := rfl
    tape := rfl
    output := rfl }
theorem Trace.total (t : Trace P ops T H V D W L) (hWt : ∀ k, k < ops.size → L k → ∀ i, W k i → i < (H 0).n → Wt i) : AFr Wt (H 0) (H ops.size) where
  n := t.n (Nat.zero_le _) (Nat.le_refl _)
  get i hi hn := t.same (Nat.zero_le _) (Nat.le_refl _) hi fun k _ hk hl hw => hn (hWt k hk hl i hw hi)
  typ i c ty hi h := t.typ (Nat.zero_le _) (Nat.le_refl _) hi h
  alive i hi h := t.alive (Nat.zero_le _) (Nat.le_refl _) hi h
  live i hi h := t.liveT (Nat.zero_le _) (Nat.le_refl _) hi h
  roT i c hi h := t.roT (Nat.zero_le _) (Nat.le_refl _) hi h
/-- **A region that draws its order.** -/
theorem Run.draws (hmix : P.follows .mixedOrders = true) (t : Trace P ops T H V D W L) (hWt : ∀ k, k < ops.size → L k → ∀ i, W k i → i < (H 0).n → Wt i) {q : Bool} (id : Nat) (df : List Nat) : Run P Wt q (.region id ops true) ⟨T 0, df, H 0⟩ .normal ⟨T ops.size, df, H ops.size⟩ := by
  refine ⟨t.total hWt, fun m w A r _ hm hf hs => wpIn_region_any hmix ?_⟩
  have hs' : HRel P m Ev (H 0) { w with drawn := w.drawn + 1 } := hs.h.world rfl
  refine region_any t hWt hm hf (w₀ := { w with drawn := w.drawn + 1 }) (ds := A.defers) ?_ ops.size _ m A _ (by simp [List.count_replicate]) (Inv.start t hf hs.tm rfl hs')
  rintro A' w' ⟨m', f, ht, hd, hh⟩
  have f2 : Fr m m' Wt (H 0) (H ops.size) w w' := ⟨f.old, f.new, f.keep, f.size, f.os, f.tape, f.output⟩
  exact ⟨rfl, m', f2, ⟨ht, by rw [hd]; exact hs.df.mono (f2.le hf), hh⟩⟩
/-! ### Regions in the order of the text -/
/-- The operations of these numbers, one behind the other. -/
inductive OpsRun (P : Program) (W : Nat → Prop) (ops : Array Oper) : List Nat → List Value → AHeap → List Value → AHeap → Prop
  | nil {tm : List Value} {h : AHeap} : OpsRun P W ops [] tm h tm h
  | skip {i : Nat} {is : List Nat} {o : Oper} {tm tm' : List Value} {h h' : AHeap} (ho : ops[i]? = some o) (hw : Region.wanted o (yielded ops tm.toArray) = false) (k : OpsRun P W ops is (putT tm o.dst undef) h tm' h') : OpsRun P W ops (i :: is) tm h tm' h'
  | op {i : Nat} {is : List Nat} {o : Oper} {v : Value} {tm tm' : List Value} {h h₁ h' : AHeap} (ho : ops[i]? = some o) (hw : Region.wanted o (yielded ops tm.toArray) = true) (hr : OpRun P Ev W o tm h v h₁) (k : OpsRun P W ops is (putT tm o.dst v) h₁ tm' h') : OpsRun P W ops (i :: is) tm h tm' h'
theorem OpsRun.fr {W : Nat → Prop} {is : List Nat} {tm tm' : List Value} {h h' : AHeap} (k : OpsRun P W ops is tm h tm' h') : AFr W h h' := by
  induction k with
  | nil => exact .refl _ _
  | skip _ _ _ ih => exact ih
  | op _ _ hr _ ih => exact hr.fr.trans ih
theorem putT_rel {tm : List Value} {d : Option Tmp} {v v' : Value} (h : ARel m tm.toArray A.tmps) (hv : VRel m v v') : ARel m (putT tm d v).toArray (A.put d v').tmps := by
  cases d with
  | none => exact h
  | some t => simpa [putT, Act.put] using h.set t hv
theorem OpsRun.run {W : Nat → Prop} (hk : opsOk P ops = true) {r : Option Nat} {Q : Exit → Act → World → Prop} {is : List Nat} {tm tm' : List Value} {h h' : AHeap} (k : OpsRun P W ops is tm h tm' h') : ∀ (m : Mp) (A : Act) (w : World), MOk P m → Fresh m h h' → ARel m tm.toArray A.tmps → HRel P m Ev h w →
    (∀ m' A' w', Fr m m' W h h' w w' → ARel m' tm'.toArray A'.tmps → A'.defers = A.defers → HRel P m' Ev h' w' → Q .normal A' w') → wpOpsIn (WF r) 0 P ops Q is A w := by
  induction k with
  | nil => intro m A w hm hf ht hh hQ; exact hQ m A w (.refl _ _ _ _) ht rfl hh
  | @skip i is o tm tm' h h' ho hw k ih =>
    intro m A w hm hf ht hh hQ
    rw [wpOpsIn_cons]
    unfold wpOpIn
    have hlen : A.tmps.size = tm.length := by have := ht.1; simpa using this.symm
    have hw' : Region.wanted o (yielded ops A.tmps) = false := by
      rw [← hw]; unfold Region.wanted
      cases o.guard with
      | none => rfl
      | some gw => simp only; rw [yielded_rel (m := m) hlen gw.1 fun d _ => by simpa using ht.getD d]
    simp only [ho, hw', Bool.false_eq_true, if_false]
    refine ⟨fun _ _ => trivial, ih m _ w hm hf (putT_rel ht (.tuple rfl fun i v v' e => by simp at e)) hh fun m' A' w' f a d b => hQ m' A' w' f a ?_ b⟩
    rw [d]; cases o.dst <;> rfl
  | @op i is o v tm tm' h h₁ h' ho hw hr k ih =>
    intro m A w hm hf ht hh hQ
    rw [wpOpsIn_cons]
    unfold wpOpIn
    have hlen : A.tmps.size = tm.length := by have := ht.1; simpa using this.symm
    have hw' : Region.wanted o (yielded ops A.tmps) = true := by
      rw [← hw]; unfold Region.wanted
      cases o.guard with
      | none => rfl
      | some gw => simp only; rw [yielded_rel (m := m) hlen gw.1 fun d _ => by simpa using ht.getD d]
    simp only [ho, hw', if_true]
    have hf1 := hf.left k.fr.n
    refine hr.run m w A r hm hf1 (fun x hx => opd_rel hm ?_ fun t _ => by simpa using ht.getD t) hh _ _ fun v' w' m' f hv hh' => ?_
    · exact List.all_eq_true.1 (List.all_eq_true.1 hk o (by simpa using Array.mem_of_getElem? ho)) x (by simpa using hx)
    · refine ih m' _ w' (hm.mono (f.le hf1)) (hf.right hr.fr.n f) (putT_rel (ht.mono (f.le hf1)) hv) hh' fun m'' A' w'' f' a d b => hQ m'' A' w'' (Fr.trans hr.fr k.fr.n f f') a ?_ b
      rw [d]; cases o.dst <;> rfl
theorem Run.region {W : Nat → Prop} {q : Bool} {id : Nat} {s : ASt} {tm' : List Value} {h' : AHeap} (hk : opsOk P ops = true) (k : OpsRun P W ops (List.range ops.size) s.tm s.h tm' h') : Run P W q (.region id ops false) s .normal ⟨tm', s.df, h'⟩ :=
  ⟨k.fr, fun m w A r _ hm hf hs => wpIn_region (k.run hk m A w hm hf hs.tm hs.h fun m' A' w' f a d b => ⟨rfl, m', f, ⟨a, by rw [d]; exact hs.df.mono (f.le hf), b⟩⟩)⟩
/-! ### Calls -/
theorem OpRun.call {W : Nat → Prop} {o : Oper} {tm : List Value} {h h' : AHeap} {v : Value} {f : Operand} {xs : Array Operand} {ts : Array TypeId} {g : FuncId} {first cap : Array Value} {fn : Func} (ho : o.op = .call { callee := .value f, args := xs, argTypes := ts }) (hf : evalT tm f = .func (.func g) first cap)
    (hg : P.funcs[g]? = some fn) (hn : (fn.name == "runtime.NumGoroutine") = false) (hb : fn.body.isSome = true) (hc : CallRun P W g (first ++ xs.map (evalT tm) ++ cap) h v h') : OpRun P Ev W o tm h v h' := by
  refine ⟨hc.fr, fun m w A r hm hfr hx H K Q hK => ?_⟩
  have hfv := hx f (by simp [ho, Op.operands, Call.operands])
  rw [hf] at hfv
  have hxs := ARel.of_map (m := m) xs (evalT tm) A.eval fun x hxx => hx x (by simp [ho, Op.operands, Call.operands, hxx])
  generalize hy : A.eval f = y at hfv
  cases hfv with
  | @func _ a b a' b' hfn h1 h2 h3 h4 =>
    have hb' : ¬ fn.body = none := by intro e; rw [e] at hb; cases hb
    have hn' : ¬ fn.name = "runtime.NumGoroutine" := by simpa using hn
    have hrun : (execOp A.eval o).run P w = .ok (.enter g (a' ++ xs.map A.eval ++ b')) w := by
      simp [execOp, ho, resolve, hy, Deferred.ofValue, invoke, callFunc, hg, hn', hb']
    have hargs : ARel m (first ++ xs.map (evalT tm) ++ cap) (a' ++ xs.map A.eval ++ b') := (ARel.append ⟨h1, h3⟩ hxs).append ⟨h2, h4⟩
    refine ⟨fun _ _ => trivial, ?_⟩
    rw [Oper.semAt_eq _ _ _ (by simp [ho]), hrun]
    refine ⟨fun hd => by simp [WF] at hd, ?_⟩
    have hcall := hc.run m w _ hm hfr hargs H
    refine ⟨trivial, fun cs hr => ?_⟩
    obtain ⟨e, w', fr, ⟨v', m', he, hF, hV, hH⟩, hsteps, hfn', hl⟩ := hcall.2 cs (room_wide _)
    subst he
    exact ⟨.returned v', w', fr, hK v' w' m' hF hV hH, hsteps, hfn', hl⟩
/-- What a function hands back. -/
def aResults (P : Program) (h : AHeap) (tm : List Value) : List ResultVar → Option (List Value)
  | [] => some []
  | .tmp t :: rs => (aResults P h tm rs).map (tm.getD t undef :: ·)
  | .cell a t :: rs => match aLoad P h t (tm.getD a undef), aResults P h tm rs with
    | some (v, _), some vs => some (v :: vs)
    | _, _ => none
def aResult (P : Program) (h : AHeap) (tm : List Value) (rs : List ResultVar) : Option Value := match aResults P h tm rs with
  | some [v] => some v
  | some vs => some (.tuple vs.toArray)
  | none => none
theorem aResults_run {h : AHeap} {tm : List Value} (ht : ARel m tm.toArray A.tmps) (hh : HRel P m Ev h w) : ∀ (rs : List ResultVar) (vs : List Value), aResults P h tm rs = some vs → ∃ vs' : List Value, (rs.mapM (fun
    | .tmp t => pure (A.tmps.getD t undef)
    | .cell a t => do loadVar t (← asAddr (A.tmps.getD a undef))) : Sem (List Value)).run P w = .ok vs' w ∧ ARel m vs.toArray vs'.toArray
  | [], vs, he => by simp [aResults] at he; subst he; exact ⟨[], by simp, ARel.empty m⟩
  | .tmp t :: rs, vs, he => by
    simp only [aResults, Option.map_eq_some_iff] at he
    obtain ⟨us, hu, rfl⟩ := he
    obtain ⟨us', h1, h2⟩ := aResults_run ht hh rs us hu
    refine ⟨A.tmps.getD t undef :: us', ?_, ?_⟩
    · rw [List.mapM_cons, Sem.run_bind, Sem.run_pure, Result.andThen_ok, Sem.run_bind, h1]; rfl
    · have := (ARel.append (m := m) (a := #[tm.getD t undef]) (a' := #[A.tmps.getD t undef]) ((ARel.empty m).push (by simpa using ht.getD t)) h2)
      simpa using this
  | .cell a t :: rs, vs, he => by
    simp only [aResults] at he
    split at he
    · rename_i v b us hl hu
      cases he
      obtain ⟨us', h1, h2⟩ := aResults_run ht hh rs us hu
      obtain ⟨v', x, e1, e2, e3⟩ := aLoad_run hl trivial hh (a' := A.tmps.getD a undef) (by simpa using ht.getD a)
      refine ⟨v' :: us', ?_, ?_⟩
      · have hA : (asAddr (A.tmps.getD a undef)).run P w = .ok x w := by rw [e1]; rfl
        rw [List.mapM_cons, Sem.run_bind, Sem.run_bind, hA, Result.andThen_ok, e2, Result.andThen_ok, Sem.run_bind, h1]; rfl
      · have := (ARel.append (m := m) (a := #[v]) (a' := #[v']) ((ARel.empty m).push e3) h2)
        simpa using this
    · cases he
theorem aResult_run {fn : Func} {h : AHeap} {tm : List Value} {v : Value} (ht : ARel m tm.toArray A.tmps) (hh : HRel P m Ev h w) (he : aResult P h tm fn.results.toList = some v) : ∃ v', (results fn A.tmps).run P w = .ok v' w ∧ VRel m v v' := by
  unfold aResult at he
  have main : ∀ vs, aResults P h tm fn.results.toList = some vs → ∃ vs' : List Value, (results fn A.tmps).run P w = .ok (if hs : vs'.toArray.size = 1 then vs'.toArray[0] else .tuple vs'.toArray) w ∧ ARel m vs.toArray vs'.toArray := fun vs hvs => by
    obtain ⟨vs', h1, h2⟩ := aResults_run ht hh _ _ hvs
    refine ⟨vs', ?_, h2⟩
    unfold results
    rw [Sem.run_bind, Array.mapM_eq_mapM_toList, Sem.run_map]
    erw [h1]
    rfl
  split at he
  · rename_i u hu
    cases he
    obtain ⟨vs', h1, h2⟩ := main _ hu
    have hs : vs'.toArray.size = 1 := by rw [← h2.1]; rfl
    rw [dif_pos hs] at h1
    exact ⟨_, h1, h2.2 0 v _ (by simp) (by simp at hs ⊢)⟩
  · rename_i vs hnot hu
    cases he
    obtain ⟨vs', h1, h2⟩ := main _ hu
    have hs : ¬ vs'.toArray.size = 1 := by
      intro e
      rw [← h2.1] at e
      simp at e
      obtain ⟨x, hx⟩ := List.length_eq_one_iff.1 e
      exact hnot x hx
    rw [dif_neg hs] at h1
    exact ⟨_, h1, .tuple h2.1 h2.2⟩
  · cases he
/-- A function, out of its body. -/
theorem CallRun.of_run {W : Nat → Prop} {f : FuncId} {fn : Func} {c : Code} {args : Array Value} {h : AHeap} {x : Exit} {s' : ASt} {v : Value} (hf : P.funcs[f]? = some fn) (hb : fn.body = some c)
    (hr : Run P W false c ⟨args.toList ++ List.replicate (fn.ntmps - args.size) undef, [], h⟩ x s') (hx : x = .normal ∨ x = .ret) (hd : s'.df = []) (hv : aResult P s'.h s'.tm fn.results.toList = some v) : CallRun P W f args h v s'.h := by
  refine ⟨hr.fr, fun m w args' hm hfr ha hh => callsIn_of_wp (F := Fence.wide) hf hb trivial ?_⟩
  have hargs : ARel m (args.toList ++ List.replicate (fn.ntmps - args.size) undef).toArray (args' ++ Array.replicate (fn.ntmps - args'.size) undef) := by
    have e : (args.toList ++ List.replicate (fn.ntmps - args.size) undef).toArray = args ++ Array.replicate (fn.ntmps - args'.size) undef := by
      rw [← ha.1]
      apply Array.toList_inj.1
      simp
    rw [e]
    refine ha.append ⟨rfl, fun i u u' e e' => ?_⟩
    rw [e] at e'; cases e'
    have := Array.mem_of_getElem? e
    rw [Array.mem_replicate] at this
    rw [this.2]
    exact .tuple rfl fun i v v' e => by simp at e
  refine wpIn_mono (hr.run m w ⟨_, []⟩ none (fun _ => rfl) hm hfr ⟨hargs, ⟨rfl, fun i j d e => by simp at e⟩, hh⟩) ?_
  rintro e A' w' ⟨he, m', hF, hs⟩
  subst he
  have hdd : A'.defers = [] := by
    have := hs.df.1
    rw [hd] at this
    exact List.eq_nil_of_length_eq_zero (by simpa using this.symm)
  obtain ⟨v', h1, h2⟩ := aResult_run hs.tm hs.h hv
  rcases hx with rfl | rfl
  · exact ⟨hdd, v', h1, v', m', rfl, hF, h2, hs.h⟩
  · exact ⟨hdd, v', h1, v', m', rfl, hF, h2, hs.h⟩
end
end Go.Proofs.Ytmelgnpogdilgaa
