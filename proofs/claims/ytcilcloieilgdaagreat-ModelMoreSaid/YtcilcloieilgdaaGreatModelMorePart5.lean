/- What the law leans on, part 5. No conditions. -/
import Derived.Laws.Small
import Derived.Test.YtcilcloieilgdaaGreatModelMorePart4
set_option linter.unusedVariables false
set_option linter.unusedSimpArgs false
namespace Go.Proofs.YtcilcloieilgdaaGreat
def YieldRun (P : Program) (W : Nat → Prop) (l : Nat) (args : List Value) (h : AHeap) (c : Bool) (h' : AHeap) : Prop :=
  AFr W h h' ∧ ∀ (o : Oper) (tm : List Value) (f : Operand) (xs : Array Operand) (ts : Array TypeId), o.op = .call ⟨.value f, xs, ts⟩ → evalT tm f = .func (.yield l) #[] #[] → xs.toList.map (evalT tm) = args → OpRun P Ev W o tm h (.bool c) h'
def YieldS (P : Program) (wr : List Nat) (l : Nat) (args : List Value) (h : AHeap) (Q : Bool → AHeap → Prop) : Prop := ∃ c h', YieldRun P (· ∈ wr) l args h c h' ∧ Q c h'
theorem YieldS.mono {P : Program} {wr : List Nat} {l : Nat} {args : List Value} {h : AHeap} {Q Q' : Bool → AHeap → Prop} (k : YieldS P wr l args h Q) (hq : ∀ c h', Q c h' → Q' c h') : YieldS P wr l args h Q' := let ⟨c, h', a, b⟩ := k; ⟨c, h', a, hq _ _ b⟩
theorem YieldS.keeps {P : Program} {wr : List Nat} {l : Nat} {args : List Value} {h : AHeap} {Q : Bool → AHeap → Prop} (k : YieldS P wr l args h Q) : YieldS P wr l args h fun c h' => Keeps wr h h' ∧ Q c h' := let ⟨c, h', a, b⟩ := k; ⟨c, h', a, ⟨a.1.n, fun i hi hn => a.1.get i hi hn⟩, b⟩
def AsQ (P : Program) (W : Nat → Prop) (l : Nat) (bo : Code) (Q : PQ) : PQ := fun x tm df h => x = .normal ∧ ∃ pe' tmL' ps' as' bo' df', h.get l = some (.loop .ready pe' tmL' ps' as' bo' df') ∧ ∃ x' tm' d' h', Run P W true bo ⟨tm, df, h.put l (some (.loop .busy pe' tmL' ps' as' bo' df'))⟩ x' ⟨tm', d', h'⟩ ∧ Q x' tm' d' h'
def BoQ (l : Nat) (Q : Bool → AHeap → Prop) : PQ := fun x tm df h => ∃ jump st₂ pe₂ tm₂ ps₂ as₂ bo₂ df₂, jumpOf x = some jump ∧ h.get l = some (.loop st₂ pe₂ tm₂ ps₂ as₂ bo₂ df₂) ∧ Q jump.isNone (h.put l (some (.loop (if jump.isNone then .ready else .done) jump tm₂ ps₂ as₂ bo₂ df₂)))
theorem Rp.set {ov : Ov} {tm : List Value} {N d : Nat} (hr : Rp ov tm) (hN : tm.length = N) (hd : dOk d N = true) (v : Value) : Rp ((d, v) :: ov) (tm.set d v) := hr.put hN hd v
def setO : Ov → List Tmp → List Value → Ov
  | ov, p :: ps, v :: vs => setO ((p, v) :: ov) ps vs
  | ov, _, _ => ov
theorem setPs_rp {N : Nat} : ∀ (ps : List Tmp) (vs : List Value) (ov : Ov) (tm : List Value), ps.all (dOk · N) = true → tm.length = N → Rp ov tm → Rp (setO ov ps vs) (setPs tm ps vs) ∧ (setPs tm ps vs).length = N
  | [], _, ov, tm, _, hN, hr => by simpa [setO, setPs] using ⟨hr, hN⟩
  | p :: ps, [], ov, tm, _, hN, hr => by simpa [setO, setPs] using ⟨hr, hN⟩
  | p :: ps, v :: vs, ov, tm, hd, hN, hr => by
    simp only [List.all_cons, Bool.and_eq_true] at hd
    have := setPs_rp ps vs ((p, v) :: ov) (tm.set p v) hd.2 (by simpa using hN) (hr.set hN hd.1 v)
    simpa [setO, setPs] using this
section
variable {P : Program} {W : Nat → Prop} {q : Bool} {N : Nat} {k : List It} {ov : Ov} {df : List Nat} {h : AHeap} {Q : PQ} {x : Exit}
theorem YieldS.of {wr : List Nat} {l d : Nat} {pe : Option Code} {tm : List Value} {ps : Array Tmp} {as bo : Code} {args : List Value} {Q : Bool → AHeap → Prop} {ov' : Ov} (hl : h.get l = some (.loop .ready pe tm ps as bo d)) (htm : tm.length = N) (hr : Rp ov tm) (hsz : args.length = ps.size) (hps : ps.toList.all (dOk · N) = true) (ho : setO ov ps.toList args = ov') (hwl : l ∈ wr)
    (g : Go P (fun i => i ∈ wr ∨ h.n ≤ i) true N [.code as] .normal ov' [] h (AsQ P (fun i => i ∈ wr ∨ h.n ≤ i) l bo (BoQ l Q))) : YieldS P wr l args h Q := by
  subst ho
  obtain ⟨r1, n1⟩ := setPs_rp ps.toList args ov tm hps htm hr
  obtain ⟨x, tm₁, df₁, h₁, ra, la, hx, pe', tmL', ps', as', bo', df', hl₁, x', tm₂, df₂, h₂, rb, jump, st₂, pe₂, tm₃, ps₂, as₂, bo₂, df₃, hj, hl₂, hq⟩ := (g _ n1 r1).1 rfl
  subst hx
  have key : ∀ (o : Oper) (tmc : List Value) (f : Operand) (xs : Array Operand) (ts : Array TypeId), o.op = .call ⟨.value f, xs, ts⟩ → evalT tmc f = .func (.yield l) #[] #[] → xs.toList.map (evalT tmc) = args → OpRun P Ev (· ∈ wr) o tmc h (.bool jump.isNone) (h₂.put l (some (.loop (if jump.isNone then .ready else .done) jump tm₃ ps₂ as₂ bo₂ df₃))) := fun o tmc f xs ts ho hf hxs => by
    have ra' : Run P (fun i => i ∈ wr ∨ h.n ≤ i) true as ⟨setPs tm ps.toList (xs.toList.map (evalT tmc)), [], h⟩ .normal ⟨tm₁, df₁, h₁⟩ := by rw [hxs]; exact ra
    have hsz' : xs.size = ps.size := by rw [← hsz, ← hxs]; simp
    have := OpRun.yield ho hf hl hsz' ra' hl₁ rb hl₂ hj (.inl hwl)
    exact this.old.weak fun i ⟨a, b⟩ => a.resolve_right (by omega)
  refine ⟨_, _, ⟨?_, key⟩, hq⟩
  have a1 : AFr (fun i => i ∈ wr ∨ h.n ≤ i) h₁ (h₁.put l (some (.loop .busy pe' tmL' ps' as' bo' df'))) := .putOther _ (.inl hwl) hl₁ rfl
  have a2 : AFr (fun i => i ∈ wr ∨ h.n ≤ i) h₂ (h₂.put l (some (.loop (if jump.isNone then .ready else .done) jump tm₃ ps₂ as₂ bo₂ df₃))) := .putOther _ (.inl hwl) hl₂ rfl
  have af := ra.fr.trans (a1.trans (rb.fr.trans a2))
  exact ⟨af.n, fun i hi hn => af.get i hi fun hw => hw.elim hn (by omega), af.typ, af.alive, af.live, af.roT⟩
theorem YieldS.of' {wr : List Nat} {l d : Nat} {pe : Option Code} {tm : List Value} {ps ps₀ : Array Tmp} {as bo as₀ bo₀ : Code} {args : List Value} {Q : Bool → AHeap → Prop} {ov' : Ov} (hl : h.get l = some (.loop .ready pe tm ps as bo d)) (htm : tm.length = N) (hr : Rp ov tm) (eps : ps = ps₀) (eas : as = as₀) (ebo : bo = bo₀) (hsz : args.length = ps₀.size) (hps : ps₀.toList.all (dOk · N) = true) (ho : setO ov ps₀.toList args = ov') (hwl : l ∈ wr)
    (g : Go P (fun i => i ∈ wr ∨ h.n ≤ i) true N [.code as₀] .normal ov' [] h (AsQ P (fun i => i ∈ wr ∨ h.n ≤ i) l bo₀ (BoQ l Q))) : YieldS P wr l args h Q := by
  subst eps eas ebo
  exact YieldS.of hl htm hr hsz hps ho hwl g
theorem Go.body {l : Nat} {bo : Code} {pe' : Option Code} {tmL' : List Value} {ps' : Array Tmp} {as' bo' : Code} {df' : Nat} {Q : PQ} (hl : h.get l = some (.loop .ready pe' tmL' ps' as' bo' df')) (g : Go P W true N [.code bo] .normal ov df (h.put l (some (.loop .busy pe' tmL' ps' as' bo' df'))) Q) : Go P W q N [] .normal ov df h (AsQ P W l bo Q) := fun tm hN hr => by
  obtain ⟨x', tm', d', h', r, _, hq⟩ := (g tm hN hr).1 rfl
  exact ⟨rfl, _, _, _, _, _, _, hl, x', tm', d', h', r, hq⟩
theorem Go.roundEnd {l : Nat} {Q : Bool → AHeap → Prop} {jump : Option Code} {st₂ : LoopState} {pe₂ : Option Code} {tm₂ : List Value} {ps₂ : Array Tmp} {as₂ bo₂ : Code} {df₂ : Nat} (hj : jumpOf x = some jump) (hl : h.get l = some (.loop st₂ pe₂ tm₂ ps₂ as₂ bo₂ df₂)) (hq : Q jump.isNone (h.put l (some (.loop (if jump.isNone then .ready else .done) jump tm₂ ps₂ as₂ bo₂ df₂)))) : Go P W q N [] x ov df h (BoQ l Q) := fun tm hN hr => ⟨jump, _, _, _, _, _, _, _, hj, hl, hq⟩
theorem Go.rangeFunc {g : Operand} {ps : Array Tmp} {as bo : Code} {f : FuncId} {first cap : Array Value} {wr : List Nat} (hg : evO ov g = some (.func (.func f) first cap)) (hk : okOpd P g = true) (hc : calls P f = true)
    (K : ∀ tm : List Value, tm.length = N → Rp ov tm → CallS P wr f (first.toList ++ [.func (.yield (h.n + 1)) #[] #[]] ++ cap.toList) ((h.push (.deferred true)).push (.loop .ready none tm ps as bo h.n)) fun v h₂ => Keeps wr ((h.push (.deferred true)).push (.loop .ready none tm ps as bo h.n)) h₂ → (∀ i ∈ wr, W i) ∧ W (h.n + 1) ∧ ∃ st pe tm' ps' as' bo' df' x, h₂.get (h.n + 1) = some (.loop st pe tm' ps' as' bo' df') ∧ (st == .busy) = false ∧ exitOf pe = some x ∧ Go P W false N k x ov (h.n :: df) (h₂.put (h.n + 1) (some (.loop .exhausted pe tm' ps' as' bo' df'))) Q) : Go P W false N (.code (.rangeFunc g ps as bo) :: k) .normal ov df h Q := Go.code fun tm hN hr => by
  obtain ⟨v, h₂, hcr, hq⟩ := K tm hN hr
  obtain ⟨w1, w2, st, pe, tm', ps', as', bo', df', x, e1, e2, e3, e4⟩ := hq ⟨hcr.fr.n, fun i hi hn => hcr.fr.get i hi hn⟩
  obtain ⟨fn, h1, h2, h3⟩ := calls_spec hc
  have e : (first.toList ++ [Value.func (Fn.yield (h.n + 1)) #[] #[]] ++ cap.toList).toArray = first ++ #[Value.func (Fn.yield (h.n + 1)) #[] #[]] ++ cap := by
    apply Array.toList_inj.1
    simp
  rw [e] at hcr
  have run := Run.rangeFunc (s := ⟨tm, df, h⟩) (ps := ps) (assign := as) (body := bo) hk (evO_eq hr hg) h1 h2 h3 (hcr.weak w1) e1 e2 e3 w2
  exact ⟨x, tm, h.n :: df, _, run, rfl, e4 tm hN hr⟩
theorem Go.rangeFunc' {g : Operand} {ps : Array Tmp} {as bo : Code} {f : FuncId} {first cap : Array Value} {wr : List Nat} (hg : evO ov g = some (.func (.func f) first cap)) (hk : okOpd P g = true) (hc : calls P f = true)
    (K : ∀ (tm : List Value) (ps' : Array Tmp) (as' bo' : Code) (H : AHeap), ps' = ps → as' = as → bo' = bo → H = ((h.push (.deferred true)).push (.loop .ready none tm ps' as' bo' h.n)) → tm.length = N → Rp ov tm → CallS P wr f (first.toList ++ [.func (.yield (h.n + 1)) #[] #[]] ++ cap.toList) H fun v h₂ => Keeps wr H h₂ → (∀ i ∈ wr, W i) ∧ W (h.n + 1) ∧ ∃ st pe tm' ps' as' bo' df' x, h₂.get (h.n + 1) = some (.loop st pe tm' ps' as' bo' df') ∧ (st == .busy) = false ∧ exitOf pe = some x ∧ Go P W false N k x ov (h.n :: df) (h₂.put (h.n + 1) (some (.loop .exhausted pe tm' ps' as' bo' df'))) Q) : Go P W false N (.code (.rangeFunc g ps as bo) :: k) .normal ov df h Q :=
  Go.rangeFunc hg hk hc fun tm hN hr => K tm _ _ _ _ rfl rfl rfl rfl hN hr
theorem GoR.yield {ops : Array Oper} {os : List Oper} {o : Oper} {d : Nat} {f : Operand} {xs : Array Operand} {ts : Array TypeId} {l : Nat} {us : List Value} {wr : List Nat} (ho : o.op = .call ⟨.value f, xs, ts⟩) (hd : o.dst = some d) (hN : dOk d N = true) (hgd : o.guard = none) (hf : evO ov f = some (.func (.yield l) #[] #[])) (hx : evOs ov xs.toList = some us)
    (hk : YieldS P wr l us h fun c h' => Keeps wr h h' → (∀ i ∈ wr, W i) ∧ GoR P W q N ops true os k ((d, .bool c) :: ov) df h' Q) : GoR P W q N ops true (o :: os) k ov df h Q := by
  obtain ⟨c, h', hr, hg⟩ := hk
  have kp : Keeps wr h h' := ⟨hr.1.n, fun i hi hn => hr.1.get i hi hn⟩
  refine GoR.step (r := ⟨.bool c, h', [], wr, true, false⟩) hgd hd hN (fun tm hrp => ⟨(fun e => by cases e), fun D W' hall _ hw => ?_⟩) (.inl rfl) (hg kp).1 (hg kp).2
  rw [hall rfl]
  exact (hr.2 o tm f xs ts ho (evO_eq hrp hf) (evOs_eq hrp hx)).weak fun i hi => (hw i hi).2
end
end Go.Proofs.YtcilcloieilgdaaGreat
namespace Go.Proofs.YtcilcloieilgdaaGreat
class MI (P : Program) (t : TypeId) (K : outParam IntKind) (z : outParam Value) : Prop where
  h : ∃ kt e, P.underlying t = some (.map kt e) ∧ P.underlying kt = some (.int K) ∧ zeroT P e = some z ∧ flatB z = true ∧ ∀ em n, calm P (Instr.checkKey em 10000 kt (.int K n)) = some ()
def al {β : Type} : List (Int × β) → Int → Option β
  | [], _ => none
  | p :: r, k => if p.1 = k then some p.2 else al r k
def aset {β : Type} : List (Int × β) → Int → β → List (Int × β)
  | [], k, v => [(k, v)]
  | p :: r, k, v => if p.1 = k then (k, v) :: r else p :: aset r k v
def kvs (K : IntKind) (f : List (Int × Value)) : List (Value × Value) := f.map fun p => (.int K p.1, p.2)
def kv (l : List MapEntry) : List (Value × Value) := l.map fun e => (e.key, e.val)
def IMap (h : AHeap) (r : Nat) (K : IntKind) (f : List (Int × Value)) : Prop := ∃ es ck, h.get r = some (.map es ck) ∧ kv es.toList = kvs K f
theorem IMap.same {h h' : AHeap} {r : Nat} {K : IntKind} {f : List (Int × Value)} (m : IMap h r K f) (s : Same h h') : IMap h' r K f := by
  obtain ⟨es, ck, g, e⟩ := m
  exact ⟨es, ck, s.get g, e⟩
theorem IMap.keeps {h h' : AHeap} {r : Nat} {K : IntKind} {f : List (Int × Value)} {wr : List Nat} (m : IMap h r K f) (s : Keeps wr h h') (hr : r ∉ wr) : IMap h' r K f := by
  obtain ⟨es, ck, g, e⟩ := m
  exact ⟨es, ck, s.get g hr, e⟩
theorem IMap.lt {h : AHeap} {r : Nat} {K : IntKind} {f : List (Int × Value)} (m : IMap h r K f) : r < h.n := by
  obtain ⟨es, ck, g, e⟩ := m
  exact AHeap.lt g
theorem eqKey_int (P : Program) (kt : TypeId) (K : IntKind) (a b : Int) : eqKey P (.int K) kt (.int K a) (.int K b) = some (a == b) := by simp [eqKey, Instr.sameNow]
theorem map_find (P : Program) (kt : TypeId) (K : IntKind) (k : Int) (v : Value) : ∀ (l : List MapEntry) (f : List (Int × Value)) (i : Nat), kv l = kvs K f →
    (al f k = none ∧ mapFind P (.int K) kt (.int K k) l i = some none ∧ kv l ++ [(.int K k, v)] = kvs K (aset f k v)) ∨
    ∃ j, mapFind P (.int K) kt (.int K k) l i = some (some (i + j)) ∧ j < l.length ∧ al f k = some (valAt l j) ∧ (l[j]?).map (·.key) = some (.int K k) ∧ kv (l.modify j fun e => { e with key := .int K k, val := v }) = kvs K (aset f k v)
  | [], f, i, h => by
    cases f with
    | nil => exact .inl ⟨rfl, rfl, rfl⟩
    | cons p r => simp [kv, kvs] at h
  | e :: l, f, i, h => by
    cases f with
    | nil => simp [kv, kvs] at h
    | cons p r =>
      simp only [kv, kvs, List.map_cons, List.cons.injEq, Prod.mk.injEq] at h
      obtain ⟨⟨h1, h2⟩, h3⟩ := h
      by_cases hk : p.1 = k
      · refine .inr ⟨0, ?_, by simp, ?_, ?_, ?_⟩
        · simp [mapFind, h1, eqKey_int, hk]
        · simp [al, hk, valAt, h2]
        · simp [h1, hk]
        · simp only [List.modify_zero_cons, kv, kvs, aset, if_pos hk, List.map_cons, h3]
      · have hk' : (k == p.1) = false := by simpa using fun e : k = p.1 => hk e.symm
        rcases map_find P kt K k v l r (i + 1) h3 with ⟨a, b, c⟩ | ⟨j, a, b, c, d, e'⟩
        · refine .inl ⟨by simp [al, hk, a], by simp only [mapFind, h1, eqKey_int, hk', b], ?_⟩
          simp only [kv, kvs] at c
          simp only [kv, kvs, aset, if_neg hk, List.map_cons, List.cons_append, c, h1, h2]
        · refine .inr ⟨j + 1, ?_, by simp; omega, ?_, by simpa using d, ?_⟩
          · simp only [mapFind, h1, eqKey_int, hk', a]; congr 2; omega
          · simp only [al, if_neg hk, c, valAt, List.getElem?_cons_succ]
          · simp only [kv, kvs] at e'
            simp only [List.modify_succ_cons, kv, kvs, aset, if_neg hk, List.map_cons, e', h1, h2]
theorem keyAt_int {P : Program} {kt : TypeId} {K : IntKind} {k : Int} {es : Array MapEntry} {em : Bool} {f : List (Int × Value)} (hu : P.underlying kt = some (.int K)) (hc : ∀ em n, calm P (Instr.checkKey em 10000 kt (.int K n)) = some ()) (he : kv es.toList = kvs K f) : keyAt P kt (.int K k) es em = mapFind P (.int K) kt (.int K k) es.toList 0 := by
  have hf : flatKeys es = true := by
    refine List.all_eq_true.2 fun e hm => ?_
    have : (e.key, e.val) ∈ kv es.toList := List.mem_map_of_mem hm
    rw [he] at this
    obtain ⟨p, -, hp⟩ := List.mem_map.1 this
    have := congrArg Prod.fst hp
    simp only at this
    rw [← this]; rfl
  have h1 : flatB (.int K k) = true := rfl
  simp only [keyAt, hu, h1, hf, hc, Bool.and_self, if_true]
theorem aLookup_int {P : Program} {h : AHeap} {t : TypeId} {K : IntKind} {z : Value} [hm : MI P t K z] {r : Nat} {f : List (Int × Value)} (m : IMap h r K f) (k : Int) (ok : Bool) : aLookup P h t (.map (some r)) (.int K k) ok = some (if ok then .tuple #[(al f k).getD z, .bool (al f k).isSome] else (al f k).getD z, [r]) := by
  obtain ⟨kt, e, h1, h2, h3, h4, h5⟩ := hm.h
  obtain ⟨es, ck, g, he⟩ := m
  simp only [aLookup, h1, h3, h4, if_true, g, keyAt_int h2 h5 he]
  rcases map_find P kt K k z es.toList f 0 he with ⟨a, b, -⟩ | ⟨j, a, -, c, -, -⟩
  · simp [a, b]
  · simp [a, c]
theorem aUpdate_int {P : Program} {h : AHeap} {t : TypeId} {K : IntKind} {z : Value} [hm : MI P t K z] {r : Nat} {f : List (Int × Value)} (m : IMap h r K f) (k : Int) (v : Value) : ∃ o, aUpdate P h t (.map (some r)) (.int K k) v = some (h.put r (some o), r) ∧ IMap (h.put r (some o)) r K (aset f k v) := by
  obtain ⟨kt, e, h1, h2, h3, h4, h5⟩ := hm.h
  obtain ⟨es, ck, g, he⟩ := m
  have hr := AHeap.lt g
  rcases map_find P kt K k v es.toList f 0 he with ⟨a, b, c⟩ | ⟨j, a, b, c, d, d2⟩
  · refine ⟨.map (es.push { key := .int K k, val := v, born := ck }) (ck + 1), ?_, _, _, AHeap.get_put_same _ hr _, ?_⟩
    · simp only [aUpdate, h1, g, keyAt_int h2 h5 he, b]
    · rw [← c]; simp [kv]
  · rw [Nat.zero_add] at a
    have hs : keyStays es j (.int K k) = true := by
      have : (es[j]?).map (·.key) = some (.int K k) := by simpa using d
      simp [keyStays, this, Instr.sameBits]
    refine ⟨.map (es.modify j fun e => { e with key := .int K k, val := v }) ck, ?_, _, _, AHeap.get_put_same _ hr _, ?_⟩
    · simp only [aUpdate, h1, g, keyAt_int h2 h5 he, a, hs, if_true]
    · rw [← d2]; simp
section
variable {P : Program} {h : AHeap} {o : Oper} {ov : Ov} {W : Nat → Prop} {q : Bool} {N : Nat} {ops : Array Oper} {os : List Oper} {k : List It} {df : List Nat} {Q : PQ} {d : Nat} {b₀ : Bool}
theorem S.makeMap {t : TypeId} (ho : o.op = .makeMap t none) : ∀ tm, Rp ov tm → OpOk P o tm h ⟨.map (some h.n), h.push (.map #[] 0), [], [], false, false⟩ := fun tm hr => .new fun D W => OpRun.makeMap ho
theorem S.lookup {t : TypeId} {x y : Operand} {K : IntKind} {z : Value} {r : Nat} {f : List (Int × Value)} {n : Int} {ok : Bool} [hm : MI P t K z] (ho : o.op = .lookup t x y ok) (hx : evO ov x = some (.map (some r))) (hy : evO ov y = some (.int K n)) (m : IMap h r K f) : ∀ tm, Rp ov tm → OpOk P o tm h ⟨if ok then .tuple #[(al f n).getD z, .bool (al f n).isSome] else (al f n).getD z, h, [r], [], false, true⟩ := fun tm hr => .read fun D W hD => OpRun.lookup ho (by rw [evO_eq hr hx, evO_eq hr hy]; exact aLookup_int m n ok) hD
theorem GoR.makeMap {t : TypeId} (ho : o.op = .makeMap t none) (hd : o.dst = some d) (hN : dOk d N = true) (hgd : o.guard = none) (g : ∀ h', (∀ K, IMap h' h.n K []) → Same h h' → h'.n = h.n + 1 → GoR P W q N ops b₀ os k ((d, .map (some h.n)) :: ov) df h' Q) : GoR P W q N ops b₀ (o :: os) k ov df h Q := GoR.step (r := ⟨.map (some h.n), h.push (.map #[] 0), [], [], false, false⟩) hgd hd hN (S.makeMap ho) (.inr rfl) (fun i hi => by cases hi) (g _ (fun K => ⟨_, _, AHeap.get_push_same _ _, rfl⟩) ((Same.refl h).push _) rfl)
theorem GoR.lookup {t : TypeId} {x y : Operand} {K : IntKind} {z : Value} {r : Nat} {f : List (Int × Value)} {n : Int} [hm : MI P t K z] (ho : o.op = .lookup t x y false) (hd : o.dst = some d) (hN : dOk d N = true) (hgd : o.guard = none) (hx : evO ov x = some (.map (some r))) (hy : evO ov y = some (.int K n)) (m : IMap h r K f) (g : GoR P W q N ops b₀ os k ((d, (al f n).getD z) :: ov) df h Q) : GoR P W q N ops b₀ (o :: os) k ov df h Q := GoR.step (r := ⟨(al f n).getD z, h, [r], [], false, true⟩) hgd hd hN (S.lookup ho hx hy m) (.inr rfl) (fun i hi => by cases hi) g
theorem GoR.lookup2 {t : TypeId} {x y : Operand} {K : IntKind} {z : Value} {r : Nat} {f : List (Int × Value)} {n : Int} [hm : MI P t K z] (ho : o.op = .lookup t x y true) (hd : o.dst = some d) (hN : dOk d N = true) (hgd : o.guard = none) (hx : evO ov x = some (.map (some r))) (hy : evO ov y = some (.int K n)) (m : IMap h r K f) (g : GoR P W q N ops b₀ os k ((d, .tuple #[(al f n).getD z, .bool (al f n).isSome]) :: ov) df h Q) : GoR P W q N ops b₀ (o :: os) k ov df h Q := GoR.step (r := ⟨.tuple #[(al f n).getD z, .bool (al f n).isSome], h, [r], [], false, true⟩) hgd hd hN (S.lookup ho hx hy m) (.inr rfl) (fun i hi => by cases hi) g
theorem GoR.mapUpdate {t : TypeId} {x y v : Operand} {K : IntKind} {z : Value} {r : Nat} {f : List (Int × Value)} {n : Int} {u : Value} [hm : MI P t K z] (ho : o.op = .mapUpdate t x y v ∨ o.op = .insert t x y v) (hd : o.dst = none) (hgd : o.guard = none) (hx : evO ov x = some (.map (some r))) (hy : evO ov y = some (.int K n)) (hv : evO ov v = some u) (m : IMap h r K f) (hw : W r) (g : ∀ h', IMap h' r K (aset f n u) → Keeps [r] h h' → h'.n = h.n → GoR P W q N ops true os k ov df h' Q) : GoR P W q N ops true (o :: os) k ov df h Q := by
  obtain ⟨ob, h1, h2⟩ := aUpdate_int (P := P) (t := t) m n u
  exact GoR.step0 (r := ⟨undef, h.put r (some ob), [r], [r], false, false⟩) hgd hd (fun tm hr => .write fun D W hD hW => OpRun.mapUpdate ho (by rw [evO_eq hr hx, evO_eq hr hy, evO_eq hr hv]; exact h1) (hD r (by simp)) (hW r (by simp)).2) (.inl rfl) (fun i hi => by simp at hi; subst hi; exact hw) (g _ h2 ⟨Nat.le_refl _, fun i hi hn => AHeap.get_put_ne _ _ (fun e => hn (by simp [e]))⟩ rfl)
end
end Go.Proofs.YtcilcloieilgdaaGreat
namespace Go.Proofs.YtcilcloieilgdaaGreat
theorem isFirst_step {y x : List MKey} {k : Nat} (hk : k < y.length) : isFirst (y.drop k) (x.drop k) = if h : k < x.length then decide (y[k] = x[k]) && isFirst (y.drop (k + 1)) (x.drop (k + 1)) else false := by
  rw [List.drop_eq_getElem_cons hk]
  split
  · rename_i h
    rw [List.drop_eq_getElem_cons h]; rfl
  · rename_i h
    rw [List.drop_eq_nil_of_le (by omega : x.length ≤ k)]; rfl
theorem isFirst_done {y x : List MKey} {k : Nat} (hk : y.length ≤ k) : isFirst (y.drop k) (x.drop k) = true := by
  rw [List.drop_eq_nil_of_le hk]; exact isFirst_nil _
theorem take_snoc {α : Type} {l : List α} {i : Nat} (hi : i < l.length) : l.take (i + 1) = l.take i ++ [l[i]] := by rw [List.take_add_one, List.getElem?_eq_getElem hi]; rfl
def gotB (s g : List MKey) (n : Nat) : Bool := isFirst (pickM g n false) (pickM s n false) && isSome_ (pickM g n true) (pickM s n true)
theorem gotM_all (s g : List MKey) : gotM s g = g.all fun m => gotB s g m.1 := rfl
theorem all_false {l : List MKey} {p : MKey → Bool} {i : Nat} (hi : i < l.length) (hp : p l[i] = false) : l.all p = false := by
  rw [List.all_eq_false]
  exact ⟨l[i], List.getElem_mem hi, by simp [hp]⟩
theorem isSome_more {g l : List MKey} {i : Nat} (hi : i < g.length) : isSome_ (g.drop i) l = match at1 g[i] l with
    | none => false
    | some k => isSome_ (g.drop (i + 1)) (l.eraseIdx k) := by
  rw [List.drop_eq_getElem_cons hi]; rfl
theorem isSome_done {g l : List MKey} {i : Nat} (hi : g.length ≤ i) : isSome_ (g.drop i) l = true := by rw [List.drop_eq_nil_of_le hi]; rfl
theorem at1_drop {m : MKey} : ∀ {l : List MKey} {n : Nat}, (∀ i (h : i < l.length), i < n → m ≠ l[i]) → at1 m l = (at1 m (l.drop n)).map (· + n)
  | l, 0, _ => by simp
  | [], n + 1, _ => by simp [at1]
  | x :: l, n + 1, h => by
    have h0 : m ≠ x := h 0 (by simp) (by omega)
    have ih := at1_drop (m := m) (l := l) (n := n) fun i hi hn => h (i + 1) (by simpa using hi) (by omega)
    rw [List.drop_succ_cons]
    show (if m = x then some 0 else (at1 m l).map (· + 1)) = _
    rw [if_neg h0, ih, Option.map_map]
    congr 1
theorem at1_here {m : MKey} {l : List MKey} {n : Nat} (hn : n < l.length) (h : ∀ i (h : i < l.length), i < n → m ≠ l[i]) (e : m = l[n]) : at1 m l = some n := by
  rw [at1_drop h, List.drop_eq_getElem_cons hn]
  show ((if m = l[n] then some 0 else _).map _) = _
  rw [if_pos e]; simp
theorem at1_not {m : MKey} {l : List MKey} (h : ∀ i (h : i < l.length), m ≠ l[i]) : at1 m l = none := by
  rw [at1_drop (n := l.length) (fun i hi _ => h i hi), List.drop_eq_nil_of_le (Nat.le_refl _)]; rfl
end Go.Proofs.YtcilcloieilgdaaGreat
namespace Go.Proofs.YtcilcloieilgdaaGreat
section
variable {P : Program} {W : Nat → Prop} {q : Bool} {N : Nat} {k : List It} {ov : Ov} {df : List Nat} {h : AHeap} {Q : PQ} {ops : Array Oper} {os : List Oper} {o : Oper} {d : Nat} {b₀ : Bool} {tr : List (Option LE)}
theorem S.boolEq {t t₂ : TypeId} {x y : Operand} {a b : Bool} (ho : o.op = .binOp .eql t x y t₂) (hx : evO ov x = some (.bool a)) (hy : evO ov y = some (.bool b)) (hu : P.underlying t = some .bool) : ∀ tm, Rp ov tm → OpOk P o tm h (pureO h (.bool (a == b))) := fun tm hr =>
  OpOk.flat (by simp [ho]) rfl fun m w A hA => by
    have h1 := hA x (by simp [ho, Op.operands])
    have h2 := hA y (by simp [ho, Op.operands])
    rw [evO_eq hr hx] at h1
    rw [evO_eq hr hy] at h2
    have e1 := VRel.eq_of_flat h1 rfl
    have e2 := VRel.eq_of_flat h2 rfl
    simp [execOp, ho, e1, e2, eqGuard, binOp, run_equal_bool w t a b hu]
theorem GoR.boolEq {t t₂ : TypeId} {x y : Operand} {a b : Bool} (ho : o.op = .binOp .eql t x y t₂) (hd : o.dst = some d) (hN : dOk d N = true) (hgd : o.guard = none) (hx : evO ov x = some (.bool a)) (hy : evO ov y = some (.bool b)) (hu : P.underlying t = some .bool) (g : GoR P W q N ops b₀ os k ((d, .bool (a == b)) :: ov) df h Q) : GoR P W q N ops b₀ (o :: os) k ov df h Q :=
  GoR.step (r := pureO h _) hgd hd hN (S.boolEq ho hx hy hu) (.inr rfl) (fun i hi => by cases hi) g
end
end Go.Proofs.YtcilcloieilgdaaGreat
namespace Go.Proofs.YtcilcloieilgdaaGreat
class CL (P : Program) (t : TypeId) (e : outParam TypeId) (sz : outParam Nat) : Prop where
  h : ∃ z, P.underlying t = some (.slice e) ∧ zeroT P e = some z ∧ flatB z = true ∧ z.cells.toList.length = sz ∧ z.cells.toList.all Value.oneCell' = true
theorem zeros_all {z : List Value} (hz : z.all Value.oneCell' = true) (k : Nat) : (zeros z k).all Value.oneCell' = true := by
  rw [List.all_eq_true] at hz ⊢
  intro v hv
  simp only [zeros, List.mem_flatten, List.mem_replicate] at hv
  obtain ⟨l, ⟨-, rfl⟩, hv⟩ := hv
  exact hz v hv
theorem aClear_of {P : Program} {t e : TypeId} {sz : Nat} [hc : CL P t e sz] {h : AHeap} {a : Option Addr} {len n m cap c' : Nat} {cs : List Value} (hS : Sv h e sz a m cap cs) (hm : len + n = m) : ∃ h' wr, aClear P h t (.slice (subA a (len * sz)) n c') = some (h', wr) ∧ (∀ i ∈ wr, i ∈ blk a) ∧ Sv h' e sz a len cap (cs.take (len * sz)) ∧ Keeps (blk a) h h' := by
  obtain ⟨z, h1, h2, h3, h4, h5⟩ := hc.h
  have hk0 : Keeps (blk a) h h := ⟨Nat.le_refl _, fun _ _ _ => rfl⟩
  cases hS with
  | nil =>
    obtain rfl : len = 0 := by omega
    refine ⟨h, [], ?_, ?_, ?_, hk0⟩
    · simp only [aClear, h1, subA]
    · intro i hi; cases hi
    · simpa using Sv.nil
  | @mk b o _ _ c _ hg ho hl hcs =>
    subst hcs
    subst hm
    have hmul : (len + n) * sz = len * sz + n * sz := Nat.add_mul _ _ _
    have hcap : (len + n) * sz ≤ cap * sz := Nat.mul_le_mul_right _ hl
    have htt : ((c.drop o).take ((len + n) * sz)).take (len * sz) = (c.drop o).take (len * sz) := by rw [List.take_take, Nat.min_eq_left (by omega)]
    rcases Nat.eq_zero_or_pos n with h0 | h0
    · subst h0
      refine ⟨h, [], ?_, ?_, .mk hg ho (by omega) htt.symm, hk0⟩
      · simp only [aClear, h1, subA, if_true]
      · intro i hi; cases hi
    · have hz : (zeros z.cells.toList n).length = n * sz := by rw [zeros_length, h4]
      refine ⟨h.put b (some (.cells (setL c (o + len * sz) (zeros z.cells.toList n)) e)), [b], ?_, fun i hi => by simpa [blk] using hi, ?_, Nat.le_refl _, fun i hi hn => AHeap.get_put_ne _ _ (fun e => hn (by simp [blk, e]))⟩
      · simp only [aClear, h1, subA, if_neg (show ¬ n = 0 by omega), h2, hg]
        rw [if_pos ⟨h3, by rw [hz]; omega, zeros_all h5 n⟩]
      · refine .mk (AHeap.get_put_same _ (AHeap.lt hg) _) (by rw [setL_length (by rw [hz]; omega)]; exact ho) (by omega) ?_
        rw [htt]
        have := setL_end (c := c) (o := o) (l := (c.drop o).take (len * sz)) (new := zeros z.cells.toList n) (m := len * sz) rfl (by rw [hz]; omega)
        have hl2 : ((c.drop o).take (len * sz)).length = len * sz := by rw [List.length_take, List.length_drop]; omega
        have e2 := congrArg (List.take (len * sz)) this
        rw [List.take_take, Nat.min_eq_left (by omega), List.take_left' hl2] at e2
        exact e2
section
variable {P : Program} {h : AHeap} {o : Oper} {ov : Ov} {W : Nat → Prop} {q : Bool} {N : Nat} {ops : Array Oper} {os : List Oper} {k : List It} {df : List Nat} {Q : PQ}
theorem GoR.clearV {t e : TypeId} {sz : Nat} {x : Operand} {a : Option Addr} {len n m cap c' : Nat} {cs : List Value} [hc : CL P t e sz] (ho : o.op = .call { callee := .builtin .clear, args := #[x], argTypes := #[t] }) (hd : o.dst = none) (hgd : o.guard = none) (hx : evO ov x = some (.slice (subA a (len * sz)) n c')) (hS : Sv h e sz a m cap cs) (hm : len + n = m) (hw : ∀ i ∈ blk a, W i) (g : ∀ h', Sv h' e sz a len cap (cs.take (len * sz)) → Keeps (blk a) h h' → GoR P W q N ops true os k ov df h' Q) : GoR P W q N ops true (o :: os) k ov df h Q := by
  obtain ⟨h', wr, e1, e2, e3, e4⟩ := aClear_of (P := P) (c' := c') (t := t) hS hm
  exact GoR.step0 (r := ⟨undef, h', wr, wr, false, false⟩) hgd hd (fun tm hr => .write fun D W hD hW => OpRun.clear ho (by rw [evO_eq hr hx]; exact e1) hD (fun i hi => (hW i hi).2)) (.inl rfl) (fun i hi => hw i (e2 i hi)) (g h' e3 e4)
end
end Go.Proofs.YtcilcloieilgdaaGreat
namespace Go.Proofs.YtcilcloieilgdaaGreat
theorem Sv.front {h : AHeap} {e : TypeId} {sz : Nat} {a : Option Addr} {m cap : Nat} {cs : List Value} (k : Sv h e sz a m cap cs) {r : Nat} (hr : r ≤ m) : Sv h e sz a r cap (cs.take (r * sz)) := by
  cases k with
  | nil => obtain rfl : r = 0 := by omega
           simpa using Sv.nil
  | mk hg ho hl hc =>
    subst hc
    refine .mk hg ho (by omega) ?_
    rw [List.take_take, Nat.min_eq_left (Nat.mul_le_mul_right _ hr)]
theorem aAppend_in {P : Program} {h : AHeap} {t t₂ e : TypeId} {sz bytes : Nat} [hA : AP P t t₂ e sz bytes] {a a' : Option Addr} {len cap n cap' : Nat} {cs new : List Value} (hS : Sv h e sz a len cap cs) (hN : Rv P h sz a' n cap' new) (hfit : len + n ≤ cap) (hone : new.all Value.oneCell' = true) :
    ∃ h' rd wr, aAppend P h t t₂ (.slice a len cap) (.slice a' n cap') = some (.slice a (len + n) cap, h', rd, wr) ∧ (∀ i ∈ wr, i ∈ blk a) ∧ (∀ i ∈ rd, i ∈ blk a ∨ i ∈ blk a') ∧ Keeps (blk a) h h' ∧ ∀ m, len + n ≤ m → m ≤ cap → ∃ cs', Sv h' e sz a m cap cs' ∧ cs'.take ((len + n) * sz) = cs ++ new := by
  obtain ⟨inf, z, hi, rfl, rfl, hz, hsz, hzf, hzl⟩ := hA.i
  obtain ⟨e₂, hu2⟩ := hA.u2
  obtain ⟨rd₁, hsrc, hrd₁⟩ := aSrc_of hN
  have hnl := hN.length
  have hnew : aNew P h e inf t₂ (.slice a' n cap') = some (n, new, rd₁) := by simp [aNew, hu2, hsrc]
  simp only [aAppend, hA.u, hi, hz]
  rw [if_pos ⟨hsz, hzf, hzl⟩]
  simp only [hnew]
  cases hS with
  | nil =>
    have h0 : n = 0 := by omega
    subst h0
    have : new = [] := List.length_eq_zero_iff.1 (by simpa using hnl)
    subst this
    simp only [aGrow]
    rw [if_pos trivial]
    refine ⟨_, _, _, rfl, (fun i hi => by cases hi), (fun i hi => .inr (hrd₁ i hi)), ⟨Nat.le_refl _, fun i _ _ => rfl⟩, fun m h1 h2 => ?_⟩
    obtain rfl : m = 0 := by omega
    exact ⟨[], .nil, by simp⟩
  | @mk b o _ _ c _ hg ho hle hc =>
    have m : len * inf.size ≤ cap * inf.size := Nat.mul_le_mul_right _ hle
    have hcl : cs.length = len * inf.size := by subst hc; simp; omega
    simp only [aGrow]
    rw [if_pos hfit]
    have m2 : (len + n) * inf.size ≤ cap * inf.size := Nat.mul_le_mul_right _ hfit
    have m3 : (len + n) * inf.size = len * inf.size + n * inf.size := Nat.add_mul _ _ _
    by_cases he : new.isEmpty = true
    · rw [if_pos he]
      have he' : new = [] := List.isEmpty_iff.1 he
      subst he'
      have hn0 : n = 0 := by
        have : n * inf.size = 0 := by simpa using hnl.symm
        rcases Nat.mul_eq_zero.1 this with h | h <;> omega
      subst hn0
      refine ⟨_, _, _, rfl, (fun i hi => by cases hi), (fun i hi => .inr (hrd₁ i hi)), ⟨Nat.le_refl _, fun i _ _ => rfl⟩, fun m h1 h2 => ⟨_, .mk hg ho h2 rfl, ?_⟩⟩
      rw [List.append_nil, List.take_take, Nat.min_eq_left (Nat.mul_le_mul_right _ h1)]
      exact hc
    · rw [if_neg he]
      simp only [hg]
      rw [if_pos ⟨by omega, hone⟩]
      refine ⟨_, _, _, rfl, (fun i hi => by simpa [blk] using hi), (fun i hi => ?_), ⟨Nat.le_refl _, fun i _ hn => AHeap.get_put_ne _ _ fun e => hn (by simp [blk, e])⟩, fun m h1 h2 => ⟨_, .mk (get_put_self hg) (by rw [setL_length (by omega)]; exact ho) h2 rfl, ?_⟩⟩
      · rcases List.mem_cons.1 hi with rfl | hi
        · exact .inl (by simp [blk])
        · exact .inr (hrd₁ i hi)
      · rw [List.take_take, Nat.min_eq_left (Nat.mul_le_mul_right _ h1), m3, ← hnl]
        exact setL_end hc (by omega)
section
variable {P : Program} {h : AHeap} {o : Oper} {ov : Ov} {W : Nat → Prop} {q : Bool} {N : Nat} {ops : Array Oper} {os : List Oper} {k : List It} {df : List Nat} {Q : PQ} {d : Nat} {tr : List (Option LE)}
theorem GoL.appendIn {x y : Operand} {t t₂ e : TypeId} {sz bytes : Nat} {a a' : Option Addr} {len cap n cap' : Nat} {cs new : List Value} (ho : o.op = .call ⟨.builtin .append, #[x, y], #[t, t₂]⟩) (hd : o.dst = some d) (hN : dOk d N = true) (hgd : o.guard = none) (hx : evO ov x = some (.slice a len cap)) (hy : evO ov y = some (.slice a' n cap')) [hA : AP P t t₂ e sz bytes]
    (hS : Sv h e sz a len cap cs) (hT : Rv P h sz a' n cap' new) (hfit : len + n ≤ cap) (hw : ∀ i ∈ blk a, W i) (hone : new.all Value.oneCell' = true)
    (g : ∀ h' rd wr, (∀ i ∈ wr, i ∈ blk a) → (∀ i ∈ rd, i ∈ blk a ∨ i ∈ blk a') → Keeps (blk a) h h' → (∀ m, len + n ≤ m → m ≤ cap → ∃ cs', Sv h' e sz a m cap cs' ∧ cs'.take ((len + n) * sz) = cs ++ new) → GoL P W q N ops (tr ++ [some ⟨h.n, h'.n, rd, wr, false, false⟩]) os k ((d, .slice a (len + n) cap) :: ov) df h' Q) : GoL P W q N ops tr (o :: os) k ov df h Q := by
  obtain ⟨h', rd, wr, he, hwr, hrd, h5, h6⟩ := aAppend_in (P := P) (t := t) (t₂ := t₂) hS hT hfit hone
  exact GoL.append ho hd hN hgd hx hy he (fun i hi => hw i (hwr i hi)) (g h' rd wr hwr hrd h5 h6)
end
end Go.Proofs.YtcilcloieilgdaaGreat