/- The fast evaluator is sound. No conditions. -/
import Derived.Test.YtmelgnpogdilgaaAbsZB
namespace Go.Proofs.Ytmelgnpogdilgaa
set_option linter.unusedVariables false
section
variable {A B C : Type} {a : A} {P : Program} {CF : CallK A} {E : CodeK A} {ops : Array Oper} {N : Nat}
theorem putK_inv {ft : BT} {tm : List Value} {v : Value} {d : Option Tmp} {K : BT → Option A} (hr : Rep ft tm) (hN : tm.length = N) (he : putK N ft v K d = some a) : ∃ ft', Rep ft' (putT tm d v) ∧ K ft' = some a := by
  cases d with
  | none => exact ⟨ft, hr, he⟩
  | some t =>
    have he : ifK (Nat.ble (Nat.succ t) N) (BT.setK (Nat.succ t) ft t v K) none = some a := he
    obtain ⟨h1, he⟩ := ifK_yes he
    have hlt : t < N := Nat.le_of_ble_eq_true h1
    obtain ⟨t', h2, h3⟩ := BT.setK_spec (t + 1) ft t v (by omega)
    have he : BT.setK (t + 1) ft t v K = some a := he
    rw [h3] at he
    refine ⟨t', fun i => ?_, he⟩
    rw [h2]
    simp only [putT, List.getD_eq_getElem?_getD, List.getElem?_set]
    by_cases e : t = i
    · subst e; simp [hN, hlt]
    · rw [if_neg e, if_neg e, hr i]; simp
theorem putT_len {tm : List Value} {d : Option Tmp} {v : Value} : (putT tm d v).length = tm.length := by
  unfold putT
  split <;> simp
theorem yieldedV_eq {v : Value} {w : Bool} : yieldedV v w = ((match some v with | some (.bool b) => some b | _ => none) == some w) := by
  cases v with
  | bool b => cases b <;> cases w <;> rfl
  | _ => rfl
theorem wantedG_eq {ft : BT} {tm : List Value} (hr : Rep ft tm) (hN : tm.length = N) (g : Nat × Bool) : wantedG ops N ft g = (yielded ops tm.toArray g.1 == some g.2) := by
  unfold wantedG yielded
  cases ho : ops[g.1]? with
  | none => rfl
  | some o =>
    show wantedD N ft g.2 o.dst = _
    unfold wantedD
    cases hd : o.dst with
    | none => simp [hd]
    | some d =>
      show @Bool.rec (fun _ => Bool) false (yieldedV (ft.get d) g.2) (Nat.ble (d + 1) N) = _
      by_cases hlt : d < N
      · have e : tm.toArray[d]? = some (ft.get d) := by
          rw [hr d]
          have : d < tm.length := by rw [hN]; exact hlt
          simp [this]
        rw [Nat.ble_eq_true_of_le hlt]
        simp only [hd, Option.bind_some, e]
        exact yieldedV_eq
      · have e : tm.toArray[d]? = none := by simp; rw [hN]; exact Nat.le_of_not_lt hlt
        have : Nat.ble (d + 1) N = false := by
          cases hb : Nat.ble (d + 1) N with
          | false => rfl
          | true => exact absurd (Nat.le_of_ble_eq_true hb) hlt
        rw [this]
        simp only [hd, Option.bind_some, e]
        rfl
theorem wantedK_inv {ft : BT} {tm : List Value} {o : Oper} {x y : Option A} (hr : Rep ft tm) (hN : tm.length = N) (he : wantedK ops N ft x y o.guard = some a) : (Region.wanted o (yielded ops tm.toArray) = true ∧ x = some a) ∨ (Region.wanted o (yielded ops tm.toArray) = false ∧ y = some a) := by
  unfold Region.wanted
  cases hg : o.guard with
  | none => rw [hg] at he; exact .inl ⟨rfl, he⟩
  | some g =>
    rw [hg] at he
    have he : ifK (wantedG ops N ft g) x y = some a := he
    rw [wantedG_eq hr hN g] at he
    rcases ifK_inv he with ⟨h1, h2⟩ | ⟨h1, h2⟩
    · exact .inl ⟨h1, h2⟩
    · exact .inr ⟨h1, h2⟩
/-- One step of a region. -/
theorem stepK_inv {ft : BT} {tm : List Value} {o : Oper} {h : AHeap} {K : BT → AHeap → Nat → OR → Option A} (hCF : CKOk P CF) (hE : EKOk P E) (hr : Rep ft tm) (hN : tm.length = N) (he : stepK P CF E ops N o ft h K = some a) :
    ∃ ft' r, Rep ft' (putT tm o.dst r.v) ∧ K ft' r.h h.n r = some a ∧ ((Region.wanted o (yielded ops tm.toArray) = true ∧ OpOk P o tm h r) ∨ (Region.wanted o (yielded ops tm.toArray) = false ∧ r = ⟨undef, h, [], [], false, true⟩)) := by
  unfold stepK at he
  rcases wantedK_inv hr hN he with ⟨hw, he⟩ | ⟨hw, he⟩
  · obtain ⟨r, h1, h2⟩ := fOpF_sound hCF hE hr he
    obtain ⟨ft', h3, h4⟩ := putK_inv hr hN h2
    exact ⟨ft', r, h3, h4, .inl ⟨hw, h1⟩⟩
  · obtain ⟨ft', h3, h4⟩ := putK_inv hr hN he
    exact ⟨ft', ⟨undef, h, [], [], false, true⟩, h3, h4, .inr ⟨hw, rfl⟩⟩
theorem OpOk.ev {o : Oper} {tm : List Value} {h : AHeap} {r : OR} (k : OpOk P o tm h r) {W : Nat → Prop} (hW : ∀ i ∈ r.wr, W i) : OpRun P Ev W o tm h r.v r.h := k.2 Ev W (fun _ => rfl) (fun _ _ => trivial) fun i hi => ⟨trivial, hW i hi⟩
/-! ### In the order of the text -/
theorem opsK_inv (hCF : CKOk P CF) (hE : EKOk P E) : ∀ (os : List Oper) (k : Nat) (ft : BT) (tm : List Value) (h : AHeap) (wr : List Nat) (K : BT → AHeap → List Nat → Option A), ops.toList.drop k = os → Rep ft tm → tm.length = N → opsK P CF E ops N os ft h wr K = some a →
    ∃ ft' tm' h' wr', Rep ft' tm' ∧ tm'.length = N ∧ K ft' h' wr' = some a ∧ (∀ i ∈ wr, i ∈ wr') ∧ ∀ W : Nat → Prop, (∀ i ∈ wr', W i) → OpsRun P W ops (List.range' k os.length) tm h tm' h'
  | [], k, ft, tm, h, wr, K, hd, hr, hN, he => ⟨ft, tm, h, wr, hr, hN, he, fun _ hi => hi, fun W _ => .nil⟩
  | o :: os, k, ft, tm, h, wr, K, hd, hr, hN, he => by
    have he : stepK P CF E ops N o ft h (fun ft h _ r => opsK P CF E ops N os ft h (r.wr ++ wr) K) = some a := he
    obtain ⟨ft₁, r, h1, h2, h3⟩ := stepK_inv hCF hE hr hN he
    have hd' : ops.toList.drop (k + 1) = os := by rw [← List.drop_drop, hd]; rfl
    have ho : ops[k]? = some o := by
      have : (ops.toList.drop k)[0]? = some o := by rw [hd]; rfl
      simpa using this
    obtain ⟨ft', tm', h', wr', g1, g2, g3, g4, g5⟩ := opsK_inv hCF hE os (k + 1) ft₁ _ r.h (r.wr ++ wr) K hd' h1 (by rw [putT_len]; exact hN) h2
    refine ⟨ft', tm', h', wr', g1, g2, g3, fun i hi => g4 i (by simp [hi]), fun W hW => ?_⟩
    simp only [List.length_cons, List.range'_succ]
    rcases h3 with ⟨hw, hk⟩ | ⟨hw, rfl⟩
    · exact .op ho hw (hk.ev fun i hi => hW i (g4 i (by simp [hi]))) (g5 W hW)
    · exact .skip ho hw (g5 W hW)
/-! ### In any order -/
structure Tr1 where
  tm : List Value
  h : AHeap
  r : OR
theorem traceK_inv (hCF : CKOk P CF) (hE : EKOk P E) : ∀ (os : List Oper) (k : Nat) (ft : BT) (tm : List Value) (h : AHeap) (K : BT → AHeap → List (Nat × OR) → Option A), ops.toList.drop k = os → Rep ft tm → tm.length = N → traceK P CF E ops N os ft h K = some a →
    ∃ (ft' : BT) (tm' : List Value) (h' : AHeap) (ts : List Tr1), Rep ft' tm' ∧ tm'.length = N ∧ K ft' h' (ts.map fun t => (t.h.n, t.r)) = some a ∧ ts.length = os.length ∧
      (∀ j t, ts[j]? = some t → ∃ o, ops[k + j]? = some o ∧ ((Region.wanted o (yielded ops t.tm.toArray) = true ∧ OpOk P o t.tm t.h t.r) ∨ (Region.wanted o (yielded ops t.tm.toArray) = false ∧ t.r = ⟨undef, t.h, [], [], false, true⟩)) ∧
        (match ts[j + 1]? with | some u => u.tm = putT t.tm o.dst t.r.v ∧ u.h = t.r.h | none => tm' = putT t.tm o.dst t.r.v ∧ h' = t.r.h)) ∧
      (match ts[0]? with | some t => t.tm = tm ∧ t.h = h | none => tm' = tm ∧ h' = h)
  | [], k, ft, tm, h, K, hd, hr, hN, he => ⟨ft, tm, h, [], hr, hN, he, rfl, fun j t e => by simp at e, by simp⟩
  | o :: os, k, ft, tm, h, K, hd, hr, hN, he => by
    have he : stepK P CF E ops N o ft h (fun ft h n r => traceK P CF E ops N os ft h fun ft' h' rs => K ft' h' ((n, r) :: rs)) = some a := he
    obtain ⟨ft₁, r, h1, h2, h3⟩ := stepK_inv hCF hE hr hN he
    have hd' : ops.toList.drop (k + 1) = os := by rw [← List.drop_drop, hd]; rfl
    have ho : ops[k]? = some o := by
      have : (ops.toList.drop k)[0]? = some o := by rw [hd]; rfl
      simpa using this
    obtain ⟨ft', tm', h', ts, g1, g2, g3, g4, g5, g6⟩ := traceK_inv hCF hE os (k + 1) ft₁ _ r.h _ hd' h1 (by rw [putT_len]; exact hN) h2
    refine ⟨ft', tm', h', ⟨tm, h, r⟩ :: ts, g1, g2, g3, by simp [g4], fun j t e => ?_, by simp⟩
    cases j with
    | zero =>
      simp at e
      subst e
      refine ⟨o, ho, h3, ?_⟩
      simp only [Nat.zero_add, List.getElem?_cons_succ]
      cases hts : ts[0]? with
      | none => rw [hts] at g6; exact g6
      | some u => rw [hts] at g6; exact g6
    | succ j =>
      simp only [List.getElem?_cons_succ] at e
      obtain ⟨o', a1, a2, a3⟩ := g5 j t e
      refine ⟨o', by rw [← a1]; congr 1; omega, a2, ?_⟩
      simpa using a3
theorem apartRow_spec {oj : Oper} {j : Nat} : ∀ (os : List Oper) (i : Nat), apartRow ops oj j os i = true → ∀ k o, os[k]? = some o → i + k < j → bef ops (i + k) j = true ∨ o.apart ops oj = true
  | [], i, h, k, o, e, _ => by simp at e
  | x :: os, i, h, k, o, e, hlt => by
    unfold apartRow at h
    rw [Bool.and_eq_true] at h
    cases k with
    | zero =>
      simp at e; subst e
      have h1 := h.1
      simp only [Bool.or_eq_true, decide_eq_true_eq] at h1
      rcases h1 with (h1 | h1) | h1
      · omega
      · exact .inl h1
      · exact .inr h1
    | succ k =>
      have := apartRow_spec os (i + 1) h.2 k o (by simpa using e) (by omega)
      rw [show i + 1 + k = i + (k + 1) by omega] at this
      exact this
theorem apartAll_spec : ∀ (os : List Oper) (j : Nat), apartAll ops os j = true → ∀ k oj, os[k]? = some oj → apartRow ops oj (j + k) ops.toList 0 = true
  | [], j, h, k, o, e => by simp at e
  | x :: os, j, h, k, o, e => by
    unfold apartAll at h
    rw [Bool.and_eq_true] at h
    cases k with
    | zero => simp at e; subst e; exact h.1
    | succ k =>
      have := apartAll_spec os (j + 1) h.2 k o (by simpa using e)
      rw [show j + 1 + k = j + (k + 1) by omega] at this
      exact this
theorem edgeAll_spec : ∀ (os : List Oper) (j : Nat), edgeAll os j = true → ∀ k o, os[k]? = some o → ∀ e ∈ o.after, Region.binds .any e = true → e.on < j + k
  | [], j, h, k, o, e => by simp at e
  | x :: os, j, h, k, o, e => by
    unfold edgeAll at h
    rw [Bool.and_eq_true] at h
    cases k with
    | zero =>
      simp at e; subst e
      intro ed hed hb
      have := List.all_eq_true.1 h.1 ed (by simpa using hed)
      simp [hb] at this
      omega
    | succ k =>
      intro ed hed hb
      have := edgeAll_spec os (j + 1) h.2 k o (by simpa using e) ed hed hb
      omega
theorem loudRowF_spec {w : List Nat} {i : Nat} : ∀ (rs : List (Nat × OR)) (j : Nat), loudRowF ops w i rs j = true → ∀ k n r, rs[k]? = some (n, r) → loudPair ops w i (j + k) n r = true
  | [], j, h, k, n, r, e => by simp at e
  | (m, x) :: rs, j, h, k, n, r, e => by
    unfold loudRowF at h
    rw [Bool.and_eq_true] at h
    cases k with
    | zero => simp at e; obtain ⟨rfl, rfl⟩ := e; exact h.1
    | succ k =>
      have := loudRowF_spec rs (j + 1) h.2 k n r (by simpa using e)
      rw [show j + 1 + k = j + (k + 1) by omega] at this
      exact this
theorem loudOkF_spec {all : List (Nat × OR)} : ∀ (rs : List (Nat × OR)) (j : Nat), loudOkF ops all rs j = true → ∀ k n r, rs[k]? = some (n, r) → oldOf n r.wr ≠ [] → loudRowF ops (oldOf n r.wr) (j + k) all 0 = true
  | [], j, h, k, n, r, e, _ => by simp at e
  | (m, x) :: rs, j, h, k, n, r, e, hne => by
    unfold loudOkF at h
    rw [Bool.and_eq_true] at h
    cases k with
    | zero =>
      simp at e; obtain ⟨rfl, rfl⟩ := e
      have h1 := h.1
      rw [Bool.or_eq_true] at h1
      rcases h1 with h1 | h1
      · exact absurd (List.isEmpty_iff.1 h1) hne
      · exact h1
    | succ k =>
      have := loudOkF_spec rs (j + 1) h.2 k n r (by simpa using e) hne
      rw [show j + 1 + k = j + (k + 1) by omega] at this
      exact this
theorem wrOfF_mem {n : Nat} : ∀ {rs : List (Nat × OR)} {k m : Nat} {r : OR} {i : Nat}, rs[k]? = some (m, r) → i ∈ r.wr → i < n → i ∈ wrOfF n rs
  | [], k, m, r, i, e, _, _ => by simp at e
  | (m', x) :: rs, k, m, r, i, e, hi, hn => by
    unfold wrOfF
    rw [List.mem_append]
    cases k with
    | zero => simp at e; obtain ⟨rfl, rfl⟩ := e; exact .inl (by simp [oldOf, hi, hn])
    | succ k => exact .inr (wrOfF_mem (by simpa using e) hi hn)
theorem OpRun.old {D W : Nat → Prop} {o : Oper} {tm : List Value} {h h' : AHeap} {v : Value} (k : OpRun P D W o tm h v h') : OpRun P D (fun i => W i ∧ i < h.n) o tm h v h' :=
  ⟨⟨k.fr.n, fun i hi hn => k.fr.get i hi fun hw => hn ⟨hw, hi⟩, k.fr.typ, k.fr.alive, k.fr.live, k.fr.roT⟩,
   fun m w A r a b c d K Q hK => k.run m w A r a b c d K Q fun v' w' m' f x y => hK v' w' m' ⟨f.old, fun i l h1 h2 h3 => (f.new i l h1 h2 h3).imp id fun ⟨j, k, a1, a2, a3⟩ => ⟨j, k, a1, ⟨a2, a1⟩, a3⟩, fun b hb hk => f.keep b hb fun j k a1 a2 => hk j k a1 ⟨a2, a1⟩, f.size, f.os, f.tape, f.output⟩ x y⟩
/-- A region. -/
theorem regionK_sound {draw : Bool} {id : Nat} {ft : BT} {df : List Nat} {h : AHeap} {K : KC A} {q : Bool} (hCF : CKOk P CF) (hE : EKOk P E) (he : regionK P CF E ops draw N ft df h K = some a) (tm : List Value) (hN : tm.length = N) (hr : Rep ft tm) :
    ∃ x tm' ft' df' h' wr, tm'.length = N ∧ Rep ft' tm' ∧ Run P (· ∈ wr) q (.region id ops draw) ⟨tm, df, h⟩ x ⟨tm', df', h'⟩ ∧ K x ft' df' h' wr = some a := by
  unfold regionK at he
  rcases ifK_inv he with ⟨rfl, he⟩ | ⟨rfl, he⟩
  · obtain ⟨hd, he⟩ := ifK_yes he
    unfold drawOk at hd
    simp only [Bool.and_eq_true] at hd
    obtain ⟨⟨⟨hmix, hops⟩, hap⟩, hed⟩ := hd
    obtain ⟨ft', tm', h', ts, g1, g2, g3, g4, g5, g6⟩ := traceK_inv hCF hE ops.toList 0 ft tm h _ (by simp) hr hN he
    obtain ⟨hl, g3⟩ := ifK_yes g3
    have hlen : ts.length = ops.size := by simpa using g4
    -- the trace
    let T : Nat → List Value := fun k => match ts[k]? with | some t => t.tm | none => tm'
    let H : Nat → AHeap := fun k => match ts[k]? with | some t => t.h | none => h'
    let V : Nat → Value := fun k => match ts[k]? with | some t => t.r.v | none => undef
    let R : Nat → OR := fun k => match ts[k]? with | some t => t.r | none => ⟨undef, h', [], [], false, true⟩
    let D : Nat → Nat → Prop := fun k i => (R k).all = true ∨ i ∈ (R k).rd ∨ i ∈ (R k).wr ∨ ((H k).n ≤ i ∧ i < (H (k + 1)).n)
    let W : Nat → Nat → Prop := fun k i => i ∈ (R k).wr ∧ i < (H k).n
    let L : Nat → Prop := fun k => oldOf (H k).n (R k).wr ≠ []
    have at_ : ∀ k o, ops[k]? = some o → ∃ t, ts[k]? = some t ∧ T k = t.tm ∧ H k = t.h ∧ V k = t.r.v ∧ R k = t.r := fun k o ho => by
      have hlt : k < ts.length := by rw [hlen]; exact (Array.getElem?_eq_some_iff.1 ho).1
      have e : ts[k]? = some ts[k] := List.getElem?_eq_getElem hlt
      exact ⟨ts[k], e, by simp only [T, e], by simp only [H, e], by simp only [V, e], by simp only [R, e]⟩
    have nextT : ∀ k t o, ts[k]? = some t → ops[k]? = some o → T (k + 1) = putT t.tm o.dst t.r.v ∧ H (k + 1) = t.r.h := fun k t o e ho => by
      obtain ⟨o', a1, _, a3⟩ := g5 k t e
      rw [Nat.zero_add, ho] at a1
      cases a1
      cases hn : ts[k + 1]? with
      | none => rw [hn] at a3; simp only [T, H, hn]; exact a3
      | some u => rw [hn] at a3; simp only [T, H, hn]; exact a3
    have old_mem : ∀ k i, i ∈ (R k).wr → i < (H k).n → i ∈ oldOf (H k).n (R k).wr := fun k i h1 h2 => by simp [oldOf, h1, h2]
    have tr : Trace P ops T H V D W L := {
      step := fun k o ho => by
        obtain ⟨t, e, e1, e2, e3, e4⟩ := at_ k o ho
        obtain ⟨o', a1, a2, _⟩ := g5 k t e
        rw [Nat.zero_add, ho] at a1
        cases a1
        have nx := nextT k t o e ho
        rcases a2 with ⟨hw, hk⟩ | ⟨hw, hk⟩
        · refine .inl ⟨by rw [e1]; exact hw, ?_⟩
          rw [e1, e2, e3, nx.2]
          have hk2 : OpRun P (D k) (fun i => i ∈ (R k).wr) o t.tm t.h t.r.v t.r.h := ?_
          · have := hk2.old
            rw [← e2] at this
            rw [← e2]
            exact this
          refine hk.2 (D k) (fun i => i ∈ (R k).wr) (fun hall => ?_) (fun i hi => ?_) fun i hi => ⟨?_, ?_⟩
          · funext i
            apply propext
            exact ⟨fun _ => trivial, fun _ => .inl (by rw [e4]; exact hall)⟩
          · exact .inr (.inl (by rw [e4]; exact hi))
          · exact .inr (.inr (.inl (by rw [e4]; exact hi)))
          · show i ∈ (R k).wr
            rw [e4]; exact hi
        · refine .inr ⟨by rw [e1]; exact hw, by rw [e3, hk], by rw [nx.2, hk, e2]⟩
      tm := fun k o ho => by
        obtain ⟨t, e, e1, e2, e3, e4⟩ := at_ k o ho
        rw [(nextT k t o e ho).1, e1, e3]
      own := fun k hl i hi => by
        apply Classical.byContradiction
        intro hlt
        have := old_mem k i hi.1 hi.2
        exact hl fun e => by rw [e] at this; cases this
      new := fun k i h1 h2 => .inr (.inr (.inr ⟨h1, h2⟩))
      rw := fun k i _ hi => .inr (.inr (.inl hi.1))
      apart := fun i j oi oj hij hi hj => by
        have h1 := apartAll_spec ops.toList 0 hap j oj (by simpa using hj)
        rw [Nat.zero_add] at h1
        have := apartRow_spec ops.toList 0 h1 i oi (by simpa using hi) (by omega)
        rwa [Nat.zero_add] at this
      loud := fun i j hL hij his hjs h1 h2 => by
        obtain ⟨ti, ei, _, ei2, _, ei4⟩ := at_ i ops[i] (by simp [his])
        obtain ⟨tj, ej, ej1, ej2, _, ej4⟩ := at_ j ops[j] (by simp [hjs])
        have hne : oldOf ti.h.n ti.r.wr ≠ [] := by rw [← ei2, ← ei4]; exact hL
        have row := loudOkF_spec (ts.map fun t => (t.h.n, t.r)) 0 hl i ti.h.n ti.r (by simp [ei]) hne
        rw [Nat.zero_add] at row
        have pr := loudRowF_spec (ts.map fun t => (t.h.n, t.r)) 0 row j tj.h.n tj.r (by simp [ej])
        rw [Nat.zero_add] at pr
        unfold loudPair at pr
        have hij' : (i == j) = false := by simpa using hij
        rw [hij', h1, h2] at pr
        simp only [Bool.false_or, Bool.and_eq_true, Bool.not_eq_true'] at pr
        obtain ⟨⟨hsame, hall⟩, hdis⟩ := pr
        obtain ⟨o', a1, a2, _⟩ := g5 j tj ej
        rw [Nat.zero_add] at a1
        have nx := nextT j tj o' ej a1
        have hh : tj.r.same = true → tj.r.h = tj.h := fun hsm => by
          rcases a2 with ⟨_, hk⟩ | ⟨_, hk⟩
          · exact hk.1 hsm
          · rw [hk]
        refine ⟨?_, fun id hid hD => ?_⟩
        · rw [Bool.or_eq_true] at hsame
          rcases hsame with h3 | h3
          · exact .inr (by rw [nx.2, hh h3, ej2])
          · refine .inl fun hLj => hLj ?_
            rw [ej4, ej2]; exact List.isEmpty_iff.1 h3
        · have hid' : id ∈ oldOf ti.h.n ti.r.wr := by rw [← ei4, ← ei2]; exact old_mem i id hid.1 hid.2
          have hno := List.all_eq_true.1 hdis id hid'
          simp only [Bool.and_eq_true, Bool.not_eq_true', Bool.or_eq_true, decide_eq_true_eq] at hno
          obtain ⟨⟨n1, n2⟩, n3⟩ := hno
          rcases hD with h3 | h3 | h3 | h3
          · rw [ej4, hall] at h3; cases h3
          · rw [ej4] at h3
            rw [List.contains_iff_mem.2 h3] at n1; cases n1
          · rw [ej4] at h3
            rw [List.contains_iff_mem.2 h3] at n2; cases n2
          · rw [nx.2, ej2] at h3; omega
      wlt := fun k i hi => hi.2
      edge := fun k o e ho hee hb => by
        have := edgeAll_spec ops.toList 0 hed k o (by simpa using ho) e hee hb
        omega
      opds := hops }
    have hz : ts[ops.size]? = none := List.getElem?_eq_none (by omega)
    have T0 : T 0 = tm ∧ H 0 = h := by
      cases h0 : ts[0]? with
      | none => rw [h0] at g6; simp only [T, H, h0]; exact g6
      | some t => rw [h0] at g6; simp only [T, H, h0]; exact g6
    have Tn : T ops.size = tm' ∧ H ops.size = h' := by simp only [T, H, hz]; exact ⟨trivial, trivial⟩
    have run := Run.draws (q := q) (Wt := (· ∈ wrOfF h.n (ts.map fun t => (t.h.n, t.r)))) hmix tr (fun k hk hL i hi hi0 => by
      obtain ⟨t, e, _, _, _, e4⟩ := at_ k ops[k] (by simp [hk])
      rw [T0.2] at hi0
      exact wrOfF_mem (k := k) (m := t.h.n) (r := t.r) (by simp [e]) (by rw [← e4]; exact hi.1) hi0) id df
    rw [T0.1, T0.2, Tn.1, Tn.2] at run
    exact ⟨.normal, tm', ft', df, h', _, g2, g1, run, g3⟩
  · obtain ⟨hops, he⟩ := ifK_yes he
    obtain ⟨ft', tm', h', wr', g1, g2, g3, g4, g5⟩ := opsK_inv hCF hE ops.toList 0 ft tm h [] _ (by simp) hr hN he
    have run := g5 (· ∈ wr') fun _ hi => hi
    rw [← List.range_eq_range', Array.length_toList] at run
    exact ⟨.normal, tm', ft', df, h', wr', g2, g1, Run.region (s := ⟨tm, df, h⟩) hops run, g3⟩
end
end Go.Proofs.Ytmelgnpogdilgaa
