/- Walks on the abstract heap: regions are sound. No conditions. -/
import Derived.Test.YtmelgnpogdilgaaSymA
namespace Go.Proofs.Ytmelgnpogdilgaa
set_option linter.unusedVariables false
section
variable {P : Program} {Wt : Nat → Prop} {ops : Array Oper}
/-- A region that draws its order, whose trace is known. -/
theorem Run.drawn {id : Nat} {df : List Nat} {h h' : AHeap} {q : Bool} {tm tm' : List Value} {ts : List Tr1} (hd : drawOk P ops = true) (hl : loudOkF ops (ts.map fun t => (t.h.n, t.r)) (ts.map fun t => (t.h.n, t.r)) 0 = true) (hlen : ts.length = ops.size)
    (g5 : ∀ j t, ts[j]? = some t → ∃ o, ops[0 + j]? = some o ∧ ((Region.wanted o (yielded ops t.tm.toArray) = true ∧ OpOk P o t.tm t.h t.r ∧ ∀ i ∈ t.r.wr, Wt i) ∨ (Region.wanted o (yielded ops t.tm.toArray) = false ∧ t.r = ⟨undef, t.h, [], [], false, true⟩)) ∧
        (match ts[j + 1]? with | some u => u.tm = putT t.tm o.dst t.r.v ∧ u.h = t.r.h | none => tm' = putT t.tm o.dst t.r.v ∧ h' = t.r.h))
    (g6 : match ts[0]? with | some t => t.tm = tm ∧ t.h = h | none => tm' = tm ∧ h' = h) : Run P Wt q (.region id ops true) ⟨tm, df, h⟩ .normal ⟨tm', df, h'⟩ := by
  unfold drawOk at hd
  simp only [Bool.and_eq_true] at hd
  obtain ⟨⟨⟨hmix, hops⟩, hap⟩, hed⟩ := hd
  let T : Nat → List Value := fun k => match ts[k]? with | some t => t.tm | none => tm'
  let H : Nat → AHeap := fun k => match ts[k]? with | some t => t.h | none => h'
  let V : Nat → Value := fun k => match ts[k]? with | some t => t.r.v | none => undef
  let R : Nat → OR := fun k => match ts[k]? with | some t => t.r | none => ⟨undef, h', [], [], false, true⟩
  let D : Nat → Nat → Prop := fun k i => (R k).all = true ∨ i ∈ (R k).rd ∨ i ∈ (R k).wr ∨ ((H k).n ≤ i ∧ i < (H (k + 1)).n)
  let W : Nat → Nat → Prop := fun k i => i ∈ (R k).wr ∧ i < (H k).n
  let L : Nat → Prop := fun k => oldOf (H k).n (R k).wr ≠ []
  have at_ : ∀ k o, ops[k]? = some o → ∃ t, ts[k]? = some t ∧ T k = t.tm ∧ H k = t.h ∧ V k = t.r.v ∧ R k = t.r := fun k o ho => by
    have hlt : k < ts.length := by rw [hlen]; exact (Array.getElem?_eq_some_iff.1 ho).1
    have e : ts[k]? = some ts[k] := List.getElem?_eq_getElem hlt
    exact ⟨ts[k], e, by simp only [T, e], by simp only [H, e], by simp only [V, e], by simp only [R, e]⟩
  have nextT : ∀ k t o, ts[k]? = some t → ops[k]? = some o → T (k + 1) = putT t.tm o.dst t.r.v ∧ H (k + 1) = t.r.h := fun k t o e ho => by
    obtain ⟨o', a1, _, a3⟩ := g5 k t e
    rw [Nat.zero_add, ho] at a1
    cases a1
    cases hn : ts[k + 1]? with
    | none => rw [hn] at a3; simp only [T, H, hn]; exact a3
    | some u => rw [hn] at a3; simp only [T, H, hn]; exact a3
  have old_mem : ∀ k i, i ∈ (R k).wr → i < (H k).n → i ∈ oldOf (H k).n (R k).wr := fun k i h1 h2 => by simp [oldOf, h1, h2]
  have tr : Trace P ops T H V D W L := {
    step := fun k o ho => by
      obtain ⟨t, e, e1, e2, e3, e4⟩ := at_ k o ho
      obtain ⟨o', a1, a2, _⟩ := g5 k t e
      rw [Nat.zero_add, ho] at a1
      cases a1
      have nx := nextT k t o e ho
      rcases a2 with ⟨hw, hk, _⟩ | ⟨hw, hk⟩
      · refine .inl ⟨by rw [e1]; exact hw, ?_⟩
        rw [e1, e2, e3, nx.2]
        have hk2 : OpRun P (D k) (fun i => i ∈ (R k).wr) o t.tm t.h t.r.v t.r.h := ?_
        · have := hk2.old
          rw [← e2] at this
          rw [← e2]
          exact this
        refine hk.2 (D k) (fun i => i ∈ (R k).wr) (fun hall => ?_) (fun i hi => ?_) fun i hi => ⟨?_, ?_⟩
        · funext i
          apply propext
          exact ⟨fun _ => trivial, fun _ => .inl (by rw [e4]; exact hall)⟩
        · exact .inr (.inl (by rw [e4]; exact hi))
        · exact .inr (.inr (.inl (by rw [e4]; exact hi)))
        · show i ∈ (R k).wr
          rw [e4]; exact hi
      · refine .inr ⟨by rw [e1]; exact hw, by rw [e3, hk], by rw [nx.2, hk, e2]⟩
    tm := fun k o ho => by
      obtain ⟨t, e, e1, e2, e3, e4⟩ := at_ k o ho
      rw [(nextT k t o e ho).1, e1, e3]
    own := fun k hl i hi => by
      apply Classical.byContradiction
      intro hlt
      have := old_mem k i hi.1 hi.2
      exact hl fun e => by rw [e] at this; cases this
    new := fun k i h1 h2 => .inr (.inr (.inr ⟨h1, h2⟩))
    rw := fun k i _ hi => .inr (.inr (.inl hi.1))
    apart := fun i j oi oj hij hi hj => by
      have h1 := apartAll_spec ops.toList 0 hap j oj (by simpa using hj)
      rw [Nat.zero_add] at h1
      have := apartRow_spec ops.toList 0 h1 i oi (by simpa using hi) (by omega)
      rwa [Nat.zero_add] at this
    loud := fun i j hL hij his hjs h1 h2 => by
      obtain ⟨ti, ei, _, ei2, _, ei4⟩ := at_ i ops[i] (by simp [his])
      obtain ⟨tj, ej, ej1, ej2, _, ej4⟩ := at_ j ops[j] (by simp [hjs])
      have hne : oldOf ti.h.n ti.r.wr ≠ [] := by rw [← ei2, ← ei4]; exact hL
      have row := loudOkF_spec (ts.map fun t => (t.h.n, t.r)) 0 hl i ti.h.n ti.r (by simp [ei]) hne
      rw [Nat.zero_add] at row
      have pr := loudRowF_spec (ts.map fun t => (t.h.n, t.r)) 0 row j tj.h.n tj.r (by simp [ej])
      rw [Nat.zero_add] at pr
      unfold loudPair at pr
      have hij' : (i == j) = false := by simpa using hij
      rw [hij', h1, h2] at pr
      simp only [Bool.false_or, Bool.and_eq_true, Bool.not_eq_true'] at pr
      obtain ⟨⟨hsame, hall⟩, hdis⟩ := pr
      obtain ⟨o', a1, a2, _⟩ := g5 j tj ej
      rw [Nat.zero_add] at a1
      have nx := nextT j tj o' ej a1
      have hh : tj.r.same = true → tj.r.h = tj.h := fun hsm => by
        rcases a2 with ⟨_, hk, _⟩ | ⟨_, hk⟩
        · exact hk.1 hsm
        · rw [hk]
      refine ⟨?_, fun id hid hD => ?_⟩
      · rw [Bool.or_eq_true] at hsame
        rcases hsame with h3 | h3
        · exact .inr (by rw [nx.2, hh h3, ej2])
        · refine .inl fun hLj => hLj ?_
          rw [ej4, ej2]; exact List.isEmpty_iff.1 h3
      · have hid' : id ∈ oldOf ti.h.n ti.r.wr := by rw [← ei4, ← ei2]; exact old_mem i id hid.1 hid.2
        have hno := List.all_eq_true.1 hdis id hid'
        simp only [Bool.and_eq_true, Bool.not_eq_true', Bool.or_eq_true, decide_eq_true_eq] at hno
        obtain ⟨⟨n1, n2⟩, n3⟩ := hno
        rcases hD with h3 | h3 | h3 | h3
        · rw [ej4, hall] at h3; cases h3
        · rw [ej4] at h3
          rw [List.contains_iff_mem.2 h3] at n1; cases n1
        · rw [ej4] at h3
          rw [List.contains_iff_mem.2 h3] at n2; cases n2
        · rw [nx.2, ej2] at h3; omega
    wlt := fun k i hi => hi.2
    edge := fun k o e ho hee hb => by
      have := edgeAll_spec ops.toList 0 hed k o (by simpa using ho) e hee hb
      omega
    opds := hops }
  have hz : ts[ops.size]? = none := List.getElem?_eq_none (by omega)
  have T0 : T 0 = tm ∧ H 0 = h := by
    cases h0 : ts[0]? with
    | none => rw [h0] at g6; simp only [T, H, h0]; exact g6
    | some t => rw [h0] at g6; simp only [T, H, h0]; exact g6
  have Tn : T ops.size = tm' ∧ H ops.size = h' := by simp only [T, H, hz]; exact ⟨trivial, trivial⟩
  have run := Run.draws (q := q) (Wt := Wt) hmix tr (fun k hk hL i hi hi0 => by
    obtain ⟨t, e, _, _, _, e4⟩ := at_ k ops[k] (by simp [hk])
    obtain ⟨o', a1, a2, _⟩ := g5 k t e
    have hi1 : i ∈ t.r.wr := by rw [← e4]; exact hi.1
    rcases a2 with ⟨_, _, hW⟩ | ⟨_, hk⟩
    · exact hW i hi1
    · rw [hk] at hi1; cases hi1) id df
  rw [T0.1, T0.2, Tn.1, Tn.2] at run
  exact run
end
theorem loudOkF_quiet {ops : Array Oper} {all : List (Nat × OR)} : ∀ (rs : List (Nat × OR)) (i : Nat), (∀ e ∈ rs, e.2.wr = []) → loudOkF ops all rs i = true
  | [], _, _ => rfl
  | (n, r) :: rs, i, h => by
    have h1 : r.wr = [] := h (n, r) (by simp)
    have h2 := loudOkF_quiet (ops := ops) (all := all) rs (i + 1) fun e he => h e (by simp [he])
    simp only [loudOkF, oldOf, h1, h2]
    rfl
/-! ### A region under way -/
def fin (ops : Array Oper) (b : Bool) (l : List (Nat × OR)) : Prop := match b with
  | true => True
  | false => ∀ e ∈ l, e.2.wr = []
/-- In the order of the text (b), or in any order, where nothing is written. -/
def GoR (P : Program) (W : Nat → Prop) (q : Bool) (N : Nat) (ops : Array Oper) (b : Bool) (os : List Oper) (k : List It) (ov : Ov) (df : List Nat) (h : AHeap) (Q : PQ) : Prop :=
  ∀ tm : List Value, tm.length = N → Rp ov tm → RdP P W ops os tm h fun tm' h' l => fin ops b l ∧ Gx P W q k .normal tm' df h' Q
/-- What is told of an operation, for the look at what may meet: nothing, if it looks at no memory. -/
structure LE where
  n : Nat
  n' : Nat
  rd : List Nat
  wr : List Nat
  all : Bool
  same : Bool
def Mt1 (n : Nat) (r : OR) : Option LE → Prop
  | none => r.rd = [] ∧ r.wr = [] ∧ r.all = false ∧ r.same = true ∧ r.h.n = n
  | some e => e.n = n ∧ e.n' = r.h.n ∧ r.rd = e.rd ∧ r.wr = e.wr ∧ r.all = e.all ∧ r.same = e.same
def MtL : List (Nat × OR) → List (Option LE) → Prop
  | [], [] => True
  | (n, r) :: l, x :: xs => Mt1 n r x ∧ MtL l xs
  | _, _ => False
def pairP (ops : Array Oper) (w : List Nat) (i j : Nat) : Option LE → Prop
  | none => True
  | some e => (i == j || bef ops i j || bef ops j i) = true ∨ ((e.same = true ∨ ∀ b ∈ e.wr, e.n ≤ b) ∧ e.all = false ∧ ∀ b ∈ w, b ∉ e.rd ∧ b ∉ e.wr ∧ (b < e.n ∨ e.n' ≤ b))
def loudRowP (ops : Array Oper) (w : List Nat) (i : Nat) : List (Option LE) → Nat → Prop
  | [], _ => True
  | e :: es, j => pairP ops w i j e ∧ loudRowP ops w i es (j + 1)
def loudP (ops : Array Oper) (all : List (Option LE)) : List (Option LE) → Nat → Prop
  | [], _ => True
  | none :: es, i => loudP ops all es (i + 1)
  | some e :: es, i => ((∀ b ∈ e.wr, e.n ≤ b) ∨ loudRowP ops e.wr i all 0) ∧ loudP ops all es (i + 1)
theorem pairP_ok {ops : Array Oper} {w w' : List Nat} {i j n : Nat} {r : OR} {x : Option LE} (hm : Mt1 n r x) (hw : ∀ b ∈ w', b ∈ w) (h : pairP ops w i j x) : loudPair ops w' i j n r = true := by
  unfold loudPair
  cases x with
  | none =>
    obtain ⟨h1, h2, h3, h4, h5⟩ := hm
    rw [h1, h2, h3, h4, h5]
    simp only [Bool.or_eq_true]
    right
    simp only [Bool.true_or, Bool.not_false, Bool.and_self, Bool.true_and, List.all_eq_true]
    intro b _
    simp
    omega
  | some e =>
    obtain ⟨h1, h2, h3, h4, h5, h6⟩ := hm
    rcases h with h | ⟨a1, a2, a3⟩
    · simp only [Bool.or_eq_true] at h ⊢
      exact .inl h
    · simp only [Bool.or_eq_true]
      right
      subst h1
      rw [h3, h4, h5, h6, ← h2, a2]
      simp only [Bool.and_eq_true, Bool.not_false, and_true, List.all_eq_true, Bool.or_eq_true]
      refine ⟨?_, fun b hb => ?_⟩
      · rcases a1 with a1 | a1
        · exact .inl a1
        · right
          rw [List.isEmpty_iff]
          unfold oldOf
          rw [List.filter_eq_nil_iff]
          intro b hb
          have := a1 b hb
          simp; omega
      · obtain ⟨b1, b2, b3⟩ := a3 b (hw b hb)
        refine ⟨⟨?_, ?_⟩, ?_⟩
        · simpa using b1
        · simpa using b2
        · rcases b3 with b3 | b3
          · exact .inl (by simpa using b3)
          · exact .inr (by simpa using b3)
theorem loudRowP_ok {ops : Array Oper} {w w' : List Nat} {i : Nat} (hw : ∀ b ∈ w', b ∈ w) : ∀ {l : List (Nat × OR)} {xs : List (Option LE)} {j : Nat}, MtL l xs → loudRowP ops w i xs j → loudRowF ops w' i l j = true
  | [], [], _, _, _ => rfl
  | (n, r) :: l, x :: xs, j, hm, h => by
    unfold loudRowF
    rw [Bool.and_eq_true]
    exact ⟨pairP_ok hm.1 hw h.1, loudRowP_ok hw hm.2 h.2⟩
  | [], _ :: _, _, hm, _ => hm.elim
  | _ :: _, [], _, hm, _ => hm.elim
theorem loudP_ok {ops : Array Oper} {all : List (Nat × OR)} {xall : List (Option LE)} (ha : MtL all xall) : ∀ {l : List (Nat × OR)} {xs : List (Option LE)} {i : Nat}, MtL l xs → loudP ops xall xs i → loudOkF ops all l i = true
  | [], [], _, _, _ => rfl
  | (n, r) :: l, none :: xs, i, hm, h => by
    unfold loudOkF
    rw [Bool.and_eq_true]
    refine ⟨?_, loudP_ok ha hm.2 h⟩
    have : r.wr = [] := hm.1.2.1
    simp [oldOf, this]
  | (n, r) :: l, some e :: xs, i, hm, h => by
    unfold loudOkF
    rw [Bool.and_eq_true]
    refine ⟨?_, loudP_ok ha hm.2 h.2⟩
    obtain ⟨h1, _, _, h4, _, _⟩ := hm.1
    rcases h.1 with h5 | h5
    · rw [Bool.or_eq_true]
      left
      rw [List.isEmpty_iff]
      unfold oldOf
      rw [List.filter_eq_nil_iff]
      intro b hb
      have := h5 b (h4 ▸ hb)
      simp; omega
    · rw [Bool.or_eq_true]
      right
      exact loudRowP_ok (fun b hb => by unfold oldOf at hb; rw [← h4]; exact (List.mem_filter.1 hb).1) ha h5
  | [], _ :: _, _, hm, _ => hm.elim
  | _ :: _, [], _, hm, _ => hm.elim
/-- In any order, with what is told of what was done so far. -/
def GoL (P : Program) (W : Nat → Prop) (q : Bool) (N : Nat) (ops : Array Oper) (tr : List (Option LE)) (os : List Oper) (k : List It) (ov : Ov) (df : List Nat) (h : AHeap) (Q : PQ) : Prop :=
  ∀ tm : List Value, tm.length = N → Rp ov tm → RdP P W ops os tm h fun tm' h' l => (∃ tl, MtL l tl ∧ loudP ops (tr ++ tl) (tr ++ tl) 0) ∧ Gx P W q k .normal tm' df h' Q
section
variable {P : Program} {W : Nat → Prop} {q : Bool} {N : Nat} {k : List It} {ov : Ov} {df : List Nat} {h : AHeap} {Q : PQ} {id : Nat} {ops : Array Oper} {os : List Oper}
theorem Go.region (hk : opsOk P ops = true) (ho : ops.toList = os) (g : GoR P W q N ops true os k ov df h Q) : Go P W q N (.code (.region id ops false) :: k) .normal ov df h Q := by
  subst ho
  refine Go.code fun tm hN hr => ?_
  obtain ⟨tm', h', l, ⟨_, g1⟩, g2, g3⟩ := RdP.inOrder (k := 0) (by simp) (g tm hN hr)
  rw [← List.range_eq_range', Array.length_toList] at g3
  exact ⟨.normal, tm', df, h', Run.region (s := ⟨tm, df, h⟩) hk g3, g2, g1⟩
theorem Go.drawn (hk : drawOk P ops = true) (ho : ops.toList = os) (g : GoR P W q N ops false os k ov df h Q) : Go P W q N (.code (.region id ops true) :: k) .normal ov df h Q := by
  subst ho
  refine Go.code fun tm hN hr => ?_
  obtain ⟨tm', h', ts, ⟨f, g1⟩, g2, g3, g4, g5⟩ := RdP.trace (k := 0) (by simp) (g tm hN hr)
  exact ⟨.normal, tm', df, h', Run.drawn hk (loudOkF_quiet _ _ f) (by simpa using g3) g4 g5, g2, g1⟩
theorem Go.loud (hk : drawOk P ops = true) (ho : ops.toList = os) (g : GoL P W q N ops [] os k ov df h Q) : Go P W q N (.code (.region id ops true) :: k) .normal ov df h Q := by
  subst ho
  refine Go.code fun tm hN hr => ?_
  obtain ⟨tm', h', ts, ⟨f, g1⟩, g2, g3, g4, g5⟩ := RdP.trace (k := 0) (by simp) (g tm hN hr)
  obtain ⟨tl, f1, f2⟩ := f
  exact ⟨.normal, tm', df, h', Run.drawn hk (loudP_ok f1 f1 (by simpa using f2)) (by simpa using g3) g4 g5, g2, g1⟩
theorem GoR.end {b : Bool} (g : Go P W q N k .normal ov df h Q) : GoR P W q N ops b [] k ov df h Q := fun tm hN hr => ⟨by cases b <;> simp [fin], g tm hN hr⟩
theorem GoL.end {tr : List (Option LE)} (hl : loudP ops tr tr 0) (g : Go P W q N k .normal ov df h Q) : GoL P W q N ops tr [] k ov df h Q := fun tm hN hr => ⟨⟨[], trivial, by simpa using hl⟩, g tm hN hr⟩
variable {o : Oper} {d : Nat} {r : OR}
theorem GoR.step {b : Bool} (hg : o.guard = none) (hd : o.dst = some d) (hN : dOk d N = true) (hr : ∀ tm, Rp ov tm → OpOk P o tm h r) (hq : b = true ∨ r.wr = []) (hW : ∀ i ∈ r.wr, W i) (g : GoR P W q N ops b os k ((d, r.v) :: ov) df r.h Q) : GoR P W q N ops b (o :: os) k ov df h Q := fun tm hN' hrp => by
  refine ⟨r, .inl ⟨by simp [Region.wanted, hg], hr tm hrp, hW⟩, ?_⟩
  rw [hd]
  refine (g _ (by rw [putT_len]; exact hN') (hrp.put hN' hN _)).mono fun tm' h' l ⟨f, g'⟩ => ⟨?_, g'⟩
  cases b with
  | true => trivial
  | false => rcases hq with hq | hq
             · cases hq
             · intro e he
               rcases List.mem_cons.1 he with rfl | he
               · exact hq
               · exact f e he
theorem GoR.step0 {b : Bool} (hg : o.guard = none) (hd : o.dst = none) (hr : ∀ tm, Rp ov tm → OpOk P o tm h r) (hq : b = true ∨ r.wr = []) (hW : ∀ i ∈ r.wr, W i) (g : GoR P W q N ops b os k ov df r.h Q) : GoR P W q N ops b (o :: os) k ov df h Q := fun tm hN' hrp => by
  refine ⟨r, .inl ⟨by simp [Region.wanted, hg], hr tm hrp, hW⟩, ?_⟩
  rw [hd]
  refine (g tm hN' hrp).mono fun tm' h' l ⟨f, g'⟩ => ⟨?_, g'⟩
  cases b with
  | true => trivial
  | false => rcases hq with hq | hq
             · cases hq
             · intro e he
               rcases List.mem_cons.1 he with rfl | he
               · exact hq
               · exact f e he
theorem GoL.step {tr : List (Option LE)} (x : Option LE) (hx : Mt1 h.n r x) (hg : o.guard = none) (hd : o.dst = some d) (hN : dOk d N = true) (hr : ∀ tm, Rp ov tm → OpOk P o tm h r) (hW : ∀ i ∈ r.wr, W i) (g : GoL P W q N ops (tr ++ [x]) os k ((d, r.v) :: ov) df r.h Q) : GoL P W q N ops tr (o :: os) k ov df h Q := fun tm hN' hrp => by
  refine ⟨r, .inl ⟨by simp [Region.wanted, hg], hr tm hrp, hW⟩, ?_⟩
  rw [hd]
  refine (g _ (by rw [putT_len]; exact hN') (hrp.put hN' hN _)).mono fun tm' h' l ⟨⟨tl, f1, f2⟩, g'⟩ => ⟨⟨x :: tl, ⟨hx, f1⟩, by simpa using f2⟩, g'⟩
theorem GoL.step0 {tr : List (Option LE)} (x : Option LE) (hx : Mt1 h.n r x) (hg : o.guard = none) (hd : o.dst = none) (hr : ∀ tm, Rp ov tm → OpOk P o tm h r) (hW : ∀ i ∈ r.wr, W i) (g : GoL P W q N ops (tr ++ [x]) os k ov df r.h Q) : GoL P W q N ops tr (o :: os) k ov df h Q := fun tm hN' hrp => by
  refine ⟨r, .inl ⟨by simp [Region.wanted, hg], hr tm hrp, hW⟩, ?_⟩
  rw [hd]
  refine (g tm hN' hrp).mono fun tm' h' l ⟨⟨tl, f1, f2⟩, g'⟩ => ⟨⟨x :: tl, ⟨hx, f1⟩, by simpa using f2⟩, g'⟩
/-! Guards -/
theorem yielded_of {tm : List Value} (hr : Rp ov tm) {j t : Nat} {oj : Oper} {B : Bool} (hj : ops[j]? = some oj) (hd : oj.dst = some t) (hv : ov.find t = some (.bool B)) : yielded ops tm.toArray j = some B := by
  have h1 := hr t _ hv
  rw [List.getD_eq_getElem?_getD] at h1
  cases hx : tm[t]? with
  | none => rw [hx] at h1; simp [undef] at h1
  | some u =>
    rw [hx] at h1
    simp at h1
    subst h1
    simp [yielded, hj, hd, hx]
theorem GoR.unwanted {b : Bool} {j t : Nat} {w B : Bool} {oj : Oper} (hg : o.guard = some (j, w)) (hj : ops[j]? = some oj) (hdj : oj.dst = some t) (hv : ov.find t = some (.bool B)) (hB : B = !w) (hd : o.dst = some d) (hN : dOk d N = true) (g : GoR P W q N ops b os k ((d, undef) :: ov) df h Q) : GoR P W q N ops b (o :: os) k ov df h Q := fun tm hN' hrp => by
  refine ⟨⟨undef, h, [], [], false, true⟩, .inr ⟨by simp [Region.wanted, hg, yielded_of hrp hj hdj hv, hB], rfl⟩, ?_⟩
  rw [hd]
  refine (g _ (by rw [putT_len]; exact hN') (hrp.put hN' hN _)).mono fun tm' h' l ⟨f, g'⟩ => ⟨?_, g'⟩
  cases b with
  | true => trivial
  | false => intro e he
             rcases List.mem_cons.1 he with rfl | he
             · rfl
             · exact f e he
theorem GoR.unwanted0 {b : Bool} {j t : Nat} {w B : Bool} {oj : Oper} (hg : o.guard = some (j, w)) (hj : ops[j]? = some oj) (hdj : oj.dst = some t) (hv : ov.find t = some (.bool B)) (hB : B = !w) (hd : o.dst = none) (g : GoR P W q N ops b os k ov df h Q) : GoR P W q N ops b (o :: os) k ov df h Q := fun tm hN' hrp => by
  refine ⟨⟨undef, h, [], [], false, true⟩, .inr ⟨by simp [Region.wanted, hg, yielded_of hrp hj hdj hv, hB], rfl⟩, ?_⟩
  rw [hd]
  refine (g tm hN' hrp).mono fun tm' h' l ⟨f, g'⟩ => ⟨?_, g'⟩
  cases b with
  | true => trivial
  | false => intro e he
             rcases List.mem_cons.1 he with rfl | he
             · rfl
             · exact f e he
theorem GoL.unwanted {tr : List (Option LE)} {j t : Nat} {w B : Bool} {oj : Oper} (hg : o.guard = some (j, w)) (hj : ops[j]? = some oj) (hdj : oj.dst = some t) (hv : ov.find t = some (.bool B)) (hB : B = !w) (hd : o.dst = some d) (hN : dOk d N = true) (g : GoL P W q N ops (tr ++ [none]) os k ((d, undef) :: ov) df h Q) : GoL P W q N ops tr (o :: os) k ov df h Q := fun tm hN' hrp => by
  refine ⟨⟨undef, h, [], [], false, true⟩, .inr ⟨by simp [Region.wanted, hg, yielded_of hrp hj hdj hv, hB], rfl⟩, ?_⟩
  rw [hd]
  refine (g _ (by rw [putT_len]; exact hN') (hrp.put hN' hN _)).mono fun tm' h' l ⟨⟨tl, f1, f2⟩, g'⟩ => ⟨⟨none :: tl, ⟨⟨rfl, rfl, rfl, rfl, rfl⟩, f1⟩, by simpa using f2⟩, g'⟩
/-- A guard that holds is no guard. -/
theorem OpOk.unguard {tm : List Value} {g : Option (Nat × Bool)} (hr : OpOk P { o with guard := g } tm h r) : OpOk P o tm h r :=
  ⟨hr.1, fun D W' a b c => ⟨(hr.2 D W' a b c).fr, fun m w A r' x1 x2 x3 x4 K Q' hK => (hr.2 D W' a b c).run m w A r' x1 x2 x3 x4 K Q' hK⟩⟩
end
end Go.Proofs.Ytmelgnpogdilgaa
