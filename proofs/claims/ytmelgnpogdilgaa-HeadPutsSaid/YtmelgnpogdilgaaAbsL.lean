/- Regions that draw their order: one trace in the order of the text serves every order (the proof). No conditions. -/
import Derived.Test.YtmelgnpogdilgaaAbsK
namespace Go.Proofs.Ytmelgnpogdilgaa
set_option linter.unusedVariables false
section
variable {P : Program} {ops : Array Oper} {T : Nat → List Value} {H : Nat → AHeap} {V : Nat → Value} {D W : Nat → Nat → Prop} {L : Nat → Prop} {Wt : Nat → Prop} {m₀ m : Mp} {w₀ w : World} {ds : List Deferred} {listed : Array Bool} {A : Act}
theorem lst_set {listed : Array Bool} {j : Nat} (hj : j < listed.size) (i : Nat) : lst (listed.setIfInBounds j true) i ↔ lst listed i ∨ i = j := by
  unfold lst
  by_cases e : j = i
  · subst e; simp [hj]
  · rw [getD_set_ne false e]
    constructor
    · exact .inl
    · rintro (h | h)
      · exact h
      · exact absurd h.symm e
theorem Inv.ready (I : Inv P ops T H W L Wt m₀ w₀ ds listed m A w) {j : Nat} {o : Oper} (hj : j ∈ Region.ready .any ops listed) (ho : ops[j]? = some o) : j < ops.size ∧ ¬ lst listed j ∧ ∀ i, bef ops i j = true → lst listed i := by
  obtain ⟨h0, o', ho', hall⟩ := mem_ready.1 hj
  rw [ho] at ho'; cases ho'
  have hlt : j < ops.size := (Array.getElem?_eq_some_iff.1 ho).1
  refine ⟨hlt, ?_, fun i hi => ?_⟩
  · unfold lst
    have hl : j < listed.size := by rw [I.sz]; exact hlt
    simp [hl] at h0 ⊢
    exact h0
  · obtain ⟨e, he, hb, h1⟩ := bef_edge ho hi
    have := hall e he hb
    rcases h1 with rfl | h1
    · exact this
    · exact I.down i e.on this h1
theorem Inv.hrel (t : Trace P ops T H V D W L) (I : Inv P ops T H W L Wt m₀ w₀ ds listed m A w) {j : Nat} (hlt : j < ops.size) (hn : ¬ lst listed j) (hp : ∀ i, bef ops i j = true → lst listed i) : HRel P m (D j) (H j) w := by
  refine ⟨I.lt, I.typ j (by omega), I.inj j (by omega), I.roS j (by omega), fun i l o hd hm hg => I.obj j (by omega) i l o ⟨fun k hk hl hw => ?_, fun k hk hk2 hl hw => ?_⟩ hm hg⟩
  · cases hb : bef ops k j with
    | true => exact hp k hb
    | false =>
      cases hb2 : bef ops j k with
      | true =>
        exfalso
        obtain ⟨e, he, hbind, h1⟩ := bef_edge (ops := ops) (j := k) (o := ops[k]) (by simp) hb2
        have key : ∀ q, q ≤ k → bef ops j q = true → j < q := by
          intro q
          induction q using Nat.strongRecOn with
          | _ q ih =>
            intro hq hbq
            obtain ⟨e, he, hbind, h1⟩ := bef_edge (ops := ops) (j := q) (o := ops[q]) (by simp) hbq
            have := t.edge q ops[q] e (by simp) he hbind
            rcases h1 with rfl | h1
            · exact this
            · have := ih e.on this (by omega) h1; omega
        have := key k (Nat.le_refl _) hb2
        omega
      | false => exact absurd hd ((t.loud k j hl (by omega) (by omega) hlt hb hb2).2 i hw)
  · by_cases e : k = j
    · subst e; exact hn
    · intro hs
      cases hb : bef ops j k with
      | true => exact hn (I.down j k hs hb)
      | false =>
        cases hb2 : bef ops k j with
        | true =>
          have key : ∀ q, q ≤ j → bef ops k q = true → k < q := by
            intro q
            induction q using Nat.strongRecOn with
            | _ q ih =>
              intro hq hbq
              obtain ⟨e, he, hbind, h1⟩ := bef_edge (ops := ops) (j := q) (o := ops[q]) (by simp) hbq
              have := t.edge q ops[q] e (by simp) he hbind
              rcases h1 with rfl | h1
              · exact this
              · have := ih e.on this (by omega) h1; omega
          have := key j (Nat.le_refl _) hb2
          omega
        | false => exact absurd hd ((t.loud k j hl e hk2 hlt hb2 hb).2 i hw)
theorem Inv.curT (t : Trace P ops T H V D W L) (I : Inv P ops T H W L Wt m₀ w₀ ds listed m A w) {j : Nat} {o : Oper} (ho : ops[j]? = some o) (hn : ¬ lst listed j) (hp : ∀ i, bef ops i j = true → lst listed i) {q : Nat} (hq : q ∈ o.looksAt ops) : CurT ops listed j q := by
  refine ⟨fun i oi hi hoi hd => ?_, fun i oi hi hoi hd => ?_⟩
  · rcases t.apart i j oi o hi hoi ho with h | h
    · exact hp i h
    · exact absurd hq ((Oper.apart_spec h).1 q hd)
  · by_cases e : i = j
    · subst e; exact hn
    · intro hs
      rcases t.apart j i o oi (by omega) ho hoi with h | h
      · exact hn (I.down j i hs h)
      · exact (Oper.apart_spec h).2.2 q hd hq
theorem Inv.opds (t : Trace P ops T H V D W L) (I : Inv P ops T H W L Wt m₀ w₀ ds listed m A w) (hm : MOk P m) {j : Nat} {o : Oper} (ho : ops[j]? = some o) (hn : ¬ lst listed j) (hp : ∀ i, bef ops i j = true → lst listed i) : ∀ x ∈ o.op.operands, VRel m (evalT (T j) x) (A.eval x) := fun x hx => by
  have hlt : j < ops.size := (Array.getElem?_eq_some_iff.1 ho).1
  refine opd_rel hm ?_ fun q e => I.tv j q (by omega) (I.curT t ho hn hp ?_)
  · have := List.all_eq_true.1 t.opds o (by simpa using Array.mem_of_getElem? ho)
    exact List.all_eq_true.1 this x (by simpa using hx)
  · subst e
    exact List.mem_append_left _ (List.mem_filterMap.2 ⟨.tmp q, by simpa using hx, rfl⟩)
theorem yielded_rel {tm : List Value} {A : Act} (hl : A.tmps.size = tm.length) (g : Nat) (hr : ∀ d, (ops[g]?).bind (·.dst) = some d → VRel m (tm.getD d undef) (A.tmps.getD d undef)) : yielded ops A.tmps g = yielded ops tm.toArray g := by
  unfold yielded
  cases hd : (ops[g]?).bind (·.dst) with
  | none => rfl
  | some d =>
    have h := hr d hd
    simp only [Option.bind_some]
    by_cases hlt : d < tm.length
    · have h1 : A.tmps[d]? = some (A.tmps.getD d undef) := by simp [hl, hlt]
      have h2 : tm.toArray[d]? = some (tm.getD d undef) := by simp [hlt]
      rw [h1, h2]
      generalize tm.getD d undef = u at h
      generalize A.tmps.getD d undef = u' at h
      cases h <;> rfl
    · have h1 : A.tmps[d]? = none := Array.getElem?_eq_none (by rw [hl]; exact Nat.le_of_not_lt hlt)
      have h2 : tm.toArray[d]? = none := Array.getElem?_eq_none (by simpa using Nat.le_of_not_lt hlt)
      rw [h1, h2]
theorem Inv.wanted (t : Trace P ops T H V D W L) (I : Inv P ops T H W L Wt m₀ w₀ ds listed m A w) {j : Nat} {o : Oper} (ho : ops[j]? = some o) (hn : ¬ lst listed j) (hp : ∀ i, bef ops i j = true → lst listed i) : Region.wanted o (yielded ops A.tmps) = Region.wanted o (yielded ops (T j).toArray) := by
  have hlt : j < ops.size := (Array.getElem?_eq_some_iff.1 ho).1
  unfold Region.wanted
  cases hg : o.guard with
  | none => rfl
  | some gw =>
    obtain ⟨g, want⟩ := gw
    simp only
    rw [yielded_rel (m := m) (by rw [I.tl, t.tmLen (Nat.zero_le j) (by omega)]) g fun d hd => I.tv j d (by omega) (I.curT t ho hn hp (by simp [Oper.looksAt, hg, hd]))]
/-- One more operation has come up. -/
theorem Inv.more (t : Trace P ops T H V D W L) (hWt : ∀ k, k < ops.size → L k → ∀ i, W k i → i < (H 0).n → Wt i) (I : Inv P ops T H W L Wt m₀ w₀ ds listed m A w) {j : Nat} {o : Oper} (ho : ops[j]? = some o) (hn : ¬ lst listed j) (hp : ∀ i, bef ops i j = true → lst listed i)
    {m' : Mp} {w' : World} {v' : Value} (hf : Fr m m' (W j) (H j) (H (j + 1)) w w') (hv : VRel m' (V j) v') (hh : HRel P m' (D j) (H (j + 1)) w') :
    Inv P ops T H W L Wt m₀ w₀ ds (listed.setIfInBounds j true) m' (A.put o.dst v') w' := by
  have hlt : j < ops.size := (Array.getElem?_eq_some_iff.1 ho).1
  have hls : j < listed.size := by rw [I.sz]; exact hlt
  have hset := lst_set hls
  have hn1 := (t.fr hlt).n
  have hn0 := t.n (Nat.zero_le j) (by omega)
  have hnn := t.n (show j + 1 ≤ ops.size by omega) (Nat.le_refl _)
  have hfresh : Fresh m (H j) (H (j + 1)) := fun i h1 h2 => I.m2 j hlt hn i h1 h2
  have hle : m.le m' := hf.le hfresh
  have key : ∀ a b, bef ops a b = true → b < ops.size → a < b := by
    intro a b
    induction b using Nat.strongRecOn with
    | _ b ih =>
      intro hb hbs
      obtain ⟨e, he, hbind, h1⟩ := bef_edge (ops := ops) (j := b) (o := ops[b]) (by simp [hbs]) hb
      have := t.edge b ops[b] e (by simp [hbs]) he hbind
      rcases h1 with rfl | h1
      · exact this
      · have := ih e.on this h1 (by omega); omega
  -- what has come up is ordered: nothing behind j that waits for it
  have hlsz : ∀ i, lst listed i → i < ops.size := fun i hi => by
    rcases Nat.lt_or_ge i ops.size with h | h
    · exact h
    · unfold lst at hi; rw [Array.getD_eq_getD_getElem?, Array.getElem?_eq_none (by rw [I.sz]; exact h)] at hi; simp at hi
  have hout : ∀ i, lst listed i → bef ops j i = false := fun i hi => by
    cases hb : bef ops j i with
    | false => rfl
    | true => exact absurd (I.down j i hi hb) hn
  -- what j makes no loud one behind it that has come up writes
  have hquiet : ∀ i id, (H j).n ≤ id → id < (H (j + 1)).n → L i → W i id → j < i → i < ops.size → ¬ lst listed i := fun i id h1 h2 hl hw hji his hs => by
    have hb2 : bef ops i j = false := by
      cases hb : bef ops i j with
      | false => rfl
      | true => have := key i j hb hlt; omega
    exact (t.loud i j hl (by omega) his hlt hb2 (hout i hs)).2 id hw (t.new j id h1 h2)
  have hnoW : ∀ i id, L i → L j → W i id → W j id → j < i → i < ops.size → ¬ lst listed i := fun i id hl hlj hw hwj hji his hs => by
    have hb2 : bef ops i j = false := by
      cases hb : bef ops i j with
      | false => rfl
      | true => have := key i j hb hlt; omega
    exact (t.loud i j hl (by omega) his hlt hb2 (hout i hs)).2 id hw (t.rw j id hlj hwj)
  have hmold : ∀ id l, m' id = some l → ¬ ((H j).n ≤ id ∧ id < (H (j + 1)).n) → m id = some l := fun id l e h => by
    rw [← hf.old id (by omega)]; exact e
  refine {
    sz := by simp [I.sz]
    down := fun i k hk hb => ?_
    m1 := fun id hid => by rw [hf.old id (by omega)]; exact I.m1 id hid
    m2 := fun k hk hs id h1 h2 => ?_
    df := ?_
    tl := ?_
    tv := fun k q hk hc => ?_
    lt := hh.lt
    typ := fun k hk i l c ty e g => ?_
    inj := fun k hk i i' l l' e e' g g' eb => ?_
    roS := fun k hk i l c e g => ?_
    inj2 := fun k hk hl2 hs i l i' l' g e e' h1 h2 eb => ?_
    obj := fun k hk i l x hc e g => ?_
    new := fun i l h1 h2 e => ?_
    keep := fun b hb hk => ?_
    size := Nat.le_trans I.size hf.size
    os := hf.os.trans I.os
    tape := hf.tape.trans I.tape
    output := hf.output.trans I.output }
  · rcases (hset k).1 hk with h | rfl
    · exact (hset i).2 (.inl (I.down i k h hb))
    · exact (hset i).2 (.inl (hp i hb))
  · have hkj : k ≠ j := fun e => hs ((hset k).2 (.inr e))
    have hs' : ¬ lst listed k := fun e => hs ((hset k).2 (.inl e))
    rw [hf.old id ?_]
    · exact I.m2 k hk hs' id h1 h2
    · rcases Nat.lt_or_gt_of_ne hkj with h | h
      · have := t.n (show k + 1 ≤ j by omega) (by omega); exact .inl (by omega)
      · have := t.n (show j + 1 ≤ k by omega) (by omega); exact .inr (by omega)
  · cases hd : o.dst <;> simp [Act.put, I.df]
  · cases hd : o.dst <;> simp [Act.put, I.tl]
  · -- temporaries
    by_cases hd : o.dst = some q
    · have hjk : j < k := by
        rcases Nat.lt_or_ge j k with h | h
        · exact h
        · exact absurd ((hset j).2 (.inr rfl)) (hc.2 j o h ho hd)
      have e1 : (T k).getD q undef = (T (j + 1)).getD q undef := t.tmSame hjk hk fun i oi h1 h2 hoi hdi => by
        have hs := hc.1 i oi h2 hoi hdi
        rcases (hset i).1 hs with hs | rfl
        · rcases t.apart j i o oi (by omega) ho hoi with h | h
          · rw [hout i hs] at h; cases h
          · exact (Oper.apart_spec h).2.1 q hd hdi
        · omega
      rw [e1, t.tm j o ho, hd]
      have hl : A.tmps.size = (T j).length := by rw [I.tl, t.tmLen (Nat.zero_le j) (by omega)]
      by_cases hq : q < (T j).length
      · simpa [putT, Act.put, hq, hl] using hv
      · have : VRel m' undef undef := .tuple rfl fun i v v' e => by simp at e
        simpa [putT, Act.put, hq, hl] using this
    · have hc' : CurT ops listed k q := ⟨fun i oi h1 h2 h3 => by
          rcases (hset i).1 (hc.1 i oi h1 h2 h3) with h | rfl
          · exact h
          · rw [ho] at h2; cases h2; exact absurd h3 hd, fun i oi h1 h2 h3 h4 => hc.2 i oi h1 h2 h3 ((hset i).2 (.inl h4))⟩
      have := (I.tv k q hk hc').mono hle
      have e2 : (A.put o.dst v').tmps.getD q undef = A.tmps.getD q undef := by
        cases hdd : o.dst with
        | none => rfl
        | some d =>
          have hne : d ≠ q := fun e => hd (by rw [hdd, e])
          simp [Act.put, Array.getElem?_setIfInBounds_ne hne]
      rw [e2]; exact this
  · -- types
    by_cases hi : (H j).n ≤ i ∧ i < (H (j + 1)).n
    · have hik := AHeap.lt g
      have hjk : j + 1 ≤ k := by
        rcases Nat.lt_or_ge j k with h | h
        · exact h
        · have := t.n h (by omega); omega
      obtain ⟨c₀, g1, g2⟩ := t.typ hjk hk hi.2 g
      have := hh.typ i l c₀ ty e g1
      exact ⟨this.1, g2 ▸ this.2⟩
    · exact I.typ k hk i l c ty (hmold i l e hi) g
  · -- no two lie in one block
    have one : ∀ i i' l l', m' i = some l → m' i' = some l' → (H k).get i ≠ none → (H k).get i' ≠ none → (H k).live i ∨ (H k).live i' → l.b = l'.b → ((H j).n ≤ i ∧ i < (H (j + 1)).n) → i = i' := fun i i' l l' e e' g g' gl eb hi => by
      have hik : i < (H k).n := by
        cases hg : (H k).get i with
        | none => exact absurd hg g
        | some x => exact AHeap.lt hg
      have hjk : j + 1 ≤ k := by
        rcases Nat.lt_or_ge j k with h | h
        · exact h
        · have := t.n h (by omega); omega
      by_cases hi' : i' < (H (j + 1)).n
      · rcases gl with gl | gl
        · exact (hh.inj i' i l' l e' e (t.alive hjk hk hi' g') (t.liveT hjk hk hi.2 gl) eb.symm).symm
        · exact hh.inj i i' l l' e e' (t.alive hjk hk hi.2 g) (t.liveT hjk hk hi' gl) eb
      · exfalso
        have e2 := hmold i' l' e' (by omega)
        have hi'k : i' < (H k).n := by
          cases hg : (H k).get i' with
          | none => exact absurd hg g'
          | some x => exact AHeap.lt hg
        have hkn := t.n hk (Nat.le_refl _)
        rcases hf.new i l hi.1 hi.2 e with h | ⟨jj, kk, h1, h2, h3, h4, h5⟩
        · have := I.lt i' l' e2; omega
        · by_cases hl : L j
          · exact I.inj2 j hlt hl hn jj kk i' l' h3 h4 e2 (by omega) (by omega) (h5.trans eb)
          · have := t.own j hl jj h2; omega
    by_cases hi : (H j).n ≤ i ∧ i < (H (j + 1)).n
    · exact one i i' l l' e e' g g'.ne (.inr g') eb hi
    · by_cases hi' : (H j).n ≤ i' ∧ i' < (H (j + 1)).n
      · exact (one i' i l' l e' e g'.ne g (.inl g') eb.symm hi').symm
      · exact I.inj k hk i i' l l' (hmold i l e hi) (hmold i' l' e' hi') g g' eb
  · -- rows that are only read
    by_cases hi : (H j).n ≤ i ∧ i < (H (j + 1)).n
    · have hik := AHeap.lt g
      have hjk : j + 1 ≤ k := by
        rcases Nat.lt_or_ge j k with h | h
        · exact h
        · have := t.n h (by omega); omega
      exact hh.roS i l c e (t.roT hjk hk hi.2 g)
    · exact I.roS k hk i l c (hmold i l e hi) g
  · -- what is made behind one that waits to write lies elsewhere
    have hkj : k ≠ j := fun ee => hs ((hset k).2 (.inr ee))
    have hs' : ¬ lst listed k := fun ee => hs ((hset k).2 (.inl ee))
    have hik : i < (H k).n := by
      obtain ⟨x, hx, _⟩ := g
      exact AHeap.lt hx
    have hk1 := (t.fr hk).n
    by_cases hi' : (H j).n ≤ i' ∧ i' < (H (j + 1)).n
    · have hjk : k < j := by
        rcases Nat.lt_or_ge k j with h | h
        · exact h
        · have := t.n (show j + 1 ≤ k + 1 by omega) (by omega); omega
      have e0 : m i = some l := hmold i l e (by have := t.n (show k ≤ j by omega) (by omega); omega)
      rcases hf.new i' l' hi'.1 hi'.2 e' with h | ⟨jw, kk, g1, g2, g3, g4, g5⟩
      · have := I.lt i l e0; omega
      · by_cases hl : L j
        · have b1 : bef ops k j = false := by
            cases hb : bef ops k j with
            | false => rfl
            | true => exact absurd (hp k hb) hs'
          have b2 : bef ops j k = false := by
            cases hb : bef ops j k with
            | false => rfl
            | true => have := key j k hb hk; omega
          rcases (t.loud k j hl2 hkj hk hlt b1 b2).1 with h9 | h9
          · exact h9 hl
          · rw [h9] at hi'; omega
        · have := t.own j hl jw g2; omega
    · have e0' : m i' = some l' := hmold i' l' e' hi'
      by_cases hi : (H j).n ≤ i ∧ i < (H (j + 1)).n
      · have hjk : j < k := by
          rcases Nat.lt_or_ge j k with h | h
          · exact h
          · have := t.n h (by omega); omega
        rcases hf.new i l hi.1 hi.2 e with h | ⟨jw, kk, g1, g2, g3, g4, g5⟩
        · have := I.lt i' l' e0'; omega
        · by_cases hl : L j
          · have := t.n (show j + 1 ≤ k + 1 by omega) (by omega)
            exact I.inj2 j hlt hl hn jw kk i' l' g3 g4 e0' (by omega) h2 (g5.trans eb)
          · have := t.own j hl jw g2; omega
      · exact I.inj2 k hk hl2 hs' i l i' l' g (hmold i l e hi) e0' h1 h2 eb
  · -- what lies there
    by_cases hi : (H j).n ≤ i ∧ i < (H (j + 1)).n
    · have hik := AHeap.lt g
      have hjk : j + 1 ≤ k := by
        rcases Nat.lt_or_ge j k with h | h
        · exact h
        · have := t.n h (by omega); omega
      have e1 : (H k).get i = (H (j + 1)).get i := t.same hjk hk hi.2 fun q h1 h2 hl hw => by
        have hs := hc.1 q h2 hl hw
        rcases (hset q).1 hs with hs | rfl
        · exact hquiet q i hi.1 hi.2 hl hw (by omega) (by omega) hs
        · omega
      rw [e1] at g
      exact hh.obj i l x (t.new j i hi.1 hi.2) e g
    · have e0 := hmold i l e hi
      by_cases hwj : L j ∧ W j i
      · obtain ⟨hl, hw⟩ := hwj
        have hjk : j + 1 ≤ k := by
          rcases Nat.lt_or_ge j k with h | h
          · exact h
          · exact absurd ((hset j).2 (.inr rfl)) (hc.2 j h hlt hl hw)
        have hij : i < (H (j + 1)).n := Nat.lt_of_lt_of_le (t.wlt j i hw) hn1
        have e1 : (H k).get i = (H (j + 1)).get i := t.same hjk hk hij fun q h1 h2 hlq hwq => by
          have hs := hc.1 q h2 hlq hwq
          rcases (hset q).1 hs with hs | rfl
          · exact hnoW q i hlq hl hwq hw (by omega) (by omega) hs
          · omega
        rw [e1] at g
        exact hh.obj i l x (t.rw j i hl hw) e g
      · have hc' : CurH ops W L listed k i := ⟨fun q h1 h2 h3 => by
            rcases (hset q).1 (hc.1 q h1 h2 h3) with h | rfl
            · exact h
            · exact absurd ⟨h2, h3⟩ hwj, fun q h1 h2 h3 h4 h5 => hc.2 q h1 h2 h3 h4 ((hset q).2 (.inl h5))⟩
        obtain ⟨x', a, b⟩ := I.obj k hk i l x hc' e0 g
        refine ⟨x', ?_, b.mono hle⟩
        rw [hf.keep l.b (I.lt i l e0) ?_]
        · exact a
        · intro jj kk h1 h2 h3 h4 h5
          by_cases hl : L j
          · -- both live at j
            have hne : jj ≠ i := fun e => hwj ⟨hl, e ▸ h2⟩
            have hikn : i < (H ops.size).n := Nat.lt_of_lt_of_le (AHeap.lt g) (t.n hk (Nat.le_refl _))
            rcases Nat.lt_or_ge i (H (j + 1)).n with hij1 | hij1
            case inr => exact I.inj2 j hlt hl hn jj kk i l h3 h4 e0 hij1 hikn h5
            have halive : (H j).get i ≠ none := by
              have hik := AHeap.lt g
              rcases Nat.lt_or_ge k j with hkj | hkj
              · -- else something between has killed it, and has not come up
                intro hdead
                have : ∃ q, k ≤ q ∧ q < j ∧ L q ∧ W q i := by
                  apply Classical.byContradiction
                  intro hno
                  have e9 := t.same (Nat.le_of_lt hkj) (by omega) hik fun q g1 g2 g3 g4 => hno ⟨q, g1, g2, g3, g4⟩
                  rw [hdead, g] at e9; cases e9
                obtain ⟨q, q1, q2, q3, q4⟩ := this
                have hqs := hc'.2 q q1 (by omega) q3 q4
                have hqb : bef ops q j = false := by
                  cases hb : bef ops q j with
                  | false => rfl
                  | true => exact absurd (hp q hb) hqs
                have hjq : bef ops j q = false := by
                  cases hb : bef ops j q with
                  | false => rfl
                  | true => have := key j q hb (by omega); omega
                -- some q between has truly killed it: it made a difference, so it is ordered with j
                have hkill : ∃ q, k ≤ q ∧ q < j ∧ (H q).get i ≠ none ∧ (H (q + 1)).get i = none := by
                  apply Classical.byContradiction
                  intro hno
                  have all : ∀ q, k ≤ q → q ≤ j → (H q).get i ≠ none := by
                    intro q hq
                    induction hq with
                    | refl => intro _; rw [g]; simp
                    | @step q hq ih =>
                      intro hqj hz
                      exact hno ⟨q, hq, by omega, ih (by omega), hz⟩
                  exact all j (by omega) (Nat.le_refl _) hdead
                obtain ⟨q', r1, r2, r3, r4⟩ := hkill
                have hiq' : i < (H q').n := by
                  cases hg : (H q').get i with
                  | none => exact absurd hg r3
                  | some x => exact AHeap.lt hg
                have hwq' : L q' ∧ W q' i := by
                  apply Classical.byContradiction
                  intro hno
                  have := t.same (show q' ≤ q' + 1 by omega) (by omega) hiq' fun q g1 g2 g3 g4 => by
                    obtain rfl : q = q' := by omega
                    exact hno ⟨g3, g4⟩
                  rw [r4] at this; exact r3 this.symm
                have hqs' := hc'.2 q' r1 (by omega) hwq'.1 hwq'.2
                have hqb' : bef ops q' j = false := by
                  cases hb : bef ops q' j with
                  | false => rfl
                  | true => exact absurd (hp q' hb) hqs'
                have hjq' : bef ops j q' = false := by
                  cases hb : bef ops j q' with
                  | false => rfl
                  | true => have := key j q' hb (by omega); omega
                rcases (t.loud j q' hl (by omega) hlt (by omega) hjq' hqb').1 with h9 | h9
                · exact h9 hwq'.1
                · rw [h9] at r4; exact r3 r4
              · rcases Nat.lt_or_ge i (H j).n with hij | hij
                · exact t.alive hkj hk hij (by rw [g]; simp)
                · rw [I.m2 j hlt hn i hij hij1] at e0; cases e0
            exact hne (I.inj j (by omega) i jj l kk e0 h4 halive h3 h5.symm).symm
          · have := t.own j hl jj h2; omega
  · -- new ones
    by_cases hi : (H j).n ≤ i ∧ i < (H (j + 1)).n
    · rcases hf.new i l hi.1 hi.2 e with h | ⟨jj, kk, g1, g2, g3, g4, g5⟩
      · exact .inl (Nat.le_trans I.size h)
      · by_cases hl : L j
        · rcases Nat.lt_or_ge jj (H 0).n with h0 | h0
          · exact .inr ⟨jj, kk, h0, hWt j hlt hl jj g2 h0, t.liveT (Nat.zero_le j) (by omega) h0 g3, by rw [← I.m1 jj (.inl h0)]; exact g4, g5⟩
          · rcases I.new jj kk h0 (by omega) g4 with h | ⟨a1, a2, a3, a4, a5, a6, a7⟩
            · exact .inl (by omega)
            · exact .inr ⟨a1, a2, a3, a4, a5, a6, a7.trans g5⟩
        · have := t.own j hl jj g2; omega
    · exact I.new i l h1 h2 (hmold i l e hi)
  · -- what stays
    rw [hf.keep b (Nat.lt_of_lt_of_le hb I.size) ?_]
    · exact I.keep b hb hk
    · intro jj kk g1 g2 g3 g4 g5
      by_cases hl : L j
      · rcases Nat.lt_or_ge jj (H 0).n with h0 | h0
        · exact hk jj kk h0 (hWt j hlt hl jj g2 h0) (t.liveT (Nat.zero_le j) (by omega) h0 g3) (by rw [← I.m1 jj (.inl h0)]; exact g4) g5
        · rcases I.new jj kk h0 (by omega) g4 with h | ⟨a1, a2, a3, a4, a5, a6, a7⟩
          · omega
          · exact hk a1 a2 a3 a4 a5 a6 (a7.trans g5)
      · have := t.own j hl jj g2; omega
end
end Go.Proofs.Ytmelgnpogdilgaa
