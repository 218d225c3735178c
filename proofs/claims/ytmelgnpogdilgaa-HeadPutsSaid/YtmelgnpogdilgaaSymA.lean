/- Walks on the abstract heap: frames by what is known of them, code, regions. No conditions. -/
import Derived.Test.YtmelgnpogdilgaaAbsZD
namespace Go.Proofs.Ytmelgnpogdilgaa
set_option linter.unusedVariables false
/-! ### Frames by what is known of them -/
abbrev Ov := List (Nat × Value)
def Ov.find : Ov → Nat → Option Value
  | [], _ => none
  | (i, v) :: r, t => cond (Nat.beq i t) (some v) (Ov.find r t)
def Rp (ov : Ov) (tm : List Value) : Prop := ∀ t v, ov.find t = some v → tm.getD t undef = v
def evO (ov : Ov) : Operand → Option Value
  | .tmp t => ov.find t
  | .const v => some v
  | .global g => some (.pointer (some ⟨g, 0, none⟩))
  | .func f => some (.func (.func f) #[] #[])
theorem evO_eq {ov : Ov} {tm : List Value} (hr : Rp ov tm) {x : Operand} {v : Value} (he : evO ov x = some v) : evalT tm x = v := by
  cases x with
  | tmp t => exact hr t v he
  | _ => simp only [evO, Option.some.injEq] at he; subst he; rfl
def evOs (ov : Ov) : List Operand → Option (List Value)
  | [] => some []
  | x :: xs => match evO ov x, evOs ov xs with
    | some v, some vs => some (v :: vs)
    | _, _ => none
theorem evOs_eq {ov : Ov} {tm : List Value} (hr : Rp ov tm) : ∀ {xs : List Operand} {vs : List Value}, evOs ov xs = some vs → xs.map (evalT tm) = vs
  | [], vs, h => by simp only [evOs, Option.some.injEq] at h; subst h; rfl
  | x :: xs, vs, h => by
    unfold evOs at h
    split at h
    · rename_i v vs' h1 h2; cases h; simp [evO_eq hr h1, evOs_eq hr h2]
    · cases h
def evPs (ov : Ov) : List (Nat × Operand) → Option (List (Nat × Value))
  | [] => some []
  | (i, x) :: xs => match evO ov x, evPs ov xs with
    | some v, some vs => some ((i, v) :: vs)
    | _, _ => none
theorem evPs_eq {ov : Ov} {tm : List Value} (hr : Rp ov tm) : ∀ {xs : List (Nat × Operand)} {vs : List (Nat × Value)}, evPs ov xs = some vs → (xs.map fun p => (p.1, evalT tm p.2)) = vs
  | [], vs, h => by simp only [evPs, Option.some.injEq] at h; subst h; rfl
  | (i, x) :: xs, vs, h => by
    unfold evPs at h
    split at h
    · rename_i v vs' h1 h2; cases h; simp [evO_eq hr h1, evPs_eq hr h2]
    · cases h
def dOk (d : Nat) (N : Nat) : Bool := Nat.ble (Nat.succ d) N
theorem Rp.put {ov : Ov} {tm : List Value} {N d : Nat} (hr : Rp ov tm) (hN : tm.length = N) (hd : dOk d N = true) (v : Value) : Rp ((d, v) :: ov) (putT tm (some d) v) := by
  intro t u h
  have hlt : d < tm.length := by rw [hN]; exact Nat.le_of_ble_eq_true hd
  simp only [Ov.find] at h
  simp only [putT, List.getD_eq_getElem?_getD, List.getElem?_set]
  by_cases e : d = t
  · subst e
    have : Nat.beq d d = true := Nat.beq_refl d
    rw [this] at h
    simp at h
    simp [hlt, h]
  · have : Nat.beq d t = false := by
      cases hb : Nat.beq d t with
      | false => rfl
      | true => exact absurd (Nat.eq_of_beq_eq_true hb) e
    rw [this] at h
    simp only [cond_false] at h
    rw [if_neg e]
    have := hr t u h
    rwa [List.getD_eq_getElem?_getD] at this
/-- What the one knows the other knows. -/
def Ov.sub (ov : Ov) : Ov → Prop
  | [] => True
  | (i, v) :: r => ov.find i = some v ∧ Ov.sub ov r
theorem Rp.sub {tm : List Value} {ov : Ov} (hr : Rp ov tm) : ∀ {ov' : Ov}, Ov.sub ov ov' → Rp ov' tm
  | [], _ => fun t v h => by cases h
  | (i, u) :: r, hs => fun t v h => by
    simp only [Ov.find] at h
    cases hb : Nat.beq i t with
    | true =>
      rw [hb] at h
      simp only [cond_true, Option.some.injEq] at h
      subst h
      have := Nat.eq_of_beq_eq_true hb
      subst this
      exact hr _ _ hs.1
    | false => rw [hb] at h; exact Rp.sub hr hs.2 t v h
/-! ### Code -/
inductive It where
  | code (c : Code)
  | leave (id : Nat)
  | sc
  | back (R : List Value → List Nat → AHeap → Prop)
abbrev PQ := Exit → List Value → List Nat → AHeap → Prop
def Gx (P : Program) (W : Nat → Prop) (q : Bool) : List It → Exit → List Value → List Nat → AHeap → PQ → Prop
  | [], x, tm, df, h, Q => Q x tm df h
  | .leave id :: k, x, tm, df, h, Q => Gx P W q k (Exit.leave id x) tm df h Q
  | .sc :: k, x, tm, df, h, Q => (∀ l, x ≠ .goto l) ∧ Gx P W q k x tm df h Q
  | .back R :: k, x, tm, df, h, Q => (x = .normal → R tm df h) ∧ (x ≠ .normal → Gx P W q k x tm df h Q)
  | .code c :: k, x, tm, df, h, Q => (x = .normal → ∃ x' tm' df' h', Run P W q c ⟨tm, df, h⟩ x' ⟨tm', df', h'⟩ ∧ tm'.length = tm.length ∧ Gx P W q k x' tm' df' h' Q) ∧ (x ≠ .normal → Gx P W q k x tm df h Q)
/-- What is still to be done, from an exit on. -/
def Go (P : Program) (W : Nat → Prop) (q : Bool) (N : Nat) (k : List It) (x : Exit) (ov : Ov) (df : List Nat) (h : AHeap) (Q : PQ) : Prop :=
  ∀ tm : List Value, tm.length = N → Rp ov tm → Gx P W q k x tm df h Q
section
variable {P : Program} {W : Nat → Prop} {q : Bool} {N : Nat} {k : List It} {x : Exit} {ov : Ov} {df : List Nat} {h : AHeap} {Q : PQ}
theorem Go.weaken {ov' : Ov} (hs : Ov.sub ov ov') (g : Go P W q N k x ov' df h Q) : Go P W q N k x ov df h Q := fun tm hN hr => g tm hN (hr.sub hs)
theorem Go.skip_code {c : Code} (hx : x ≠ .normal) (g : Go P W q N k x ov df h Q) : Go P W q N (.code c :: k) x ov df h Q := fun tm hN hr => ⟨fun e => absurd e hx, fun _ => g tm hN hr⟩
theorem Go.code {c : Code} (g : ∀ tm : List Value, tm.length = N → Rp ov tm → ∃ x' tm' df' h', Run P W q c ⟨tm, df, h⟩ x' ⟨tm', df', h'⟩ ∧ tm'.length = tm.length ∧ Gx P W q k x' tm' df' h' Q) : Go P W q N (.code c :: k) .normal ov df h Q := fun tm hN hr => ⟨fun _ => g tm hN hr, fun e => absurd rfl e⟩
theorem Go.skip (g : Go P W q N k .normal ov df h Q) : Go P W q N (.code .skip :: k) .normal ov df h Q := Go.code fun tm hN hr => ⟨_, _, _, _, .skip, rfl, g tm hN hr⟩
theorem Go.label {l : Nat} (g : Go P W q N k .normal ov df h Q) : Go P W q N (.code (.label l) :: k) .normal ov df h Q := Go.code fun tm hN hr => ⟨_, _, _, _, .label l, rfl, g tm hN hr⟩
theorem Go.ret (g : Go P W q N k .ret ov df h Q) : Go P W q N (.code .ret :: k) .normal ov df h Q := Go.code fun tm hN hr => ⟨_, _, _, _, .ret, rfl, g tm hN hr⟩
theorem Go.exit {id : Nat} (g : Go P W q N k (.exit id) ov df h Q) : Go P W q N (.code (.exit id) :: k) .normal ov df h Q := Go.code fun tm hN hr => ⟨_, _, _, _, .exit id, rfl, g tm hN hr⟩
theorem Go.seq {a b : Code} (g : Go P W q N (.code a :: .code b :: k) .normal ov df h Q) : Go P W q N (.code (.seq a b) :: k) .normal ov df h Q := Go.code fun tm hN hr => by
  obtain ⟨x₁, tm₁, df₁, h₁, r₁, n₁, g₁⟩ := (g tm hN hr).1 rfl
  by_cases hx : x₁ = .normal
  · obtain ⟨x₂, tm₂, df₂, h₂, r₂, n₂, g₂⟩ := g₁.1 hx
    subst hx
    exact ⟨x₂, tm₂, df₂, h₂, .seq r₁ r₂, n₂.trans n₁, g₂⟩
  · exact ⟨x₁, tm₁, df₁, h₁, .seq_out r₁ hx, n₁, g₁.2 hx⟩
theorem Go.cond_t {o : Operand} {a b : Code} {B : Bool} (ho : evO ov o = some (.bool B)) (hB : B = true) (g : Go P W q N (.code a :: k) .normal ov df h Q) : Go P W q N (.code (.cond o a b) :: k) .normal ov df h Q := Go.code fun tm hN hr => by
  obtain ⟨x₁, tm₁, df₁, h₁, r₁, n₁, g₁⟩ := (g tm hN hr).1 rfl
  subst hB
  exact ⟨x₁, tm₁, df₁, h₁, .cond_true (evO_eq hr ho) r₁, n₁, g₁⟩
theorem Go.cond_f {o : Operand} {a b : Code} {B : Bool} (ho : evO ov o = some (.bool B)) (hB : B = false) (g : Go P W q N (.code b :: k) .normal ov df h Q) : Go P W q N (.code (.cond o a b) :: k) .normal ov df h Q := Go.code fun tm hN hr => by
  obtain ⟨x₁, tm₁, df₁, h₁, r₁, n₁, g₁⟩ := (g tm hN hr).1 rfl
  subst hB
  exact ⟨x₁, tm₁, df₁, h₁, .cond_false (evO_eq hr ho) r₁, n₁, g₁⟩
theorem Go.cond {o : Operand} {a b : Code} {B : Bool} (ho : evO ov o = some (.bool B)) (g1 : B = true → Go P W q N (.code a :: k) .normal ov df h Q) (g2 : B = false → Go P W q N (.code b :: k) .normal ov df h Q) : Go P W q N (.code (.cond o a b) :: k) .normal ov df h Q := by
  cases B with
  | true => exact Go.cond_t ho rfl (g1 rfl)
  | false => exact Go.cond_f ho rfl (g2 rfl)
theorem Go.block {id : Nat} {c : Code} (g : Go P W q N (.code c :: .leave id :: k) .normal ov df h Q) : Go P W q N (.code (.block id c) :: k) .normal ov df h Q := Go.code fun tm hN hr => by
  obtain ⟨x₁, tm₁, df₁, h₁, r₁, n₁, g₁⟩ := (g tm hN hr).1 rfl
  exact ⟨_, tm₁, df₁, h₁, .block r₁, n₁, g₁⟩
theorem Go.scope {c : Code} (g : Go P W q N (.code c :: .sc :: k) .normal ov df h Q) : Go P W q N (.code (.scope c) :: k) .normal ov df h Q := Go.code fun tm hN hr => by
  obtain ⟨x₁, tm₁, df₁, h₁, r₁, n₁, g₁⟩ := (g tm hN hr).1 rfl
  exact ⟨_, tm₁, df₁, h₁, .scope r₁ g₁.1, n₁, g₁.2⟩
theorem Go.sc (hx : ∀ l, x ≠ .goto l) (g : Go P W q N k x ov df h Q) : Go P W q N (.sc :: k) x ov df h Q := fun tm hN hr => ⟨hx, g tm hN hr⟩
theorem Go.sc_normal (g : Go P W q N k .normal ov df h Q) : Go P W q N (.sc :: k) .normal ov df h Q := .sc (fun _ e => by cases e) g
theorem Go.sc_ret (g : Go P W q N k .ret ov df h Q) : Go P W q N (.sc :: k) .ret ov df h Q := .sc (fun _ e => by cases e) g
theorem Go.sc_exit {id : Nat} (g : Go P W q N k (.exit id) ov df h Q) : Go P W q N (.sc :: k) (.exit id) ov df h Q := .sc (fun _ e => by cases e) g
theorem Go.leave_normal {id : Nat} (g : Go P W q N k .normal ov df h Q) : Go P W q N (.leave id :: k) .normal ov df h Q := g
theorem Go.leave_ret {id : Nat} (g : Go P W q N k .ret ov df h Q) : Go P W q N (.leave id :: k) .ret ov df h Q := g
theorem Go.leave_same {id : Nat} (g : Go P W q N k .normal ov df h Q) : Go P W q N (.leave id :: k) (.exit id) ov df h Q := fun tm hN hr => by
  have := g tm hN hr
  simpa [Gx, Exit.leave] using this
theorem Go.leave_other {id id' : Nat} (he : Nat.beq id id' = false) (g : Go P W q N k (.exit id') ov df h Q) : Go P W q N (.leave id :: k) (.exit id') ov df h Q := fun tm hN hr => by
  have := g tm hN hr
  have hne : id ≠ id' := fun e => by subst e; rw [Nat.beq_refl] at he; cases he
  have hne' : id' ≠ id := fun e => hne e.symm
  simp only [Gx, Exit.leave]
  first | (rw [if_neg hne]; exact this) | (rw [if_neg hne']; exact this) | (simpa [hne, hne'] using this)
theorem Go.exit_code {id : Nat} {c : Code} (g : Go P W q N k (.exit id) ov df h Q) : Go P W q N (.code c :: k) (.exit id) ov df h Q := .skip_code (by intro e; cases e) g
theorem Go.ret_code {c : Code} (g : Go P W q N k .ret ov df h Q) : Go P W q N (.code c :: k) .ret ov df h Q := .skip_code (by intro e; cases e) g
theorem Go.exit_back {id : Nat} {R : List Value → List Nat → AHeap → Prop} (g : Go P W q N k (.exit id) ov df h Q) : Go P W q N (.back R :: k) (.exit id) ov df h Q := fun tm hN hr => ⟨(fun e => by cases e), fun _ => g tm hN hr⟩
theorem Go.ret_back {R : List Value → List Nat → AHeap → Prop} (g : Go P W q N k .ret ov df h Q) : Go P W q N (.back R :: k) .ret ov df h Q := fun tm hN hr => ⟨(fun e => by cases e), fun _ => g tm hN hr⟩
theorem Go.done (g : ∀ tm : List Value, tm.length = N → Rp ov tm → Q x tm df h) : Go P W q N [] x ov df h Q := fun tm hN hr => g tm hN hr
/-- A loop: by what is so ahead of each round. -/
def Round {α : Type} (fr : α → Ov) (dfs : α → List Nat) (hp : α → AHeap) (I : α → Prop) (ms : α → Nat) (n : Nat) : List Value → List Nat → AHeap → Prop := fun tm df h => ∃ a, I a ∧ ms a < n ∧ Rp (fr a) tm ∧ df = dfs a ∧ h = hp a
theorem Go.loop {α : Type} (fr : α → Ov) (dfs : α → List Nat) (hp : α → AHeap) (I : α → Prop) (ms : α → Nat) (a₀ : α) {c : Code}
    (h0 : I a₀) (hs : Ov.sub ov (fr a₀)) (hd : df = dfs a₀) (hh : h = hp a₀)
    (round : ∀ a, I a → Go P W q N (.code c :: .back (Round fr dfs hp I ms (ms a)) :: k) .normal (fr a) (dfs a) (hp a) Q) : Go P W q N (.code (.loop c) :: k) .normal ov df h Q := by
  refine Go.code fun tm hN hr => ?_
  have main : ∀ (n : Nat) (a : α), ms a < n → I a → ∀ tm : List Value, tm.length = N → Rp (fr a) tm → ∃ x' tm' df' h', LoopRun P W q c ⟨tm, dfs a, hp a⟩ x' ⟨tm', df', h'⟩ ∧ tm'.length = tm.length ∧ Gx P W q k x' tm' df' h' Q := by
    intro n
    induction n with
    | zero => intro a hlt; omega
    | succ n ih =>
      intro a hlt ha tm hN hr
      obtain ⟨x₁, tm₁, df₁, h₁, r₁, n₁, g₁⟩ := (round a ha tm hN hr).1 rfl
      by_cases hx : x₁ = .normal
      · obtain ⟨b, hb, hm, hrb, e1, e2⟩ := g₁.1 hx
        subst hx e1 e2
        obtain ⟨x₂, tm₂, df₂, h₂, r₂, n₂, g₂⟩ := ih b (by omega) hb tm₁ (n₁.trans hN) hrb
        exact ⟨x₂, tm₂, df₂, h₂, .more r₁ r₂, n₂.trans n₁, g₂⟩
      · exact ⟨x₁, tm₁, df₁, h₁, .out r₁ hx, n₁, g₁.2 hx⟩
  subst hd hh
  obtain ⟨x₂, tm₂, df₂, h₂, r₂, n₂, g₂⟩ := main (ms a₀ + 1) a₀ (by omega) h0 tm hN (hr.sub hs)
  exact ⟨x₂, tm₂, df₂, h₂, .loop r₂, n₂, g₂⟩
theorem Go.again {α : Type} {fr : α → Ov} {dfs : α → List Nat} {hp : α → AHeap} {I : α → Prop} {ms : α → Nat} {n : Nat} (a : α) (ha : I a) (hm : ms a < n) (hs : Ov.sub ov (fr a)) (hd : df = dfs a) (hh : h = hp a) : Go P W q N (.back (Round fr dfs hp I ms n) :: k) .normal ov df h Q := fun tm hN hr => ⟨fun _ => ⟨a, ha, hm, hr.sub hs, hd, hh⟩, fun e => absurd rfl e⟩
end
/-! ### Regions -/
def RdP (P : Program) (W : Nat → Prop) (ops : Array Oper) : List Oper → List Value → AHeap → (List Value → AHeap → List (Nat × OR) → Prop) → Prop
  | [], tm, h, C => C tm h []
  | o :: os, tm, h, C => ∃ r : OR, ((Region.wanted o (yielded ops tm.toArray) = true ∧ OpOk P o tm h r ∧ ∀ i ∈ r.wr, W i) ∨ (Region.wanted o (yielded ops tm.toArray) = false ∧ r = ⟨undef, h, [], [], false, true⟩)) ∧ RdP P W ops os (putT tm o.dst r.v) r.h fun tm' h' l => C tm' h' ((h.n, r) :: l)
theorem RdP.mono {P : Program} {W : Nat → Prop} {ops : Array Oper} : ∀ {os : List Oper} {tm : List Value} {h : AHeap} {C C' : List Value → AHeap → List (Nat × OR) → Prop}, RdP P W ops os tm h C → (∀ tm h l, C tm h l → C' tm h l) → RdP P W ops os tm h C'
  | [], _, _, _, _, k, hc => hc _ _ _ k
  | _ :: _, _, _, _, _, ⟨r, h1, h2⟩, hc => ⟨r, h1, RdP.mono h2 fun _ _ _ k => hc _ _ _ k⟩
section
variable {P : Program} {W : Nat → Prop} {ops : Array Oper}
theorem RdP.inOrder : ∀ {os : List Oper} {k : Nat} {tm : List Value} {h : AHeap} {C : List Value → AHeap → List (Nat × OR) → Prop}, ops.toList.drop k = os → RdP P W ops os tm h C → ∃ tm' h' l, C tm' h' l ∧ tm'.length = tm.length ∧ OpsRun P W ops (List.range' k os.length) tm h tm' h'
  | [], k, tm, h, C, hd, hk => ⟨tm, h, [], hk, rfl, .nil⟩
  | o :: os, k, tm, h, C, hd, hk => by
    obtain ⟨r, h1, h2⟩ := hk
    have hd' : ops.toList.drop (k + 1) = os := by rw [← List.drop_drop, hd]; rfl
    have ho : ops[k]? = some o := by
      have : (ops.toList.drop k)[0]? = some o := by rw [hd]; rfl
      simpa using this
    obtain ⟨tm', h', l, g1, g2, g3⟩ := RdP.inOrder hd' h2
    refine ⟨tm', h', _, g1, by rw [g2, putT_len], ?_⟩
    simp only [List.length_cons, List.range'_succ]
    rcases h1 with ⟨hw, hk, hW⟩ | ⟨hw, rfl⟩
    · exact .op ho hw (hk.ev hW) g3
    · exact .skip ho hw g3
theorem RdP.trace : ∀ {os : List Oper} {k : Nat} {tm : List Value} {h : AHeap} {C : List Value → AHeap → List (Nat × OR) → Prop}, ops.toList.drop k = os → RdP P W ops os tm h C →
    ∃ (tm' : List Value) (h' : AHeap) (ts : List Tr1), C tm' h' (ts.map fun t => (t.h.n, t.r)) ∧ tm'.length = tm.length ∧ ts.length = os.length ∧
      (∀ j t, ts[j]? = some t → ∃ o, ops[k + j]? = some o ∧ ((Region.wanted o (yielded ops t.tm.toArray) = true ∧ OpOk P o t.tm t.h t.r ∧ ∀ i ∈ t.r.wr, W i) ∨ (Region.wanted o (yielded ops t.tm.toArray) = false ∧ t.r = ⟨undef, t.h, [], [], false, true⟩)) ∧
        (match ts[j + 1]? with | some u => u.tm = putT t.tm o.dst t.r.v ∧ u.h = t.r.h | none => tm' = putT t.tm o.dst t.r.v ∧ h' = t.r.h)) ∧
      (match ts[0]? with | some t => t.tm = tm ∧ t.h = h | none => tm' = tm ∧ h' = h)
  | [], k, tm, h, C, hd, hk => ⟨tm, h, [], hk, rfl, rfl, fun j t e => by simp at e, by simp⟩
  | o :: os, k, tm, h, C, hd, hk => by
    obtain ⟨r, h1, h2⟩ := hk
    have hd' : ops.toList.drop (k + 1) = os := by rw [← List.drop_drop, hd]; rfl
    have ho : ops[k]? = some o := by
      have : (ops.toList.drop k)[0]? = some o := by rw [hd]; rfl
      simpa using this
    obtain ⟨tm', h', ts, g1, g2, g3, g4, g5⟩ := RdP.trace hd' h2
    refine ⟨tm', h', ⟨tm, h, r⟩ :: ts, g1, by rw [g2, putT_len], by simp [g3], fun j t e => ?_, ⟨rfl, rfl⟩⟩
    cases j with
    | zero =>
      simp only [List.getElem?_cons_zero, Option.some.injEq] at e
      subst e
      refine ⟨o, ho, h1, ?_⟩
      simp only [List.getElem?_cons_succ]
      exact g5
    | succ j =>
      simp only [List.getElem?_cons_succ] at e
      obtain ⟨o', a1, a2, a3⟩ := g4 j t e
      refine ⟨o', by rw [show k + (j + 1) = k + 1 + j from by omega]; exact a1, a2, ?_⟩
      simp only [List.getElem?_cons_succ]
      exact a3
end
end Go.Proofs.Ytmelgnpogdilgaa
