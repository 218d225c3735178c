/- The judgement: what code does on an abstract heap, it does on every memory that is like it. No conditions. -/
import Derived.Test.YtmelgnpogdilgaaAbsA
namespace Go.Proofs.Ytmelgnpogdilgaa
set_option linter.unusedVariables false

def FzOk (P : Program) (t : TypeId) (n : Nat) (fz : Nat × Nat) : Prop := fz = (0, 0) ∨ (P.underlying t = some (.int .u8) ∧ fz = (n, n + 1))
def SzOk (l : Loc) (n n' : Nat) : Prop := n = l.A ∧ l.sh + l.A + l.slk * l.sz ≤ n'
def sizeT (P : Program) (t : TypeId) : Option Nat := (P.info? t).map (·.size)
def ERel (m : Mp) (es es' : Array MapEntry) : Prop := es.size = es'.size ∧ ∀ (i : Nat) e e', es[i]? = some e → es'[i]? = some e' → VRel m e.key e'.key ∧ VRel m e.val e'.val ∧ e.born = e'.born
inductive ORel (P : Program) (m : Mp) (l : Loc) : AObj → Obj → Prop
  | cells {c : List Value} {c' : Array Value} {t : TypeId} {fz : Nat × Nat} (hs : SzOk l c.length c'.size) (hf : FzOk P t c'.size fz) (hv : ∀ (i : Nat) v, c[i]? = some v → ∃ v', c'[i + l.sh]? = some v' ∧ VRel m v v') : ORel P m l (.cells c t) (.cells c' t fz)
  | ro {c : List Value} {c' : Array Value} {t : TypeId} {fz : Nat × Nat} (hs : l.slk = 0) (hv : ∀ (i : Nat) v, c[i]? = some v → ∃ v', c'[i + l.sh]? = some v' ∧ VRel m v v') : ORel P m l (.ro c) (.cells c' t fz)
  | map {es es' : Array MapEntry} {k : Nat} (h : ERel m es es') : ORel P m l (.map es k) (.map es' k)
  | iter (s : ByteArray) (pos : Nat) : ORel P m l (.iter s pos) (.stringIter s pos)
  | loop {st : LoopState} {pe : Option Code} {tm : List Value} {tm' : Array Value} {ps : Array Tmp} {as bo : Code} {df : Nat} {fn : FuncId} {ld : Loc} (h : ARel m tm.toArray tm') (hd : m df = some ld) : ORel P m l (.loop st pe tm ps as bo df) (.loop { state := st, pending := pe, fn := fn, tmps := tm', params := ps, assign := as, body := bo, defers := ld.b })
  | deferred (live : Bool) : ORel P m l (.deferred live) (.deferred (if live then some [] else none))
theorem ORel.mono {P : Program} {m m' : Mp} (hm : m.le m') {l : Loc} {o : AObj} {o' : Obj} (h : ORel P m l o o') : ORel P m' l o o' := by
  cases h with
  | cells hs hf hv => exact .cells hs hf fun i v e => let ⟨v', a, b⟩ := hv i v e; ⟨v', a, b.mono hm⟩
  | ro hs hv => exact .ro hs fun i v e => let ⟨v', a, b⟩ := hv i v e; ⟨v', a, b.mono hm⟩
  | map h => exact .map ⟨h.1, fun i e e' a b => let ⟨x, y, z⟩ := h.2 i e e' a b; ⟨x.mono hm, y.mono hm, z⟩⟩
  | iter s pos => exact .iter s pos
  | loop h hd => exact .loop (h.mono hm) (hm _ _ hd)
  | deferred live => exact .deferred live

/-- Memory like an abstract heap, at the blocks of D. -/
structure HRel (P : Program) (m : Mp) (D : Nat → Prop) (h : AHeap) (w : World) : Prop where
  lt : ∀ i l, m i = some l → l.b < w.heap.size
  typ : ∀ i l c t, m i = some l → h.get i = some (.cells c t) → sizeT P t = some l.sz ∧ c.length = l.A
  inj : ∀ i j l k, m i = some l → m j = some k → h.get i ≠ none → h.live j → l.b = k.b → i = j
  roS : ∀ i l c, m i = some l → h.get i = some (.ro c) → l.slk = 0
  obj : ∀ i l o, D i → m i = some l → h.get i = some o → ∃ o', w.heap[l.b]? = some o' ∧ ORel P m l o o'
def MOk (P : Program) (m : Mp) : Prop := ∀ g, g < P.globals.size → ∃ l, m g = some l ∧ l.b = g ∧ l.sh = 0
theorem MOk.mono {P : Program} {m m' : Mp} (h : MOk P m) (hm : m.le m') : MOk P m' := fun g hg => let ⟨l, a, b⟩ := h g hg; ⟨l, hm _ _ a, b⟩
def Fresh (m : Mp) (h h' : AHeap) : Prop := ∀ i, h.n ≤ i → i < h'.n → m i = none
structure AFr (W : Nat → Prop) (h h' : AHeap) : Prop where
  n : h.n ≤ h'.n
  get : ∀ i, i < h.n → ¬ W i → h'.get i = h.get i
  typ : ∀ i c t, i < h.n → h'.get i = some (.cells c t) → ∃ c₀, h.get i = some (.cells c₀ t) ∧ c₀.length = c.length
  alive : ∀ i, i < h.n → h'.get i ≠ none → h.get i ≠ none
  live : ∀ i, i < h.n → h'.live i → h.live i
  roT : ∀ i c, i < h.n → h'.get i = some (.ro c) → h.get i = some (.ro c)
/-- What stays. -/
structure Fr (m m' : Mp) (W : Nat → Prop) (h h' : AHeap) (w w' : World) : Prop where
  old : ∀ i, (i < h.n ∨ h'.n ≤ i) → m' i = m i
  new : ∀ i l, h.n ≤ i → i < h'.n → m' i = some l → w.heap.size ≤ l.b ∨ ∃ j k, j < h.n ∧ W j ∧ h.live j ∧ m j = some k ∧ k.b = l.b
  keep : ∀ b, b < w.heap.size → (∀ j k, j < h.n → W j → h.live j → m j = some k → k.b ≠ b) → w'.heap[b]? = w.heap[b]?
  size : w.heap.size ≤ w'.heap.size
  os : w'.os = w.os
  tape : w'.tape = w.tape
  output : w'.output = w.output
theorem AFr.refl (W : Nat → Prop) (h : AHeap) : AFr W h h := ⟨Nat.le_refl _, fun _ _ _ => rfl, fun _ c _ _ e => ⟨c, e, rfl⟩, fun _ _ e => e, fun _ _ e => e, fun _ _ _ e => e⟩
theorem AFr.trans {W : Nat → Prop} {a b c : AHeap} (h : AFr W a b) (k : AFr W b c) : AFr W a c :=
  ⟨Nat.le_trans h.n k.n, fun i hi hw => (k.get i (Nat.lt_of_lt_of_le hi h.n) hw).trans (h.get i hi hw), fun i c t hi e => let ⟨c₁, e₁, l₁⟩ := k.typ i c t (Nat.lt_of_lt_of_le hi h.n) e; let ⟨c₂, e₂, l₂⟩ := h.typ i c₁ t hi e₁; ⟨c₂, e₂, l₂.trans l₁⟩, fun i hi e => h.alive i hi (k.alive i (Nat.lt_of_lt_of_le hi h.n) e), fun i hi e => h.live i hi (k.live i (Nat.lt_of_lt_of_le hi h.n) e), fun i c hi e => h.roT i c hi (k.roT i c (Nat.lt_of_lt_of_le hi h.n) e)⟩
theorem AFr.weak {W W' : Nat → Prop} {a b : AHeap} (h : AFr W a b) (hw : ∀ i, W i → W' i) : AFr W' a b := ⟨h.n, fun i hi hn => h.get i hi fun e => hn (hw i e), h.typ, h.alive, h.live, h.roT⟩
theorem Fr.refl (m : Mp) (W : Nat → Prop) (h : AHeap) (w : World) : Fr m m W h h w w :=
  ⟨fun _ _ => rfl, fun i l h1 h2 => by omega, fun _ _ _ => rfl, Nat.le_refl _, rfl, rfl, rfl⟩
theorem Fr.drew (m : Mp) (W : Nat → Prop) (h : AHeap) (w : World) (n : Nat) : Fr m m W h h w { w with drawn := n } :=
  ⟨fun _ _ => rfl, fun i l h1 h2 => by omega, fun _ _ _ => rfl, Nat.le_refl _, rfl, rfl, rfl⟩
theorem Fr.le {m m' : Mp} {W : Nat → Prop} {h h' : AHeap} {w w' : World} (f : Fr m m' W h h' w w') (hf : Fresh m h h') : m.le m' := fun i l e => by
  by_cases hi : i < h.n ∨ h'.n ≤ i
  · rw [f.old i hi]; exact e
  · rw [hf i (by omega) (by omega)] at e; cases e
theorem Fr.weak {m m' : Mp} {W W' : Nat → Prop} {h h' : AHeap} {w w' : World} (f : Fr m m' W h h' w w') (hw : ∀ i, W i → W' i) : Fr m m' W' h h' w w' :=
  ⟨f.old, fun i l h1 h2 h3 => (f.new i l h1 h2 h3).imp id fun ⟨j, k, c, a, b⟩ => ⟨j, k, c, hw j a, b⟩, fun b hb hk => f.keep b hb fun j k c a => hk j k c (hw j a), f.size, f.os, f.tape, f.output⟩
theorem Fr.trans {m m₁ m₂ : Mp} {W : Nat → Prop} {h h₁ h₂ : AHeap} {w w₁ w₂ : World} (af : AFr W h h₁) (n2 : h₁.n ≤ h₂.n) (f : Fr m m₁ W h h₁ w w₁) (g : Fr m₁ m₂ W h₁ h₂ w₁ w₂) : Fr m m₂ W h h₂ w w₂ := by
  have n1 := af.n
  exact {
  old := fun i hi => by
    rw [g.old i (by omega), f.old i (by omega)]
  new := fun i l h1 h2 e => by
    by_cases hi : i < h₁.n
    · rw [g.old i (.inl hi)] at e
      exact f.new i l h1 hi e
    · rcases g.new i l (by omega) h2 e with h3 | ⟨j, k, jl, wj, al, mj, e2⟩
      · exact .inl (Nat.le_trans f.size h3)
      · by_cases hj : j < h.n
        · exact .inr ⟨j, k, hj, wj, af.live j hj al, by rw [← f.old j (.inl hj)]; exact mj, e2⟩
        · rcases f.new j k (by omega) jl mj with h4 | ⟨j', k', a, b, c, d, e'⟩
          · exact .inl (by omega)
          · exact .inr ⟨j', k', a, b, c, d, e'.trans e2⟩
  keep := fun b hb hk => by
    rw [g.keep b (Nat.lt_of_lt_of_le hb f.size) ?_, f.keep b hb hk]
    intro j k jl wj al mj e
    by_cases hj : j < h.n
    · exact hk j k hj wj (af.live j hj al) (by rw [← f.old j (.inl hj)]; exact mj) e
    · rcases f.new j k (by omega) jl mj with h4 | ⟨j', k', a, b', c, d, e'⟩
      · omega
      · exact hk j' k' a b' c d (e'.trans e)
  size := Nat.le_trans f.size g.size
  os := g.os.trans f.os
  tape := g.tape.trans f.tape
  output := g.output.trans f.output }
theorem Fresh.left {m : Mp} {h h₁ h₂ : AHeap} (n2 : h₁.n ≤ h₂.n) (hf : Fresh m h h₂) : Fresh m h h₁ := fun i a b => hf i a (Nat.lt_of_lt_of_le b n2)
theorem Fresh.right {m m₁ : Mp} {W : Nat → Prop} {h h₁ h₂ : AHeap} {w w₁ : World} (n1 : h.n ≤ h₁.n) (hf : Fresh m h h₂) (f : Fr m m₁ W h h₁ w w₁) : Fresh m₁ h₁ h₂ := fun i a b => by
  rw [f.old i (.inr a)]; exact hf i (by omega) b

/-- The fence that lets all in; 'r': the round that the frame is of. -/
def WF (r : Option Nat) : Fence := { fn := fun _ => True, depth := none, alive := false, round := r }
theorem WF.room (r : Option Nat) (n : Nat) : (WF r).room n := fun _ h => by simp [WF] at h
def evalT (tm : List Value) : Operand → Value
  | .tmp t => tm.getD t undef
  | .const v => v
  | .global g => .pointer (some ⟨g, 0, none⟩)
  | .func f => .func (.func f) #[] #[]
def Ev : Nat → Prop := fun _ => True

/-- One operation. -/
structure OpRun (P : Program) (D W : Nat → Prop) (o : Oper) (tm : List Value) (h : AHeap) (v : Value) (h' : AHeap) : Prop where
  fr : AFr W h h'
  run : ∀ (m : Mp) (w : World) (A : Act) (r : Option Nat), MOk P m → Fresh m h h' → (∀ x ∈ o.op.operands, VRel m (evalT tm x) (A.eval x)) → HRel P m D h w →
    ∀ (K : Act → World → Prop) (Q : Exit → Act → World → Prop), (∀ v' w' m', Fr m m' W h h' w w' → VRel m' v v' → HRel P m' D h' w' → K (A.put o.dst v') w') → o.wpIn (WF r) 0 P A w K Q
theorem OpRun.weak {P : Program} {D W W' : Nat → Prop} {o : Oper} {tm : List Value} {h h' : AHeap} {v : Value} (k : OpRun P D W o tm h v h') (hw : ∀ i, W i → W' i) : OpRun P D W' o tm h v h' :=
  ⟨k.fr.weak hw, fun m w A r a b c d K Q hK => k.run m w A r a b c d K Q fun v' w' m' f x y => hK v' w' m' (f.weak hw) x y⟩
/-- A call. -/
structure CallRun (P : Program) (W : Nat → Prop) (f : FuncId) (args : Array Value) (h : AHeap) (v : Value) (h' : AHeap) : Prop where
  fr : AFr W h h'
  run : ∀ (m : Mp) (w : World) (args' : Array Value), MOk P m → Fresh m h h' → ARel m args args' → HRel P m Ev h w →
    CallsIn Fence.wide 0 P f args' w fun e w' => ∃ v' m', e = .returned v' ∧ Fr m m' W h h' w w' ∧ VRel m' v v' ∧ HRel P m' Ev h' w'
theorem CallRun.weak {P : Program} {W W' : Nat → Prop} {f : FuncId} {args : Array Value} {h h' : AHeap} {v : Value} (k : CallRun P W f args h v h') (hw : ∀ i, W i → W' i) : CallRun P W' f args h v h' :=
  ⟨k.fr.weak hw, fun m w args' a b c d => (k.run m w args' a b c d).mono fun e w' ⟨v', m', he, f, x⟩ => ⟨v', m', he, f.weak hw, x⟩⟩

structure ASt where
  tm : List Value
  df : List Nat
  h : AHeap
def DRel (m : Mp) (df : List Nat) (ds : List Deferred) : Prop := df.length = ds.length ∧ ∀ (i : Nat) j d, df[i]? = some j → ds[i]? = some d → ∃ l, m j = some l ∧ d = { target := .collected l.b, args := #[] }
theorem DRel.mono {m m' : Mp} (hm : m.le m') {df : List Nat} {ds : List Deferred} (h : DRel m df ds) : DRel m' df ds := ⟨h.1, fun i j d a b => let ⟨l, x, y⟩ := h.2 i j d a b; ⟨l, hm _ _ x, y⟩⟩
structure SRel (P : Program) (m : Mp) (s : ASt) (A : Act) (w : World) : Prop where
  tm : ARel m s.tm.toArray A.tmps
  df : DRel m s.df A.defers
  h : HRel P m Ev s.h w
/-- Code. -/
def Post (P : Program) (m : Mp) (W : Nat → Prop) (s : ASt) (x : Exit) (s' : ASt) (w : World) (x' : Exit) (A' : Act) (w' : World) : Prop := x' = x ∧ ∃ m', Fr m m' W s.h s'.h w w' ∧ SRel P m' s' A' w'
structure Run (P : Program) (W : Nat → Prop) (q : Bool) (c : Code) (s : ASt) (x : Exit) (s' : ASt) : Prop where
  fr : AFr W s.h s'.h
  run : ∀ (m : Mp) (w : World) (A : Act) (r : Option Nat), (q = false → r = none) → MOk P m → Fresh m s.h s'.h → SRel P m s A w → c.wpIn (WF r) 0 P (Post P m W s x s' w) A w
theorem Run.weak {P : Program} {W W' : Nat → Prop} {q : Bool} {c : Code} {s s' : ASt} {x : Exit} (k : Run P W q c s x s') (hw : ∀ i, W i → W' i) : Run P W' q c s x s' :=
  ⟨k.fr.weak hw, fun m w A r hq a b d => wpIn_mono (k.run m w A r hq a b d) fun e a' w' ⟨he, m', f, x⟩ => ⟨he, m', f.weak hw, x⟩⟩
section
variable {P : Program} {W : Nat → Prop} {q : Bool} {c c₁ c₂ : Code} {s s₁ s₂ s' : ASt} {x : Exit}
theorem Run.skip : Run P W q .skip s .normal s := ⟨.refl _ _, fun m w A r _ _ _ hs => wpIn_skip ⟨rfl, m, .refl _ _ _ _, hs⟩⟩
theorem Run.ret : Run P W q .ret s .ret s := ⟨.refl _ _, fun m w A r _ _ _ hs => wpIn_ret ⟨rfl, m, .refl _ _ _ _, hs⟩⟩
theorem Run.exit (id : Nat) : Run P W q (.exit id) s (.exit id) s := ⟨.refl _ _, fun m w A r _ _ _ hs => wpIn_exit ⟨rfl, m, .refl _ _ _ _, hs⟩⟩
theorem Run.label (l : Nat) : Run P W q (.label l) s .normal s := ⟨.refl _ _, fun m w A r _ _ _ hs => wpIn_label ⟨rfl, m, .refl _ _ _ _, hs⟩⟩
theorem Run.seq (h1 : Run P W q c₁ s .normal s₁) (h2 : Run P W q c₂ s₁ x s₂) : Run P W q (.seq c₁ c₂) s x s₂ := by
  refine ⟨h1.fr.trans h2.fr, fun m w A r hq hm hf hs => wpIn_seq (wpIn_mono (h1.run m w A r hq hm (hf.left h2.fr.n) hs) ?_)⟩
  rintro e a₁ w₁ ⟨rfl, m₁, f1, hs1⟩
  have hf1 := hf.left h2.fr.n
  refine wpIn_mono (h2.run m₁ w₁ a₁ r hq (hm.mono (f1.le hf1)) (hf.right h1.fr.n f1) hs1) ?_
  rintro e a₂ w₂ ⟨he, m₂, f2, hs2⟩
  exact ⟨he, m₂, Fr.trans h1.fr h2.fr.n f1 f2, hs2⟩
theorem Run.seq_out (h1 : Run P W q c₁ s x s₁) (hx : x ≠ .normal) : Run P W q (.seq c₁ c₂) s x s₁ := by
  refine ⟨h1.fr, fun m w A r hq hm hf hs => wpIn_seq (wpIn_mono (h1.run m w A r hq hm hf hs) ?_)⟩
  rintro e a₁ w₁ ⟨rfl, h⟩
  cases e with
  | normal => exact absurd rfl hx
  | _ => exact ⟨rfl, h⟩
theorem ARel.eval {m : Mp} (hm : MOk P m) {tm : List Value} {A : Act} (h : ARel m tm.toArray A.tmps) {o : Operand} {b : Bool} (e : evalT tm o = .bool b) : A.eval o = .bool b := by
  cases o with
  | tmp t =>
    have := h.getD t
    simp only [evalT] at e
    rw [show tm.toArray.getD t undef = tm.getD t undef from by simp, e] at this
    exact VRel.eq_of_flat this rfl
  | const v => exact e
  | global g => exact e
  | func f => exact e
theorem Run.cond {o : Operand} {b : Bool} (he : evalT s.tm o = .bool b) (h1 : Run P W q (if b then c₁ else c₂) s x s') : Run P W q (.cond o c₁ c₂) s x s' :=
  ⟨h1.fr, fun m w A r hq hm hf hs => wpIn_cond (hs.tm.eval hm he) (h1.run m w A r hq hm hf hs)⟩
theorem Run.cond_true {o : Operand} (he : evalT s.tm o = .bool true) (h1 : Run P W q c₁ s x s') : Run P W q (.cond o c₁ c₂) s x s' := Run.cond he h1
theorem Run.cond_false {o : Operand} (he : evalT s.tm o = .bool false) (h1 : Run P W q c₂ s x s') : Run P W q (.cond o c₁ c₂) s x s' := Run.cond he h1
def Exit.leave (id : Nat) : Exit → Exit
  | .exit i => if i = id then .normal else .exit i
  | e => e
theorem Run.block {id : Nat} (h1 : Run P W q c s x s') : Run P W q (.block id c) s (Exit.leave id x) s' := by
  refine ⟨h1.fr, fun m w A r hq hm hf hs => wpIn_block (wpIn_mono (h1.run m w A r hq hm hf hs) ?_)⟩
  rintro e a₁ w₁ ⟨rfl, h⟩
  cases e with
  | exit i =>
    simp only [Exit.inBlock, Exit.leave]
    split
    · exact ⟨rfl, h⟩
    · exact ⟨rfl, h⟩
  | _ => exact ⟨rfl, h⟩
/-- The rounds of a loop. -/
inductive LoopRun (P : Program) (W : Nat → Prop) (q : Bool) (c : Code) : ASt → Exit → ASt → Prop
  | out {s s' : ASt} {x : Exit} (h : Run P W q c s x s') (hx : x ≠ .normal) : LoopRun P W q c s x s'
  | more {s s₁ s' : ASt} {x : Exit} (h : Run P W q c s .normal s₁) (k : LoopRun P W q c s₁ x s') : LoopRun P W q c s x s'
theorem LoopRun.fr (h : LoopRun P W q c s x s') : AFr W s.h s'.h := by
  induction h with
  | out h _ => exact h.fr
  | more h _ ih => exact h.fr.trans ih
theorem LoopRun.run (h : LoopRun P W q c s x s') : ∀ (m : Mp) (w : World) (A : Act) (r : Option Nat), (q = false → r = none) → MOk P m → Fresh m s.h s'.h → SRel P m s A w →
    ∀ (b : Frame) (k : List Item) (cs : List Frame), b.roundOf = r → ∃ e a' w', Post P m W s x s' w e a' w' ∧ ArrivesIn (Machine.fenced P (WF r)) P (lone (b.atR A (.code c :: .inLoop c :: k)) cs w) b k cs e a' w' := by
  induction h with
  | @out s s' x h hx =>
    intro m w A r hq hm hf hs b k cs hb
    obtain ⟨e, a', w', hq, harr⟩ := h.run m w A r hq hm hf hs b (.inLoop c :: k) cs hb trivial (WF.room _ _)
    refine ⟨e, a', w', hq, .pass (x := .inLoop c) rfl (fun _ _ => .inl ?_) harr⟩
    rw [hq.1]; exact hx
  | @more s s₁ s' x h kk ih =>
    intro m w A r hq hm hf hs b k cs hb
    have hf1 := hf.left kk.fr.n
    obtain ⟨e, a₁, w₁, ⟨he, m₁, f1, hs1⟩, harr⟩ := h.run m w A r hq hm hf1 hs b (.inLoop c :: k) cs hb trivial (WF.room _ _)
    subst he
    obtain ⟨e₂, a₂, w₂, ⟨he, m₂, f2, hs2⟩, harr₂⟩ := ih m₁ w₁ a₁ r hq (hm.mono (f1.le hf1)) (hf.right h.fr.n f1) hs1 b k cs hb
    exact ⟨e₂, a₂, w₂, ⟨he, m₂, Fr.trans h.fr kk.fr.n f1 f2, hs2⟩, .of_steps (StepsIn.trans harr (.one (fenced_calm (F := WF r) (n := 0) trivial (WF.room _ _) rfl) stepR_inLoop)) harr₂⟩
theorem Run.loop (h : LoopRun P W q c s x s') : Run P W q (.loop c) s x s' := by
  refine ⟨h.fr, fun m w A r hq hm hf hs b k cs hb h1 h2 => ?_⟩
  obtain ⟨e, a', w', hq, harr⟩ := h.run m w A r hq hm hf hs b k cs hb
  exact ⟨e, a', w', hq, .of_steps (.one (fenced_calm (F := WF r) h1 h2 rfl) stepR_loop) harr⟩
end
end Go.Proofs.Ytmelgnpogdilgaa
