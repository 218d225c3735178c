/- Operations that make no memory and write none, on related memories. No conditions. -/
import Derived.Test.YtmelgnpogdilgaaAbsC
namespace Go.Proofs.Ytmelgnpogdilgaa
set_option linter.unusedVariables false

theorem wpIn_value {P : Program} {o : Oper} {A : Act} {w w' : World} {v : Value} {r : Option Nat} {K : Act → World → Prop} {Q : Exit → Act → World → Prop} (hd : ∀ c, o.op ≠ .defer c)
    (h : (execOp A.eval o).run P w = .ok (.value v) w') (hK : K (A.put o.dst v) w') : o.wpIn (WF r) 0 P A w K Q :=
  ⟨fun _ _ => trivial, by rw [Oper.semAt_eq _ _ _ hd, h]; exact hK⟩
theorem wpIn_skipped {P : Program} {o : Oper} {A : Act} {w w' : World} {r : Option Nat} {K : Act → World → Prop} {Q : Exit → Act → World → Prop} (hd : ∀ c, o.op ≠ .defer c)
    (h : (execOp A.eval o).run P w = .ok .skip w') (hK : K (A.put o.dst undef) w') : o.wpIn (WF r) 0 P A w K Q :=
  ⟨fun _ _ => trivial, by rw [Oper.semAt_eq _ _ _ hd, h]; exact hK⟩
theorem OpRun.ofPure {P : Program} {D W : Nat → Prop} {o : Oper} {tm : List Value} {h : AHeap} {v : Value} (hd : ∀ c, o.op ≠ .defer c)
    (hr : ∀ (m : Mp) (w : World) (A : Act), MOk P m → (∀ x ∈ o.op.operands, VRel m (evalT tm x) (A.eval x)) → HRel P m D h w → ∃ v', VRel m v v' ∧ (execOp A.eval o).run P w = .ok (.value v') w) : OpRun P D W o tm h v h :=
  ⟨.refl _ _, fun m w A r hm hf hx H K Q hK => let ⟨v', a, b⟩ := hr m w A hm hx H; wpIn_value hd b (hK v' w m (.refl _ _ _ _) a H)⟩

/-- What a program part yields that looks at no memory. -/
def calm {α : Type} (P : Program) : Sem α → Option α
  | .pure a => some a
  | .program k => calm P (k P)
  | .mark _ k => calm P k
  | _ => none
theorem calm_run {α : Type} {P : Program} {s : Sem α} {a : α} (h : calm P s = some a) (w : World) : s.run P w = .ok a w := by
  induction s with
  | pure b => simp [calm] at h; subst h; rfl
  | program k ih => simp only [calm] at h; exact ih P h
  | mark m k ih => simp only [calm] at h; exact ih h
  | _ => simp [calm] at h
theorem run_under {P : Program} {t : TypeId} {d : TypeDesc} (h : P.underlying t = some d) (w : World) : (underlying t).run P w = .ok d w := by
  simp [underlying, h]
theorem run_sizeOf {P : Program} {t : TypeId} {n : Nat} (h : sizeT P t = some n) (w : World) : (sizeOf t).run P w = .ok n w := by
  unfold sizeT at h
  cases hi : P.info? t with
  | none => rw [hi] at h; cases h
  | some i => rw [hi] at h; cases h; simp [sizeOf, typeInfo, hi]
/-- How many cells a value of a type has: 'some none': one, by itself. -/
def cellsT (P : Program) (t : TypeId) : Option (Option Nat) :=
  match P.underlying t with
  | none => none
  | some (.struct _) => (sizeT P t).map some
  | some (.array _ _) => (sizeT P t).map some
  | some _ => some none
theorem run_isAgg_no {P : Program} {t : TypeId} (h : cellsT P t = some none) (w : World) : (isAgg t).run P w = .ok false w := by
  unfold cellsT at h
  unfold isAgg
  cases hu : P.underlying t with
  | none => rw [hu] at h; cases h
  | some d =>
    rw [hu] at h
    cases d <;> first | (simp [run_under hu]; done) | (simp at h; done)
theorem run_isAgg_yes {P : Program} {t : TypeId} {n : Nat} (h : cellsT P t = some (some n)) (w : World) : (isAgg t).run P w = .ok true w ∧ sizeT P t = some n := by
  unfold cellsT at h
  unfold isAgg
  cases hu : P.underlying t with
  | none => rw [hu] at h; cases h
  | some d =>
    rw [hu] at h
    cases d <;> first | (simp at h; exact ⟨by simp [run_under hu], h⟩) | (simp at h; done)
theorem evalT_rel {m : Mp} {tm : List Value} {x : Operand} {v v' : Value} (h : VRel m (evalT tm x) v') (e : evalT tm x = v) : VRel m v v' := e ▸ h

section
variable {P : Program} {D W : Nat → Prop} {o : Oper} {tm : List Value} {h : AHeap}
/-! ### Loads -/
def aLoad (P : Program) (h : AHeap) (t : TypeId) : Value → Option (Value × Nat)
  | .pointer (some ⟨b, o, none⟩) => match rowOf (h.get b), cellsT P t with
    | some c, some none => (c[o]?).map fun v => (v, b)
    | some c, some (some n) => if o + n ≤ c.length then some (.agg ((c.drop o).take n).toArray, b) else none
    | _, _ => none
  | _ => none
theorem aLoad_run {t : TypeId} {a v : Value} {b : Nat} (he : aLoad P h t a = some (v, b)) (hD : D b) {m : Mp} {w : World} (H : HRel P m D h w) {a' : Value} (ha : VRel m a a') :
    ∃ v' x, a' = .pointer (some x) ∧ (loadVar t x).run P w = .ok v' w ∧ VRel m v v' := by
  unfold aLoad at he
  split at he
  · rename_i bb oo
    cases ha with
    | @ptr _ _ l hm =>
      split at he
      · rename_i c hg hc
        simp only [Option.map_eq_some_iff, Prod.mk.injEq] at he
        obtain ⟨u, hu, rfl, rfl⟩ := he
        obtain ⟨v', e1, e2⟩ := H.rcell hD hm hg hu
        exact ⟨v', _, rfl, by simp [loadVar, run_isAgg_no hc, e1], e2⟩
      · rename_i c n hg hc
        split at he
        · rename_i hle
          cases he
          obtain ⟨cs, e1, e2⟩ := H.rloadCells hD hm hg hle
          obtain ⟨h1, h2⟩ := run_isAgg_yes hc w
          exact ⟨.agg cs, _, rfl, by simp [loadVar, h1, run_sizeOf h2, e1], .agg e2.1 e2.2⟩
        · cases he
      · cases he
  · cases he
theorem OpRun.load {t : TypeId} {x : Operand} {v : Value} {b : Nat} (ho : o.op = .load t x) (he : aLoad P h t (evalT tm x) = some (v, b)) (hD : D b) : OpRun P D W o tm h v h :=
  .ofPure (by simp [ho]) fun m w A hm hx H => by
    obtain ⟨v', y, e1, e2, e3⟩ := aLoad_run he hD H (hx x (by simp [ho, Op.operands]))
    exact ⟨v', e3, by simp [execOp, ho, Instr.loadAt, e1, Instr.sureAddr, e2]⟩
/-! ### Moves -/
theorem OpRun.move {x : Operand} (ho : o.op = .move x) : OpRun P D W o tm h (evalT tm x) h :=
  .ofPure (by simp [ho]) fun m w A hm hx H => ⟨_, hx x (by simp [ho, Op.operands]), by simp [execOp, ho]⟩
theorem OpRun.assign {x : Operand} (ho : o.op = .assign x) : OpRun P D W o tm h (evalT tm x) h :=
  .ofPure (by simp [ho]) fun m w A hm hx H => ⟨_, hx x (by simp [ho, Op.operands]), by simp [execOp, ho]⟩
theorem OpRun.pick {c a b : Operand} {t : Bool} (ho : o.op = .pick c a b) (hc : evalT tm c = .bool t) : OpRun P D W o tm h (if t then evalT tm a else evalT tm b) h :=
  .ofPure (by simp [ho]) fun m w A hm hx H => by
    have h1 := VRel.eq_of_flat (hx c (by simp [ho, Op.operands])) (by rw [hc]; rfl)
    rw [hc] at h1
    refine ⟨if t then A.eval a else A.eval b, ?_, by simp [execOp, ho, h1, asBool]⟩
    cases t
    · exact hx b (by simp [ho, Op.operands])
    · exact hx a (by simp [ho, Op.operands])
/-! ### Addresses -/
def aField (P : Program) (s : TypeId) (f : Nat) : Value → Option Value
  | .pointer (some ⟨b, o, none⟩) => match P.underlying s with
    | some (.struct fs) => match fs[f]? with
      | some fd => match sizeT P fd.type with
        | some (_ + 1) => some (.pointer (some ⟨b, o + fd.offset, none⟩))
        | _ => none
      | none => none
    | _ => none
  | _ => none
theorem OpRun.fieldAddr {s : TypeId} {x : Operand} {f : Nat} {v : Value} (ho : o.op = .fieldAddr s x f) (he : aField P s f (evalT tm x) = some v) : OpRun P D W o tm h v h :=
  .ofPure (by simp [ho]) fun m w A hm hx H => by
    have ha := hx x (by simp [ho, Op.operands])
    unfold aField at he
    split at he
    · rename_i bb oo hb
      rw [hb] at ha
      split at he
      · rename_i fs hu
        split at he
        · rename_i fd hfd
          split at he
          · rename_i n hn
            cases he
            generalize hy : A.eval x = y at ha
            cases ha with
            | @ptr _ _ l hl =>
              refine ⟨_, .ptr hl, ?_⟩
              simp [execOp, ho, Instr.fieldAt, run_under hu, hfd, hy, Instr.sureAddr, fieldPlace, run_sizeOf hn, addr_add]
          · cases he
        · cases he
      · cases he
    · cases he
def aIndexAddr (P : Program) (t : TypeId) : Value → Value → Option Value
  | .slice (some ⟨b, o, none⟩) len _, .int _ i => match P.underlying t with
    | some (.slice e) => match sizeT P e with
      | some n => if 0 ≤ i ∧ i < (len : Int) then some (.pointer (some ⟨b, o + i.toNat * n, none⟩)) else none
      | none => none
    | _ => none
  | .pointer (some ⟨b, o, none⟩), .int _ i => match P.underlying t with
    | some (.array len e) => match sizeT P e with
      | some n => if 0 ≤ i ∧ i < (len : Int) then some (.pointer (some ⟨b, o + i.toNat * n, none⟩)) else none
      | none => none
    | _ => none
  | _, _ => none
theorem OpRun.indexAddr {t : TypeId} {x ix : Operand} {v : Value} (ho : o.op = .indexAddr t x ix) (he : aIndexAddr P t (evalT tm x) (evalT tm ix) = some v) : OpRun P D W o tm h v h :=
  .ofPure (by simp [ho]) fun m w A hm hx H => by
    have ha := hx x (by simp [ho, Op.operands])
    have hi := hx ix (by simp [ho, Op.operands])
    unfold aIndexAddr at he
    split at he
    · rename_i bb oo len cap k i e1 e2
      rw [e1] at ha
      rw [e2] at hi
      have hi' := VRel.eq_of_flat hi rfl
      split at he
      · rename_i e hu
        split at he
        · rename_i n hn
          split at he
          · rename_i hlt
            cases he
            generalize hy : A.eval x = y at ha
            cases ha with
            | @slice _ _ _ _ cap' l hl hc =>
              refine ⟨_, .ptr hl, ?_⟩
              simp [execOp, ho, Instr.indexAt, hi', asIntOf, run_under hu, hy, hlt, run_sizeOf hn, addr_add]
            | slice0 => omega
          · cases he
        · cases he
      · cases he
    · rename_i bb oo k i e1 e2
      rw [e1] at ha
      rw [e2] at hi
      have hi' := VRel.eq_of_flat hi rfl
      split at he
      · rename_i len e hu
        split at he
        · rename_i n hn
          split at he
          · rename_i hlt
            cases he
            generalize hy : A.eval x = y at ha
            cases ha with
            | @ptr _ _ l hl =>
              refine ⟨_, .ptr hl, ?_⟩
              simp [execOp, ho, Instr.indexAt, hi', asIntOf, run_under hu, hy, hlt, run_sizeOf hn, Instr.sureAddr, addr_add]
          · cases he
        · cases he
      · cases he
    · cases he
theorem OpRun.nilCheck {x : Operand} {b c : Nat} (ho : o.op = .nilCheck x) (he : evalT tm x = .pointer (some ⟨b, c, none⟩)) : OpRun P D W o tm h (.pointer (some ⟨b, c, none⟩)) h :=
  .ofPure (by simp [ho]) fun m w A hm hx H => by
    have ha := hx x (by simp [ho, Op.operands])
    rw [he] at ha
    generalize hy : A.eval x = y at ha
    cases ha with
    | @ptr _ _ l hl => exact ⟨_, .ptr hl, by simp [execOp, ho, hy]⟩
/-! ### Parts of values -/
def aPart (P : Program) (t : TypeId) (cs : Array Value) (off : Nat) : Option Value :=
  match cellsT P t with
  | some none => cs[off]?
  | some (some n) => some (.agg ((cs.toList.drop off).take n).toArray)
  | none => none
theorem aPart_run {t : TypeId} {cs cs' : Array Value} {off : Nat} {v : Value} (he : aPart P t cs off = some v) {m : Mp} (ha : ARel m cs cs') (w : World) : ∃ v', (part t cs' off).run P w = .ok v' w ∧ VRel m v v' := by
  unfold aPart at he
  split at he
  · rename_i hc
    obtain ⟨v', e1, e2⟩ := ha.get he
    exact ⟨v', by simp [part, run_isAgg_no hc, e1], e2⟩
  · rename_i n hc
    cases he
    obtain ⟨h1, h2⟩ := run_isAgg_yes hc w
    have e : ((cs.toList.drop off).take n).toArray = cs.extract off (off + n) := by
      apply Array.ext_getElem?
      intro i
      simp only [List.getElem?_toArray, List.getElem?_take, List.getElem?_drop, Array.getElem?_toList, Array.getElem?_extract]
      by_cases h1 : i < n
      · rw [if_pos h1]
        by_cases h2 : i < min (off + n) cs.size - off
        · rw [if_pos h2]
        · rw [if_neg h2, Array.getElem?_eq_none (by omega)]
      · rw [if_neg h1, if_neg (by omega)]
    rw [e]
    exact ⟨.agg (cs'.extract off (off + n)), by simp [part, h1, run_sizeOf h2], .agg (ha.extract _ _).1 (ha.extract _ _).2⟩
  · cases he
def aFieldOf (P : Program) (t : TypeId) (f : Nat) : Value → Option Value
  | .agg cs => match P.underlying t with
    | some (.struct fs) => match fs[f]? with
      | some fd => aPart P fd.type cs fd.offset
      | none => none
    | _ => none
  | _ => none
theorem OpRun.field {t : TypeId} {x : Operand} {f : Nat} {v : Value} (ho : o.op = .field t x f) (he : aFieldOf P t f (evalT tm x) = some v) : OpRun P D W o tm h v h :=
  .ofPure (by simp [ho]) fun m w A hm hx H => by
    have ha := hx x (by simp [ho, Op.operands])
    unfold aFieldOf at he
    split at he
    · rename_i cs e1
      rw [e1] at ha
      split at he
      · rename_i fs hu
        split at he
        · rename_i fd hfd
          generalize hy : A.eval x = y at ha
          cases ha with
          | agg h1 h3 =>
            obtain ⟨v', e2, e3⟩ := aPart_run he ⟨h1, h3⟩ w
            exact ⟨v', e3, by simp [execOp, ho, Instr.field, run_under hu, hfd, hy, asAgg, e2]⟩
        · cases he
      · cases he
    · cases he
def aExtract (i : Nat) : Value → Option Value
  | .tuple vs => vs[i]?
  | _ => none
theorem OpRun.extract {x : Operand} {i : Nat} {v : Value} (ho : o.op = .extract x i) (he : aExtract i (evalT tm x) = some v) : OpRun P D W o tm h v h :=
  .ofPure (by simp [ho]) fun m w A hm hx H => by
    have ha := hx x (by simp [ho, Op.operands])
    unfold aExtract at he
    split at he
    · rename_i vs e1
      rw [e1] at ha
      generalize hy : A.eval x = y at ha
      cases ha with
      | tuple h1 h3 =>
        obtain ⟨v', e2, e3⟩ := ARel.get ⟨h1, h3⟩ he
        exact ⟨v', e3, by simp [execOp, ho, Instr.extract, hy, e2]⟩
    · cases he
def aIndex (P : Program) (t : TypeId) : Value → Value → Option Value
  | .agg cs, .int _ i => match P.underlying t with
    | some (.array len e) => match sizeT P e with
      | some n => if 0 ≤ i ∧ i < (len : Int) then aPart P e cs (i.toNat * n) else none
      | none => none
    | _ => none
  | .string s, .int _ i => match P.underlying t with
    | some .string => if 0 ≤ i then (s.data[i.toNat]?).map fun b => .int .u8 b.toNat else none
    | _ => none
  | _, _ => none
theorem OpRun.index {t : TypeId} {x ix : Operand} {v : Value} (ho : o.op = .index t x ix) (he : aIndex P t (evalT tm x) (evalT tm ix) = some v) : OpRun P D W o tm h v h :=
  .ofPure (by simp [ho]) fun m w A hm hx H => by
    have ha := hx x (by simp [ho, Op.operands])
    have hi := hx ix (by simp [ho, Op.operands])
    unfold aIndex at he
    split at he
    · rename_i cs k i e1 e2
      rw [e1] at ha
      rw [e2] at hi
      have hi' := VRel.eq_of_flat hi rfl
      split at he
      · rename_i len e hu
        split at he
        · rename_i n hn
          split at he
          · rename_i hlt
            generalize hy : A.eval x = y at ha
            cases ha with
            | agg h1 h3 =>
              obtain ⟨v', e2, e3⟩ := aPart_run he ⟨h1, h3⟩ w
              exact ⟨v', e3, by simp [execOp, ho, Instr.index, hi', asIntOf, run_under hu, hy, hlt, run_sizeOf hn, e2]⟩
          · cases he
        · cases he
      · cases he
    · rename_i s k i e1 e2
      rw [e1] at ha
      rw [e2] at hi
      have hi' := VRel.eq_of_flat hi rfl
      have ha' := VRel.eq_of_flat ha rfl
      split at he
      · rename_i hu
        split at he
        · rename_i h0
          simp only [Option.map_eq_some_iff] at he
          obtain ⟨b, hb, rfl⟩ := he
          have hb' : s[i.toNat]? = some b := by
            have hlt := (Array.getElem?_eq_some_iff.1 hb).1
            have : i.toNat < s.size := hlt
            rw [getElem?_pos s i.toNat this]
            rw [Array.getElem?_eq_getElem hlt] at hb
            exact hb
          exact ⟨_, .int _ _, by simp [execOp, ho, Instr.index, hi', ha', asIntOf, run_under hu, h0, hb']⟩
        · cases he
      · cases he
    · cases he
/-! ### Values without addresses -/
theorem OpRun.calm {v : Value} (hd : ∀ c, o.op ≠ .defer c) (hs : ∀ cs b, o.op ≠ .select cs b) (hf : ∀ x ∈ o.op.operands, flatB (evalT tm x) = true) (he : calm P (execOp (evalT tm) o) = some (.value v)) (hv : flatB v = true) : OpRun P D W o tm h v h :=
  .ofPure hd fun m w A hm hx H => by
    have e : execOp A.eval o = execOp (evalT tm) o := execOp_congr o hs fun x hxo => VRel.eq_of_flat (hx x hxo) (hf x hxo)
    exact ⟨v, .flat m hv, by rw [e]; exact calm_run he w⟩
theorem OpRun.makeInterface {t : TypeId} {x : Operand} {d : TypeDesc} (ho : o.op = .makeInterface t x) (hu : P.underlying t = some d) (hn : ∀ ms, d ≠ .interface ms) : OpRun P D W o tm h (.iface t (evalT tm x)) h :=
  .ofPure (by simp [ho]) fun m w A hm hx H => by
    refine ⟨_, .iface t (hx x (by simp [ho, Op.operands])), ?_⟩
    cases d <;> first | exact absurd rfl (hn _) | simp [execOp, ho, Instr.makeInterface, run_under hu]
theorem OpRun.makeFunc {fn : Fn} {a b : Array Operand} (ho : o.op = .makeFunc fn a b) (hn : ∀ r, fn ≠ .yield r) : OpRun P D W o tm h (.func fn (a.map (evalT tm)) (b.map (evalT tm))) h :=
  .ofPure (by simp [ho]) fun m w A hm hx H => by
    have h1 := ARel.of_map (m := m) a (evalT tm) A.eval fun x hxa => hx x (by simp [ho, Op.operands, hxa])
    have h2 := ARel.of_map (m := m) b (evalT tm) A.eval fun x hxa => hx x (by simp [ho, Op.operands, hxa])
    exact ⟨_, .func hn h1.1 h2.1 h1.2 h2.2, by simp [execOp, ho, Instr.makeFunc]⟩
end
end Go.Proofs.Ytmelgnpogdilgaa
