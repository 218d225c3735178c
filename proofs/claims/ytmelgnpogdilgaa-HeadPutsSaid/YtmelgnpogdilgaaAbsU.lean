/- clear, nil checks of functions, scopes, calls whose own memory is let go. No conditions. -/
import Derived.Test.YtmelgnpogdilgaaAbsS
namespace Go.Proofs.Ytmelgnpogdilgaa
set_option linter.unusedVariables false
section
variable {P : Program} {D W : Nat → Prop} {o : Oper} {tm : List Value} {h : AHeap}
def aClear (P : Program) (h : AHeap) (t : TypeId) (x : Value) : Option (AHeap × List Nat) :=
  match P.underlying t, x with
  | some (.slice e), .slice (some ⟨b, o, none⟩) n _ => if n = 0 then some (h, []) else match zeroT P e, h.get b with
    | some z, some (.cells c ct) => if flatB z = true ∧ o + (zeros z.cells.toList n).length ≤ c.length ∧ (zeros z.cells.toList n).all Value.oneCell' = true then some (h.put b (some (.cells (setL c o (zeros z.cells.toList n)) ct)), [b]) else none
    | _, _ => none
  | some (.slice e), .slice none _ _ => some (h, [])
  | _, _ => none
theorem OpRun.clear {t : TypeId} {x : Operand} {h' : AHeap} {wr : List Nat} (ho : o.op = .call { callee := .builtin .clear, args := #[x], argTypes := #[t] }) (he : aClear P h t (evalT tm x) = some (h', wr)) (hD : ∀ i ∈ wr, D i) (hW : ∀ i ∈ wr, W i) : OpRun P D W o tm h undef h' := by
  have hnd : ∀ c, o.op ≠ .defer c := by simp [ho]
  have ur : ∀ m, VRel m undef (.tuple #[]) := fun m => .tuple rfl fun i v v' e => by simp at e
  unfold aClear at he
  split at he
  · rename_i e b oo n cp hu e1
    split at he
    · rename_i h0
      subst h0
      cases he
      refine .ofPure hnd fun m w A hm hx H => ⟨.tuple #[], ur m, ?_⟩
      have h1 := hx x (by simp [ho, Op.operands, Call.operands])
      rw [e1] at h1
      rw [exec_builtin ho]
      generalize hy : A.eval x = z at h1
      cases h1 <;> simp [builtin, Builtin.clear_, run_under hu, hy]
    · rename_i h0
      split at he
      · rename_i z c ct hz hg
        split at he
        · rename_i hcond
          cases he
          have hWb : W b := hW b (by simp)
          have hDb : D b := hD b (by simp)
          refine .ofSame hnd (.put h hWb hg (setL_length hcond.2.1)) fun m w A hm hx H => ?_
          have h1 := hx x (by simp [ho, Op.operands, Call.operands])
          rw [e1] at h1
          generalize hy : A.eval x = zz at h1
          cases h1 with
          | @slice _ _ _ _ cap' l hl hcap =>
            have hzc : Builtin.zeroCells z.cells n = (zeros z.cells.toList n).toArray := by
              have := zeros_eq z.cells.toList n
              simpa [Builtin.zeroCells] using this
            obtain ⟨w', a1, bb, f⟩ := HRel.storeL (P := P) (t := ct) (h := h) hDb hWb (AHeap.live_of hg rfl) (AHeap.lt hg) hl (zeros z.cells.toList n) (zeros z.cells.toList n) w c h oo 0 H rfl hg (zeros_flat m (flat_cells hcond.1 m) n) (fun v hv => List.all_eq_true.1 hcond.2.2 v hv) (by omega)
            refine ⟨.tuple #[], w', ?_, ur m, ⟨f.old, f.new, f.keep, f.size, f.os, f.tape, f.output⟩, bb⟩
            rw [exec_builtin ho]
            obtain ⟨n', rfl⟩ : ∃ n', n = n' + 1 := ⟨n - 1, by omega⟩
            simp [builtin, Builtin.clear_, hy, run_under hu, run_zero hz, hzc, a1]
          | slice0 => exact absurd rfl h0
        · cases he
      · cases he
  · rename_i e a c hu e1
    cases he
    refine .ofPure hnd fun m w A hm hx H => ⟨.tuple #[], ur m, ?_⟩
    have h1 := hx x (by simp [ho, Op.operands, Call.operands])
    rw [e1] at h1
    rw [exec_builtin ho]
    generalize hy : A.eval x = z at h1
    cases h1
    simp [builtin, Builtin.clear_, run_under hu, hy]
  · cases he
theorem OpRun.nilCheckF {x : Operand} {fn : Fn} {a b : Array Value} (ho : o.op = .nilCheck x) (he : evalT tm x = .func fn a b) (hf : ∀ s, fn ≠ .method s) : OpRun P D W o tm h (.func fn a b) h :=
  .ofPure (by simp [ho]) fun m w A hm hx H => by
    have ha := hx x (by simp [ho, Op.operands])
    rw [he] at ha
    generalize hy : A.eval x = y at ha
    cases ha with
    | @func _ _ _ a' b' hfn h1 h2 h3 h4 =>
      refine ⟨_, .func hfn h1 h2 h3 h4, ?_⟩
      cases fn with
      | method s => exact absurd rfl (hf s)
      | _ => simp [execOp, ho, hy]
    | yield hl => exact ⟨_, .yield hl, by simp [execOp, ho, hy]⟩
/-! ### Scopes -/
theorem stepR_scope {b : Frame} {a : Act} {k : List Item} {cs : List Frame} {w : World} {c : Code} : step P (lone (b.atR a (.code (.scope c) :: k)) cs w) = .next (lone (b.atR a (.code c :: .inScope c :: k)) cs w) :=
  step_lone_go (by simp [stepG, stepG.exec, Frame.atR])
theorem stepR_inScope {b : Frame} {a : Act} {k : List Item} {cs : List Frame} {w : World} {c : Code} : step P (lone (b.atR a (.inScope c :: k)) cs w) = .next (lone (b.atR a k) cs w) :=
  step_lone_go (by simp [stepG, stepG.exec, Frame.atR])
theorem Run.scope {q : Bool} {c : Code} {s s' : ASt} {x : Exit} (h1 : Run P W q c s x s') (hx : ∀ l, x ≠ .goto l) : Run P W q (.scope c) s x s' := by
  refine ⟨h1.fr, fun m w A r hq hm hf hs b k cs hb hF hr => ?_⟩
  obtain ⟨e, a', w', hpost, harr⟩ := h1.run m w A r hq hm hf hs b (.inScope c :: k) cs hb hF hr
  have he : e = x := hpost.1
  have s0 : StepsIn (Machine.fenced P (WF r)) P (lone (b.atR A (.code (.scope c) :: k)) cs w) (lone (b.atR A (.code c :: .inScope c :: k)) cs w) := .one (fenced_calm (F := WF r) hF hr rfl) stepR_scope
  refine ⟨e, a', w', hpost, .of_steps s0 ?_⟩
  cases e with
  | normal => exact StepsIn.trans harr (.one (fenced_calm (F := WF r) hF hr rfl) stepR_inScope)
  | goto l => exact absurd he.symm (hx l)
  | exit id =>
    refine ⟨fun k' hk => harr.1 k' (by simpa [exitTo] using hk), fun hro hk => ?_⟩
    exact harr.2 hro (by simpa [exitTo] using hk)
  | ret => exact harr
  | panic ch => exact harr
  | outgrown => exact harr
/-! ### Calls: only what was there before counts -/
theorem CallRun.old {f : FuncId} {args : Array Value} {h' : AHeap} {v : Value} (k : CallRun P W f args h v h') : CallRun P (fun i => W i ∧ i < h.n) f args h v h' :=
  ⟨⟨k.fr.n, fun i hi hn => k.fr.get i hi fun hw => hn ⟨hw, hi⟩, k.fr.typ, k.fr.alive, k.fr.live, k.fr.roT⟩,
   fun m w args' a b c d => (k.run m w args' a b c d).mono fun e w' ⟨v', m', he, f, x⟩ => ⟨v', m', he, ⟨f.old, fun i l h1 h2 h3 => (f.new i l h1 h2 h3).imp id fun ⟨j, k, a1, a2, a3⟩ => ⟨j, k, a1, ⟨a2, a1⟩, a3⟩, fun b hb hk => f.keep b hb fun j k a1 a2 => hk j k a1 ⟨a2, a1⟩, f.size, f.os, f.tape, f.output⟩, x⟩⟩
end
end Go.Proofs.Ytmelgnpogdilgaa
