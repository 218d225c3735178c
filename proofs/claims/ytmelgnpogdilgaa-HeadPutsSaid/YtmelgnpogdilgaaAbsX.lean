/- The evaluator's operations are sound. No conditions. -/
import Derived.Test.YtmelgnpogdilgaaAbsW
namespace Go.Proofs.Ytmelgnpogdilgaa
set_option linter.unusedVariables false
section
variable {P : Program} {CF : CallF} {RF : CodeF} {o : Oper} {tm : List Value} {h : AHeap}
def OpOk (P : Program) (o : Oper) (tm : List Value) (h : AHeap) (r : OR) : Prop :=
  (r.same = true → r.h = h) ∧ ∀ D W : Nat → Prop, (r.all = true → D = Ev) → (∀ i ∈ r.rd, D i) → (∀ i ∈ r.wr, D i ∧ W i) → OpRun P D W o tm h r.v r.h
def CFOk (P : Program) (CF : CallF) : Prop := ∀ f args h v h' wr, CF f args h = some (v, h', wr) → CallRun P (· ∈ wr) f args.toArray h v h'
def RFOk (P : Program) (RF : CodeF) : Prop := ∀ c tm df h r, RF c tm df h = some r → Run P (· ∈ r.wr) true c ⟨tm, df, h⟩ r.x ⟨r.tm, r.df, r.h⟩
theorem OpOk.pure {v : Value} (k : ∀ D W, OpRun P D W o tm h v h) : OpOk P o tm h (pureO h v) := ⟨fun _ => rfl, fun D W _ _ _ => k D W⟩
theorem OpOk.read {v : Value} {rd : List Nat} (k : ∀ D W : Nat → Prop, (∀ i ∈ rd, D i) → OpRun P D W o tm h v h) : OpOk P o tm h (readO h v rd) := ⟨fun _ => rfl, fun D W _ hr _ => k D W hr⟩
theorem OpOk.new {v : Value} {h' : AHeap} (k : ∀ D W, OpRun P D W o tm h v h') : OpOk P o tm h ⟨v, h', [], [], false, false⟩ := ⟨(fun e => by cases e), fun D W _ _ _ => k D W⟩
theorem OpOk.write {v : Value} {h' : AHeap} {rd wr : List Nat} (k : ∀ D W : Nat → Prop, (∀ i ∈ rd, D i) → (∀ i ∈ wr, D i ∧ W i) → OpRun P D W o tm h v h') : OpOk P o tm h ⟨v, h', rd, wr, false, false⟩ := ⟨(fun e => by cases e), fun D W _ hr hw => k D W hr hw⟩
theorem aCalm_sound {r : OR} (hd : ∀ c, o.op ≠ .defer c) (hs : ∀ cs b, o.op ≠ .select cs b) (he : aCalm P o (evalT tm) h = some r) : OpOk P o tm h r := by
  unfold aCalm at he
  split at he
  · rename_i hf
    split at he
    · rename_i v hc
      split at he
      · rename_i hv
        cases he
        exact .pure fun D W => .calm hd hs (fun x hx => List.all_eq_true.1 hf x (by simpa using hx)) hc hv
      · cases he
    · cases he
  · cases he
theorem calls_spec {g : FuncId} (hc : calls P g = true) : ∃ fn, P.funcs[g]? = some fn ∧ (fn.name == "runtime.NumGoroutine") = false ∧ fn.body.isSome = true := by
  unfold calls at hc
  split at hc
  · rename_i fn hf
    rw [Bool.and_eq_true, Bool.not_eq_true'] at hc
    exact ⟨fn, hf, hc.1, hc.2⟩
  · cases hc
theorem aYield_sound {f : Operand} {xs : Array Operand} {ts : Array TypeId} {l : Nat} {r : OR} (hRF : RFOk P RF) (ho : o.op = .call ⟨.value f, xs, ts⟩) (hf : evalT tm f = .func (.yield l) #[] #[]) (he : aYield RF h l (xs.toList.map (evalT tm)) = some r) : OpOk P o tm h r := by
  unfold aYield at he
  split at he
  case h_2 => cases he
  rename_i pe tmL ps asg bo df hl
  split at he
  case isFalse => cases he
  rename_i hsz
  split at he
  case h_2 => cases he
  rename_i tm₁ df₁ h₁ wr₁ h1
  split at he
  case h_2 => cases he
  rename_i pe' tmL' ps' as' bo' df' hl₁
  split at he
  case h_2 => cases he
  rename_i x tm2 df2 h₂ wr₂ h2
  split at he
  case h_2 => cases he
  rename_i st₂ pe₂ tm₂ ps₂ as₂ bo₂ df₂ jump hl₂ hj
  cases he
  refine ⟨(fun e => by cases e), fun D W hall _ hw => ?_⟩
  rw [hall rfl]
  have r1 := hRF _ _ _ _ _ h1
  have r2 := hRF _ _ _ _ _ h2
  have hsz' : xs.size = ps.size := by simpa using hsz
  exact OpRun.yield (s₁ := ⟨tm₁, df₁, h₁⟩) (s₂ := ⟨tm2, df2, h₂⟩) ho hf hl hsz' (r1.weak fun i hi => (hw i (by simp at hi ⊢; exact .inr (.inl hi))).2) hl₁ (r2.weak fun i hi => (hw i (by simp at hi ⊢; exact .inr (.inr hi))).2) hl₂ hj (hw l (by simp)).2
theorem aCallee_sound {f : Operand} {xs : Array Operand} {ts : Array TypeId} {r : OR} (hCF : CFOk P CF) (hRF : RFOk P RF) (ho : o.op = .call ⟨.value f, xs, ts⟩) (he : aCallee P CF RF h (xs.toList.map (evalT tm)) (evalT tm f) = some r) : OpOk P o tm h r := by
  unfold aCallee at he
  split at he
  · rename_i g first cap hf
    split at he
    · rename_i hc
      obtain ⟨fn, h1, h2, h3⟩ := calls_spec hc
      split at he
      · rename_i v h' wr hcf
        cases he
        refine ⟨(fun e => by cases e), fun D W hall _ hw => ?_⟩
        rw [hall rfl]
        have hcr := (hCF _ _ _ _ _ _ hcf).weak (W' := W) fun i hi => (hw i hi).2
        have e : (first.toList ++ xs.toList.map (evalT tm) ++ cap.toList).toArray = first ++ xs.map (evalT tm) ++ cap := by
          apply Array.toList_inj.1
          simp
        rw [e] at hcr
        exact OpRun.call ho hf h1 h2 h3 hcr
      · cases he
    · cases he
  · rename_i l first cap hf
    split at he
    · rename_i hc
      have e1 : first = #[] := Array.eq_empty_of_size_eq_zero hc.1
      have e2 : cap = #[] := Array.eq_empty_of_size_eq_zero hc.2
      subst e1 e2
      exact aYield_sound hRF ho hf he
    · cases he
  · cases he
theorem arr1 {α : Type} {a : Array α} {x : α} (h : a.toList = [x]) : a = #[x] := by apply Array.toList_inj.1; simpa using h
theorem arr2 {α : Type} {a : Array α} {x y : α} (h : a.toList = [x, y]) : a = #[x, y] := by apply Array.toList_inj.1; simpa using h
theorem aBuiltin_sound {b : Builtin} {xs : Array Operand} {ts : Array TypeId} {r : OR} (ho : o.op = .call ⟨.builtin b, xs, ts⟩) (he : aBuiltin P o (evalT tm) h b xs ts = some r) : OpOk P o tm h r := by
  have hd : ∀ c, o.op ≠ .defer c := by simp [ho]
  have hs : ∀ cs b, o.op ≠ .select cs b := by simp [ho]
  unfold aBuiltin at he
  split at he
  · rename_i x t hx ht
    rw [arr1 hx, arr1 ht] at ho
    split at he
    · rename_i n rd hl; cases he; exact .read fun D W hr => .len ho hl hr
    · cases he
  · rename_i x t hx ht
    rw [arr1 hx, arr1 ht] at ho
    split at he
    · rename_i n hl; cases he; exact .pure fun D W => .cap ho hl
    · cases he
  · rename_i x y t u hx ht
    rw [arr2 hx, arr2 ht] at ho
    split at he
    · rename_i v h' rd wr hl; cases he; exact .write fun D W hr hw => .append ho hl hr fun i hi => (hw i hi).2
    · cases he
  · rename_i x y t u hx ht
    rw [arr2 hx, arr2 ht] at ho
    split at he
    · rename_i n h' rd wr hl; cases he; exact .write fun D W hr hw => .copy ho hl hr fun i hi => (hw i hi).2
    · cases he
  · rename_i x y t u hx ht
    rw [arr2 hx, arr2 ht] at ho
    split at he
    · rename_i h' rd hl; cases he; exact .write fun D W hr hw => .delete ho hl hr fun i hi => (hw i hi).2
    · cases he
  · rename_i x t hx ht
    rw [arr1 hx, arr1 ht] at ho
    split at he
    · rename_i h' wr hl; cases he; exact .write fun D W hr hw => .clear ho hl hr fun i hi => (hw i hi).2
    · cases he
  · exact aCalm_sound hd hs he
  · exact aCalm_sound hd hs he
  · cases he
theorem aBin_sound {op : BinOp} {t t₂ : TypeId} {x y : Operand} {r : OR} (ho : o.op = .binOp op t x y t₂) (he : aBin P o (evalT tm) h op t x y = some r) : OpOk P o tm h r := by
  unfold aBin at he
  split at he
  · split at he
    · split at he
      · rename_i b rd hb; cases he; exact .read fun D W hr => by simpa using OpRun.eq ho (.inl rfl) hb hr
      · cases he
    · split at he
      · rename_i b rd hb; cases he; exact .read fun D W hr => by simpa using OpRun.eq ho (.inr rfl) hb hr
      · cases he
    · cases he
  · exact aCalm_sound (by simp [ho]) (by simp [ho]) he
theorem aOp_sound {r : OR} (hCF : CFOk P CF) (hRF : RFOk P RF) (he : aOp P CF RF o (evalT tm) h = some r) : OpOk P o tm h r := by
  unfold aOp at he
  split at he
  · rename_i x ho; cases he; exact .pure fun D W => .move ho
  · rename_i x ho; cases he; exact .pure fun D W => .assign ho
  · rename_i c a b ho
    split at he
    · rename_i t ht; cases he; exact .pure fun D W => .pick ho ht
    · cases he
  · rename_i t ho
    split at he
    · rename_i a ha; cases he; exact .new fun D W => .alloc ho ha
    · cases he
  · rename_i t x ho
    split at he
    · rename_i n hn; cases he; exact .new fun D W => .box ho hn
    · cases he
  · rename_i t ps ho
    split at he
    · rename_i v hv; cases he; exact .pure fun D W => .build ho hv
    · cases he
  · rename_i t len ps ho
    split at he
    · rename_i a ha; cases he; exact .new fun D W => .buildSlice ho ha
    · cases he
  · rename_i t x ho
    split at he
    · rename_i v b hv; cases he; exact .read fun D W hr => .load ho hv (hr b (by simp))
    · cases he
  · rename_i t x y ho
    split at he
    · rename_i h' b hv; cases he; exact .write fun D W hr hw => .store ho hv (hr b (by simp)) (hw b (by simp)).2
    · cases he
  · rename_i x ho
    split at he
    · rename_i b c hx; cases he; exact .pure fun D W => .nilCheck ho hx
    · rename_i f a b hx; cases he; exact .pure fun D W => .nilCheckF ho hx (by simp)
    · rename_i l a b hx; cases he; exact .pure fun D W => .nilCheckF ho hx (by simp)
    · cases he
  · rename_i op t x y t₂ ho; exact aBin_sound ho he
  · rename_i op t x ho; exact aCalm_sound (by simp [ho]) (by simp [ho]) he
  · rename_i src dst x ho
    split at he
    · rename_i a b c hx
      split at he
      · rename_i s rd hs; cases he; rw [← hx] at hs; exact .read fun D W hr => .toStr ho hs hr
      · cases he
    · rename_i s hx
      split at he
      · rename_i n a hs; cases he; rw [← hx] at hs; exact .new fun D W => .bytesOf ho hs
      · exact aCalm_sound (by simp [ho]) (by simp [ho]) he
    · exact aCalm_sound (by simp [ho]) (by simp [ho]) he
  · rename_i t x ho
    split at he
    · rename_i hn
      cases he
      unfold notIface at hn
      split at hn
      · cases hn
      · rename_i d hne hu; exact .pure fun D W => .makeInterface ho hu fun ms e => hne ms e
      · cases hn
    · cases he
  · rename_i fn a b ho
    split at he
    · cases he
    · rename_i hy; cases he; exact .pure fun D W => .makeFunc ho fun r e => by subst e; simp [isYield] at hy
  · rename_i t ho; cases he; exact .new fun D W => .makeMap ho
  · rename_i t x y ho
    split at he
    · rename_i l c a ha; cases he; exact .new fun D W => .makeSlice ho ha
    · cases he
  · rename_i t x lo hi mx ho
    split at he
    · rename_i v hv; cases he; exact .pure fun D W => .slice ho hv
    · cases he
  · rename_i s x f ho
    split at he
    · rename_i v hv; cases he; exact .pure fun D W => .fieldAddr ho hv
    · cases he
  · rename_i t x f ho
    split at he
    · rename_i v hv; cases he; exact .pure fun D W => .field ho hv
    · cases he
  · rename_i t x i ho
    split at he
    · rename_i v hv; cases he; exact .pure fun D W => .indexAddr ho hv
    · cases he
  · rename_i t x i ho
    split at he
    · rename_i v hv; cases he; exact .pure fun D W => .index ho hv
    · cases he
  · rename_i t x k ok ho
    split at he
    · rename_i v rd hv; cases he; exact .read fun D W hr => .lookup ho hv hr
    · cases he
  · rename_i t x k v ho
    split at he
    · rename_i h' r hv; cases he; exact .write fun D W hr hw => .mapUpdate (.inl ho) hv (hr r (by simp)) (hw r (by simp)).2
    · cases he
  · rename_i t x k v ho
    split at he
    · rename_i h' r hv; cases he; exact .write fun D W hr hw => .mapUpdate (.inr ho) hv (hr r (by simp)) (hw r (by simp)).2
    · cases he
  · rename_i t x k ho
    split at he
    · rename_i v h' r hv; cases he; exact .write fun D W hr hw => .mapEntry ho hv (hr r (by simp)) (hw r (by simp)).2
    · cases he
  · rename_i t x s v ho
    split at he
    · rename_i h' r hv; cases he; exact .write fun D W hr hw => .entryStore ho hv (hr r (by simp)) (hw r (by simp)).2
    · cases he
  · rename_i x i ho
    split at he
    · rename_i v hv; cases he; exact .pure fun D W => .extract ho hv
    · cases he
  · rename_i b xs ts ho; exact aBuiltin_sound ho he
  · rename_i f xs ts ho; exact aCallee_sound hCF hRF ho he
  · cases he
end
end Go.Proofs.Ytmelgnpogdilgaa
