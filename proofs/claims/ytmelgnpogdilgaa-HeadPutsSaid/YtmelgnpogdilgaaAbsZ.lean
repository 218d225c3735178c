/- The fast evaluator's operations are sound. No conditions. -/
import Derived.Test.YtmelgnpogdilgaaAbsY
namespace Go.Proofs.Ytmelgnpogdilgaa
set_option linter.unusedVariables false
section
variable {A B C : Type} {a : A}
theorem optK_inv {o : Option C} {K : C → Option B} {b : B} (h : optK o K = some b) : ∃ c, o = some c ∧ K c = some b := by
  cases o with
  | none => cases h
  | some c => exact ⟨c, rfl, h⟩
theorem ifK_inv {t : Bool} {x y : Option B} {b : B} (h : ifK t x y = some b) : (t = true ∧ x = some b) ∨ (t = false ∧ y = some b) := by
  cases t with
  | true => exact .inl ⟨rfl, h⟩
  | false => exact .inr ⟨rfl, h⟩
theorem ifK_yes {t : Bool} {x : Option B} {b : B} (h : ifK t x none = some b) : t = true ∧ x = some b := by
  rcases ifK_inv h with h | ⟨_, h⟩
  · exact h
  · cases h
theorem ptrK_inv {v : Value} {K : Nat → Nat → Option B} {b : B} (h : ptrK v K = some b) : ∃ i o, v = .pointer (some ⟨i, o, none⟩) ∧ K i o = some b := by
  unfold ptrK at h
  split at h
  · exact ⟨_, _, rfl, h⟩
  · cases h
theorem cellsK_inv {x : Option AObj} {K : List Value → TypeId → Option B} {b : B} (h : cellsK x K = some b) : ∃ c t, x = some (.cells c t) ∧ K c t = some b := by
  unfold cellsK at h
  split at h
  · exact ⟨_, _, rfl, h⟩
  · cases h
theorem boolK_inv {v : Value} {K : Bool → Option A} {b : A} (h : boolK v K = some b) : ∃ t, v = .bool t ∧ K t = some b := by
  unfold boolK at h
  split at h
  · exact ⟨_, rfl, h⟩
  · cases h
theorem binK_inv {r : Option Value} {h : AHeap} {K : KO A} {s : Option A} (he : binK r h K s = some a) : (∃ v, r = some v ∧ K v h [] [] false true = some a) ∨ (r = none ∧ s = some a) := by
  cases r with
  | none => exact .inr ⟨rfl, he⟩
  | some v =>
    have he : forceC v (fun v => K v h [] [] false true) = some a := he
    rw [forceC_eq] at he
    exact .inl ⟨v, rfl, he⟩
theorem idxK_inv {v : Value} {K : Nat → Option A} (h : idxK v K = some a) : ∃ k i, v = .int k (.ofNat i) ∧ K i = some a := by
  unfold idxK at h
  split at h
  · exact ⟨_, _, rfl, h⟩
  · cases h
variable {P : Program} {CF : CallK A} {E : CodeK A} {o : Oper} {ft : BT} {tm : List Value} {h : AHeap} {K : KO A}
def CKOk (P : Program) (CF : CallK A) : Prop := ∀ f args h K a, CF f args h K = some a → ∃ v h' wr, CallRun P (· ∈ wr) f args.toArray h v h' ∧ K v h' wr = some a
def EKOk (P : Program) (E : CodeK A) : Prop := ∀ q N c ft df h K a, E q N c ft df h K = some a → ∀ tm : List Value, tm.length = N → Rep ft tm → ∃ x tm' ft' df' h' wr, tm'.length = N ∧ Rep ft' tm' ∧ Run P (· ∈ wr) q c ⟨tm, df, h⟩ x ⟨tm', df', h'⟩ ∧ K x ft' df' h' wr = some a
def Goes (P : Program) (o : Oper) (tm : List Value) (h : AHeap) (K : KO A) (a : A) : Prop := ∃ r : OR, OpOk P o tm h r ∧ K r.v r.h r.rd r.wr r.all r.same = some a
theorem Goes.of {v : Value} (k : ∀ D W, OpRun P D W o tm h v h) (hk : K v h [] [] false true = some a) : Goes P o tm h K a := ⟨pureO h v, .pure k, hk⟩
theorem slow_sound (hr : Rep ft tm) (he : slow P CF E o ft h K = some a) : Goes P o tm h K a := by
  unfold slow at he
  rw [evalF_eq hr] at he
  obtain ⟨r, h1, h2⟩ := optK_inv he
  rw [forceV_eq] at h2
  exact ⟨r, aOp_sound (fun _ _ _ _ _ _ e => by cases e) (fun _ _ _ _ _ e => by cases e) h1, h2⟩
theorem loadC_inv {r : Option (Option Nat)} {b : Nat} {c : List Value} {off : Nat} (he : loadC r h b K c off = some a) : (r = some none ∧ load1 h b K c off = some a) ∨ ∃ n, r = some (some (n + 1)) ∧ loadN h b n K c off = some a := by
  cases r with
  | none => cases he
  | some r => cases r with
    | none => exact .inl ⟨rfl, he⟩
    | some n => cases n with
      | zero => cases he
      | succ n => exact .inr ⟨n, rfl, he⟩
theorem storeV_inv {v : Value} {n off : Nat} {c : List Value} {K' : List Value → Option A} (he : storeV v n c off K' = some a) : (∃ ar, v = .agg ar ∧ ifK (lenIs ar.toList n) (ifK (ar.toList.all Value.oneCell') (spliceK ar.toList c off K') none) none = some a) ∨ ((∀ ar, v ≠ .agg ar) ∧ ifK (Nat.beq n 1) (ifK v.oneCell' (set1K c v off K') none) none = some a) := by
  cases v with
  | agg ar => exact .inl ⟨ar, rfl, he⟩
  | _ => exact .inr ⟨by simp, he⟩
theorem idxAt_inv {x : Value} {e : Option (Option Nat × Nat)} {i : Nat} {K' : Nat → Nat → Option A} (he : idxAt x e i K' = some a) : (∃ b o len cap n, x = .slice (some ⟨b, o, none⟩) len cap ∧ e = some (none, n) ∧ ifK (Nat.ble (Nat.succ i) len) (K' b (Nat.add o (Nat.mul i n))) none = some a) ∨ (∃ b o len n, x = .pointer (some ⟨b, o, none⟩) ∧ e = some (some len, n) ∧ ifK (Nat.ble (Nat.succ i) len) (K' b (Nat.add o (Nat.mul i n))) none = some a) := by
  cases x with
  | slice ad len cap =>
    cases ad with
    | none => cases he
    | some ad => cases ad with
      | mk b o sp => cases sp with
        | some sp => cases he
        | none => cases e with
          | none => cases he
          | some e => obtain ⟨l, n⟩ := e; cases l with
            | none => exact .inl ⟨b, o, len, cap, n, rfl, rfl, he⟩
            | some l => cases he
  | pointer ad =>
    cases ad with
    | none => cases he
    | some ad => cases ad with
      | mk b o sp => cases sp with
        | some sp => cases he
        | none => cases e with
          | none => cases he
          | some e => obtain ⟨l, n⟩ := e; cases l with
            | none => cases he
            | some l => exact .inr ⟨b, o, l, n, rfl, rfl, he⟩
  | _ => cases he
theorem oLoad_sound {t : TypeId} {x : Operand} (ho : o.op = .load t x) (hr : Rep ft tm) (he : oLoad t x P CF E o ft h K = some a) : Goes P o tm h K a := by
  unfold oLoad at he
  rw [evalF_eq hr] at he
  obtain ⟨b, off, h1, he⟩ := ptrK_inv he
  obtain ⟨c, ct, h2, he⟩ := cellsK_inv he
  rw [hget_eq] at h2
  rcases loadC_inv he with ⟨hc, he⟩ | ⟨n, hc, he⟩
  · obtain ⟨v, h3, he⟩ := optK_inv he
    rw [nth_eq] at h3
    have hl : aLoad P h t (evalT tm x) = some (v, b) := by rw [h1]; simp [aLoad, rowOf, h2, hc, h3]
    exact ⟨readO h v [b], .read fun D W hr => .load ho hl (hr b (by simp)), he⟩
  · unfold loadN at he
    rw [takeK_eq, dropR_eq] at he
    split at he
    · rename_i hle
      have hle' : off + (n + 1) ≤ c.length := by simp at hle; omega
      have hl : aLoad P h t (evalT tm x) = some (.agg ⟨(c.drop off).take (n + 1)⟩, b) := by rw [h1]; simp [aLoad, rowOf, h2, hc, hle']
      exact ⟨readO h _ [b], .read fun D W hr => .load ho hl (hr b (by simp)), he⟩
    · cases he
theorem oStore_sound {t : TypeId} {x y : Operand} (ho : o.op = .store t x y) (hr : Rep ft tm) (he : oStore t x y P CF E o ft h K = some a) : Goes P o tm h K a := by
  unfold oStore at he
  rw [evalF_eq hr] at he
  obtain ⟨b, off, h1, he⟩ := ptrK_inv he
  obtain ⟨c, ct, h2, he⟩ := cellsK_inv he
  rw [hget_eq] at h2
  obtain ⟨n, h3, he⟩ := optK_inv he
  rw [headV_eq] at he
  have fin : ∀ l : List Value, (evalT tm y).cells.toList = l → l.length = n → off + l.length ≤ c.length → l.all Value.oneCell' = true → K undef (h.put b (some (.cells (setL c off l) ct))) [b] [b] false false = some a → Goes P o tm h K a := fun l e1 e2 e3 e4 e5 => by
    have hl : aStore P h t (evalT tm y) (evalT tm x) = some (h.put b (some (.cells (setL c off l) ct)), b) := by
      rw [h1]
      simp only [aStore, h2, h3, e1]
      rw [if_pos ⟨e2, by omega, e4⟩]
    exact ⟨⟨undef, _, [b], [b], false, false⟩, .write fun D W hr hw => .store ho hl (hr b (by simp)) (hw b (by simp)).2, e5⟩
  rcases storeV_inv he with ⟨ar, hy, he⟩ | ⟨hna, he⟩
  · obtain ⟨g1, he⟩ := ifK_yes he
    obtain ⟨g2, he⟩ := ifK_yes he
    rw [spliceK_eq] at he
    split at he
    · rename_i hle
      rw [hputN_eq] at he
      exact fin ar.toList (by rw [hy]; rfl) (lenIs_eq g1) hle g2 he
    · cases he
  · obtain ⟨g1, he⟩ := ifK_yes he
    obtain ⟨g2, he⟩ := ifK_yes he
    rw [set1K_eq] at he
    split at he
    · rename_i hlt
      rw [hputN_eq] at he
      have e1 : (evalT tm y).cells.toList = [evalT tm y] := by
        generalize evalT tm y = z at *
        cases z with
        | agg ar => exact absurd rfl (hna ar)
        | _ => rfl
      have e6 : c.set off (evalT tm y) = setL c off [evalT tm y] := by
        simp only [setL, List.length_singleton]
        rw [List.set_eq_take_append_cons_drop, if_pos hlt]
        simp
      rw [e6] at he
      exact fin [evalT tm y] e1 (by simpa using (Nat.eq_of_beq_eq_true g1).symm) (by simp; omega) (by simpa using g2) he
    · cases he
theorem oField_sound {s : TypeId} {x : Operand} {f : Nat} (ho : o.op = .fieldAddr s x f) (hr : Rep ft tm) (he : oField s x f P CF E o ft h K = some a) : Goes P o tm h K a := by
  unfold oField at he
  rw [evalF_eq hr] at he
  obtain ⟨b, off, h1, he⟩ := ptrK_inv he
  obtain ⟨k, h2, he⟩ := optK_inv he
  rw [forceNat_eq] at he
  have hl : aField P s f (evalT tm x) = some (.pointer (some ⟨b, off + k, none⟩)) := by
    rw [h1]
    unfold fieldOff at h2
    split at h2
    · rename_i fs hu
      split at h2
      · rename_i fd hfd
        split at h2
        · rename_i n hn; cases h2; simp [aField, hu, hfd, hn]
        · cases h2
      · cases h2
    · cases h2
  exact .of (fun D W => .fieldAddr ho hl) he
theorem oIndex_sound {t : TypeId} {x i : Operand} (ho : o.op = .indexAddr t x i) (hr : Rep ft tm) (he : oIndex t x i P CF E o ft h K = some a) : Goes P o tm h K a := by
  unfold oIndex at he
  rw [evalF_eq hr] at he
  obtain ⟨k, j, h1, he⟩ := idxK_inv he
  rcases idxAt_inv he with ⟨b, off, len, cap, n, hx, hn, he⟩ | ⟨b, off, len, n, hx, hn, he⟩
  · obtain ⟨g1, he⟩ := ifK_yes he
    rw [forceNat_eq] at he
    have hlt : j < len := Nat.le_of_ble_eq_true g1
    have hl : aIndexAddr P t (evalT tm x) (evalT tm i) = some (.pointer (some ⟨b, off + j * n, none⟩)) := by
      rw [h1, hx]
      unfold elemT at hn
      split at hn
      · rename_i e hu
        simp only [Option.map_eq_some_iff, Prod.mk.injEq] at hn
        obtain ⟨m, hm, _, rfl⟩ := hn
        have : (0 : Int) ≤ Int.ofNat j ∧ Int.ofNat j < (len : Int) := ⟨by simp, by simpa using hlt⟩
        simp only [aIndexAddr, hu, hm, if_pos this]
        rfl
      · simp at hn
      · cases hn
    exact .of (fun D W => .indexAddr ho hl) he
  · obtain ⟨g1, he⟩ := ifK_yes he
    rw [forceNat_eq] at he
    have hlt : j < len := Nat.le_of_ble_eq_true g1
    have hl : aIndexAddr P t (evalT tm x) (evalT tm i) = some (.pointer (some ⟨b, off + j * n, none⟩)) := by
      rw [h1, hx]
      unfold elemT at hn
      split at hn
      · simp at hn
      · rename_i len' e hu
        simp only [Option.map_eq_some_iff, Prod.mk.injEq, Option.some.injEq] at hn
        obtain ⟨m, hm, rfl, rfl⟩ := hn
        have : (0 : Int) ≤ Int.ofNat j ∧ Int.ofNat j < (len' : Int) := ⟨by simp, by simpa using hlt⟩
        simp only [aIndexAddr, hu, hm, if_pos this]
        rfl
      · cases hn
    exact .of (fun D W => .indexAddr ho hl) he
theorem eqGuard_int {op : BinOp} {t : TypeId} {x y : Operand} {k k' : IntKind} {a b : Int} : eqGuard op t x y (.int k a) (.int k' b) = pure () := by
  unfold eqGuard
  split <;> rfl
theorem oBin_sound {op : BinOp} {t t₂ : TypeId} {x y : Operand} (ho : o.op = .binOp op t x y t₂) (hr : Rep ft tm) (he : oBin op t x y t₂ P CF E o ft h K = some a) : Goes P o tm h K a := by
  unfold oBin at he
  rw [evalF_eq hr] at he
  rcases binK_inv he with ⟨v, h1, he⟩ | ⟨_, he⟩
  · have main : ∀ k k' i j, evalT tm x = .int k i → evalT tm y = .int k' j → binOp op t (.int k i) (.int k' j) = pure v → flatB v = true → Goes P o tm h K a := fun k k' i j e1 e2 e3 e4 =>
      .of (fun D W => .ofPure (by simp [ho]) fun m w A hm hx H => by
        have a1 := hx x (by simp [ho, Op.operands])
        have a2 := hx y (by simp [ho, Op.operands])
        rw [e1] at a1
        rw [e2] at a2
        have a1 := VRel.eq_of_flat a1 rfl
        have a2 := VRel.eq_of_flat a2 rfl
        refine ⟨v, VRel.flat m e4, ?_⟩
        simp only [execOp, ho, a1, a2, eqGuard_int]
        have e5 : binOp op t (.int k i) (.int k' j) = Sem.pure v := e3
        simp only [e5]
        rfl) he
    unfold fBinV at h1
    split at h1
    · rename_i k i k' j e1 e2
      split at h1
      · refine main k k' i j e1 e2 (fShift_run h1 t) ?_
        unfold fShift at h1
        split at h1
        · split at h1
          · cases h1; rfl
          · cases h1
        · cases h1
      · refine main k k' i j e1 e2 (fShift_run h1 t) ?_
        unfold fShift at h1
        split at h1
        · split at h1
          · cases h1; rfl
          · cases h1
        · cases h1
      · rename_i h9 h10
        split at h1
        · rename_i hk
          have := kIdx_inj hk
          subst this
          refine main _ _ i j e1 e2 (fBin_run h1 t ⟨fun e => h9 e, fun e => h10 e⟩) ?_
          unfold fBin at h1
          split at h1 <;> first | (cases h1; rfl) | (cases h1; done) | (split at h1 <;> first | (cases h1; rfl) | cases h1 | (split at h1 <;> first | (cases h1; rfl) | cases h1))
        · cases h1
    · cases h1
  · exact slow_sound hr he
end
end Go.Proofs.Ytmelgnpogdilgaa
