/- What the law leans on, part 3. No conditions. -/
import Derived.Below
import Derived.Test.YtaaopajkogdacaaGreatEndKnownPart2
set_option linter.unusedVariables false
set_option linter.unusedSimpArgs false
namespace Go.Proofs.YtaaopajkogdacaaGreat
section
variable {A B C : Type} {a : A}
theorem optK_inv {o : Option C} {K : C → Option B} {b : B} (h : optK o K = some b) : ∃ c, o = some c ∧ K c = some b := by
  cases o with
  | none => cases h
  | some c => exact ⟨c, rfl, h⟩
theorem ifK_inv {t : Bool} {x y : Option B} {b : B} (h : ifK t x y = some b) : (t = true ∧ x = some b) ∨ (t = false ∧ y = some b) := by
  cases t with
  | true => exact .inl ⟨rfl, h⟩
  | false => exact .inr ⟨rfl, h⟩
theorem ifK_yes {t : Bool} {x : Option B} {b : B} (h : ifK t x none = some b) : t = true ∧ x = some b := by
  rcases ifK_inv h with h | ⟨_, h⟩
  · exact h
  · cases h
theorem ptrK_inv {v : Value} {K : Nat → Nat → Option B} {b : B} (h : ptrK v K = some b) : ∃ i o, v = .pointer (some ⟨i, o, none⟩) ∧ K i o = some b := by
  unfold ptrK at h
  split at h
  · exact ⟨_, _, rfl, h⟩
  · cases h
theorem cellsK_inv {x : Option AObj} {K : List Value → TypeId → Option B} {b : B} (h : cellsK x K = some b) : ∃ c t, x = some (.cells c t) ∧ K c t = some b := by
  unfold cellsK at h
  split at h
  · exact ⟨_, _, rfl, h⟩
  · cases h
theorem boolK_inv {v : Value} {K : Bool → Option A} {b : A} (h : boolK v K = some b) : ∃ t, v = .bool t ∧ K t = some b := by
  unfold boolK at h
  split at h
  · exact ⟨_, rfl, h⟩
  · cases h
theorem binK_inv {r : Option Value} {h : AHeap} {K : KO A} {s : Option A} (he : binK r h K s = some a) : (∃ v, r = some v ∧ K v h [] [] false true = some a) ∨ (r = none ∧ s = some a) := by
  cases r with
  | none => exact .inr ⟨rfl, he⟩
  | some v =>
    have he : forceC v (fun v => K v h [] [] false true) = some a := he
    rw [forceC_eq] at he
    exact .inl ⟨v, rfl, he⟩
theorem idxK_inv {v : Value} {K : Nat → Option A} (h : idxK v K = some a) : ∃ k i, v = .int k (.ofNat i) ∧ K i = some a := by
  unfold idxK at h
  split at h
  · exact ⟨_, _, rfl, h⟩
  · cases h
variable {P : Program} {CF : CallK A} {E : CodeK A} {o : Oper} {ft : BT} {tm : List Value} {h : AHeap} {K : KO A}
def CKOk (P : Program) (CF : CallK A) : Prop := ∀ f args h K a, CF f args h K = some a → ∃ v h' wr, CallRun P (· ∈ wr) f args.toArray h v h' ∧ K v h' wr = some a
def EKOk (P : Program) (E : CodeK A) : Prop := ∀ q N c ft df h K a, E q N c ft df h K = some a → ∀ tm : List Value, tm.length = N → Rep ft tm → ∃ x tm' ft' df' h' wr, tm'.length = N ∧ Rep ft' tm' ∧ Run P (· ∈ wr) q c ⟨tm, df, h⟩ x ⟨tm', df', h'⟩ ∧ K x ft' df' h' wr = some a
def Goes (P : Program) (o : Oper) (tm : List Value) (h : AHeap) (K : KO A) (a : A) : Prop := ∃ r : OR, OpOk P o tm h r ∧ K r.v r.h r.rd r.wr r.all r.same = some a
theorem Goes.of {v : Value} (k : ∀ D W, OpRun P D W o tm h v h) (hk : K v h [] [] false true = some a) : Goes P o tm h K a := ⟨pureO h v, .pure k, hk⟩
theorem slow_sound (hr : Rep ft tm) (he : slow P CF E o ft h K = some a) : Goes P o tm h K a := by
  unfold slow at he
  rw [evalF_eq hr] at he
  obtain ⟨r, h1, h2⟩ := optK_inv he
  rw [forceV_eq] at h2
  exact ⟨r, aOp_sound (fun _ _ _ _ _ _ e => by cases e) (fun _ _ _ _ _ e => by cases e) h1, h2⟩
theorem loadC_inv {r : Option (Option Nat)} {b : Nat} {c : List Value} {off : Nat} (he : loadC r h b K c off = some a) : (r = some none ∧ load1 h b K c off = some a) ∨ ∃ n, r = some (some (n + 1)) ∧ loadN h b n K c off = some a := by
  cases r with
  | none => cases he
  | some r => cases r with
    | none => exact .inl ⟨rfl, he⟩
    | some n => cases n with
      | zero => cases he
      | succ n => exact .inr ⟨n, rfl, he⟩
theorem storeV_inv {v : Value} {n off : Nat} {c : List Value} {K' : List Value → Option A} (he : storeV v n c off K' = some a) : (∃ ar, v = .agg ar ∧ ifK (lenIs ar.toList n) (ifK (ar.toList.all Value.oneCell') (spliceK ar.toList c off K') none) none = some a) ∨ ((∀ ar, v ≠ .agg ar) ∧ ifK (Nat.beq n 1) (ifK v.oneCell' (set1K c v off K') none) none = some a) := by
  cases v with
  | agg ar => exact .inl ⟨ar, rfl, he⟩
  | _ => exact .inr ⟨by simp, he⟩
theorem idxAt_inv {x : Value} {e : Option (Option Nat × Nat)} {i : Nat} {K' : Nat → Nat → Option A} (he : idxAt x e i K' = some a) : (∃ b o len cap n, x = .slice (some ⟨b, o, none⟩) len cap ∧ e = some (none, n) ∧ ifK (Nat.ble (Nat.succ i) len) (K' b (Nat.add o (Nat.mul i n))) none = some a) ∨ (∃ b o len n, x = .pointer (some ⟨b, o, none⟩) ∧ e = some (some len, n) ∧ ifK (Nat.ble (Nat.succ i) len) (K' b (Nat.add o (Nat.mul i n))) none = some a) := by
  cases x with
  | slice ad len cap =>
    cases ad with
    | none => cases he
    | some ad => cases ad with
      | mk b o sp => cases sp with
        | some sp => cases he
        | none => cases e with
          | none => cases he
          | some e => obtain ⟨l, n⟩ := e; cases l with
            | none => exact .inl ⟨b, o, len, cap, n, rfl, rfl, he⟩
            | some l => cases he
  | pointer ad =>
    cases ad with
    | none => cases he
    | some ad => cases ad with
      | mk b o sp => cases sp with
        | some sp => cases he
        | none => cases e with
          | none => cases he
          | some e => obtain ⟨l, n⟩ := e; cases l with
            | none => cases he
            | some l => exact .inr ⟨b, o, l, n, rfl, rfl, he⟩
  | _ => cases he
theorem oLoad_sound {t : TypeId} {x : Operand} (ho : o.op = .load t x) (hr : Rep ft tm) (he : oLoad t x P CF E o ft h K = some a) : Goes P o tm h K a := by
  unfold oLoad at he
  rw [evalF_eq hr] at he
  obtain ⟨b, off, h1, he⟩ := ptrK_inv he
  obtain ⟨c, ct, h2, he⟩ := cellsK_inv he
  rw [hget_eq] at h2
  rcases loadC_inv he with ⟨hc, he⟩ | ⟨n, hc, he⟩
  · obtain ⟨v, h3, he⟩ := optK_inv he
    rw [nth_eq] at h3
    have hl : aLoad P h t (evalT tm x) = some (v, b) := by rw [h1]; simp [aLoad, rowOf, h2, hc, h3]
    exact ⟨readO h v [b], .read fun D W hr => .load ho hl (hr b (by simp)), he⟩
  · unfold loadN at he
    rw [takeK_eq, dropR_eq] at he
    split at he
    · rename_i hle
      have hle' : off + (n + 1) ≤ c.length := by simp at hle; omega
      have hl : aLoad P h t (evalT tm x) = some (.agg ⟨(c.drop off).take (n + 1)⟩, b) := by rw [h1]; simp [aLoad, rowOf, h2, hc, hle']
      exact ⟨readO h _ [b], .read fun D W hr => .load ho hl (hr b (by simp)), he⟩
    · cases he
theorem oStore_sound {t : TypeId} {x y : Operand} (ho : o.op = .store t x y) (hr : Rep ft tm) (he : oStore t x y P CF E o ft h K = some a) : Goes P o tm h K a := by
  unfold oStore at he
  rw [evalF_eq hr] at he
  obtain ⟨b, off, h1, he⟩ := ptrK_inv he
  obtain ⟨c, ct, h2, he⟩ := cellsK_inv he
  rw [hget_eq] at h2
  obtain ⟨n, h3, he⟩ := optK_inv he
  rw [headV_eq] at he
  have fin : ∀ l : List Value, (evalT tm y).cells.toList = l → l.length = n → off + l.length ≤ c.length → l.all Value.oneCell' = true → K undef (h.put b (some (.cells (setL c off l) ct))) [b] [b] false false = some a → Goes P o tm h K a := fun l e1 e2 e3 e4 e5 => by
    have hl : aStore P h t (evalT tm y) (evalT tm x) = some (h.put b (some (.cells (setL c off l) ct)), b) := by
      rw [h1]
      simp only [aStore, h2, h3, e1]
      rw [if_pos ⟨e2, by omega, e4⟩]
    exact ⟨⟨undef, _, [b], [b], false, false⟩, .write fun D W hr hw => .store ho hl (hr b (by simp)) (hw b (by simp)).2, e5⟩
  rcases storeV_inv he with ⟨ar, hy, he⟩ | ⟨hna, he⟩
  · obtain ⟨g1, he⟩ := ifK_yes he
    obtain ⟨g2, he⟩ := ifK_yes he
    rw [spliceK_eq] at he
    split at he
    · rename_i hle
      rw [hputN_eq] at he
      exact fin ar.toList (by rw [hy]; rfl) (lenIs_eq g1) hle g2 he
    · cases he
  · obtain ⟨g1, he⟩ := ifK_yes he
    obtain ⟨g2, he⟩ := ifK_yes he
    rw [set1K_eq] at he
    split at he
    · rename_i hlt
      rw [hputN_eq] at he
      have e1 : (evalT tm y).cells.toList = [evalT tm y] := by
        generalize evalT tm y = z at *
        cases z with
        | agg ar => exact absurd rfl (hna ar)
        | _ => rfl
      have e6 : c.set off (evalT tm y) = setL c off [evalT tm y] := by
        simp only [setL, List.length_singleton]
        rw [List.set_eq_take_append_cons_drop, if_pos hlt]
        simp
      rw [e6] at he
      exact fin [evalT tm y] e1 (by simpa using (Nat.eq_of_beq_eq_true g1).symm) (by simp; omega) (by simpa using g2) he
    · cases he
theorem oField_sound {s : TypeId} {x : Operand} {f : Nat} (ho : o.op = .fieldAddr s x f) (hr : Rep ft tm) (he : oField s x f P CF E o ft h K = some a) : Goes P o tm h K a := by
  unfold oField at he
  rw [evalF_eq hr] at he
  obtain ⟨b, off, h1, he⟩ := ptrK_inv he
  obtain ⟨k, h2, he⟩ := optK_inv he
  rw [forceNat_eq] at he
  have hl : aField P s f (evalT tm x) = some (.pointer (some ⟨b, off + k, none⟩)) := by
    rw [h1]
    unfold fieldOff at h2
    split at h2
    · rename_i fs hu
      split at h2
      · rename_i fd hfd
        split at h2
        · rename_i n hn; cases h2; simp [aField, hu, hfd, hn]
        · cases h2
      · cases h2
    · cases h2
  exact .of (fun D W => .fieldAddr ho hl) he
theorem oIndex_sound {t : TypeId} {x i : Operand} (ho : o.op = .indexAddr t x i) (hr : Rep ft tm) (he : oIndex t x i P CF E o ft h K = some a) : Goes P o tm h K a := by
  unfold oIndex at he
  rw [evalF_eq hr] at he
  obtain ⟨k, j, h1, he⟩ := idxK_inv he
  rcases idxAt_inv he with ⟨b, off, len, cap, n, hx, hn, he⟩ | ⟨b, off, len, n, hx, hn, he⟩
  · obtain ⟨g1, he⟩ := ifK_yes he
    rw [forceNat_eq] at he
    have hlt : j < len := Nat.le_of_ble_eq_true g1
    have hl : aIndexAddr P t (evalT tm x) (evalT tm i) = some (.pointer (some ⟨b, off + j * n, none⟩)) := by
      rw [h1, hx]
      unfold elemT at hn
      split at hn
      · rename_i e hu
        simp only [Option.map_eq_some_iff, Prod.mk.injEq] at hn
        obtain ⟨m, hm, _, rfl⟩ := hn
        have : (0 : Int) ≤ Int.ofNat j ∧ Int.ofNat j < (len : Int) := ⟨by simp, by simpa using hlt⟩
        simp only [aIndexAddr, hu, hm, if_pos this]
        rfl
      · simp at hn
      · cases hn
    exact .of (fun D W => .indexAddr ho hl) he
  · obtain ⟨g1, he⟩ := ifK_yes he
    rw [forceNat_eq] at he
    have hlt : j < len := Nat.le_of_ble_eq_true g1
    have hl : aIndexAddr P t (evalT tm x) (evalT tm i) = some (.pointer (some ⟨b, off + j * n, none⟩)) := by
      rw [h1, hx]
      unfold elemT at hn
      split at hn
      · simp at hn
      · rename_i len' e hu
        simp only [Option.map_eq_some_iff, Prod.mk.injEq, Option.some.injEq] at hn
        obtain ⟨m, hm, rfl, rfl⟩ := hn
        have : (0 : Int) ≤ Int.ofNat j ∧ Int.ofNat j < (len' : Int) := ⟨by simp, by simpa using hlt⟩
        simp only [aIndexAddr, hu, hm, if_pos this]
        rfl
      · cases hn
    exact .of (fun D W => .indexAddr ho hl) he
theorem eqGuard_int {op : BinOp} {t : TypeId} {x y : Operand} {k k' : IntKind} {a b : Int} : eqGuard op t x y (.int k a) (.int k' b) = pure () := by
  unfold eqGuard
  split <;> rfl
theorem oBin_sound {op : BinOp} {t t₂ : TypeId} {x y : Operand} (ho : o.op = .binOp op t x y t₂) (hr : Rep ft tm) (he : oBin op t x y t₂ P CF E o ft h K = some a) : Goes P o tm h K a := by
  unfold oBin at he
  rw [evalF_eq hr] at he
  rcases binK_inv he with ⟨v, h1, he⟩ | ⟨_, he⟩
  · have main : ∀ k k' i j, evalT tm x = .int k i → evalT tm y = .int k' j → binOp op t (.int k i) (.int k' j) = pure v → flatB v = true → Goes P o tm h K a := fun k k' i j e1 e2 e3 e4 =>
      .of (fun D W => .ofPure (by simp [ho]) fun m w A hm hx H => by
        have a1 := hx x (by simp [ho, Op.operands])
        have a2 := hx y (by simp [ho, Op.operands])
        rw [e1] at a1
        rw [e2] at a2
        have a1 := VRel.eq_of_flat a1 rfl
        have a2 := VRel.eq_of_flat a2 rfl
        refine ⟨v, VRel.flat m e4, ?_⟩
        simp only [execOp, ho, a1, a2, eqGuard_int]
        have e5 : binOp op t (.int k i) (.int k' j) = Sem.pure v := e3
        simp only [e5]
        rfl) he
    unfold fBinV at h1
    split at h1
    · rename_i k i k' j e1 e2
      split at h1
      · refine main k k' i j e1 e2 (fShift_run h1 t) ?_
        unfold fShift at h1
        split at h1
        · split at h1
          · cases h1; rfl
          · cases h1
        · cases h1
      · refine main k k' i j e1 e2 (fShift_run h1 t) ?_
        unfold fShift at h1
        split at h1
        · split at h1
          · cases h1; rfl
          · cases h1
        · cases h1
      · rename_i h9 h10
        split at h1
        · rename_i hk
          have := kIdx_inj hk
          subst this
          refine main _ _ i j e1 e2 (fBin_run h1 t ⟨fun e => h9 e, fun e => h10 e⟩) ?_
          unfold fBin at h1
          split at h1 <;> first | (cases h1; rfl) | (cases h1; done) | (split at h1 <;> first | (cases h1; rfl) | cases h1 | (split at h1 <;> first | (cases h1; rfl) | cases h1))
        · cases h1
    · cases h1
  · exact slow_sound hr he
end
end Go.Proofs.YtaaopajkogdacaaGreat
namespace Go.Proofs.YtaaopajkogdacaaGreat
section
variable {A B C : Type} {a : A} {P : Program} {CF : CallK A} {E : CodeK A} {o : Oper} {ft : BT} {tm : List Value} {h : AHeap} {K : KO A}
theorem oUn_sound {op : UnOp} {t : TypeId} {x : Operand} (ho : o.op = .unOp op t x) (hr : Rep ft tm) (he : oUn op t x P CF E o ft h K = some a) : Goes P o tm h K a := by
  cases op with
  | not =>
    have he : binK (notV (evalF ft x)) h K none = some a := he
    rw [evalF_eq hr] at he
    rcases binK_inv he with ⟨v, h1, he⟩ | ⟨_, he⟩
    · unfold notV at h1
      split at h1
      · rename_i b hb
        cases h1
        refine .of (fun D W => .ofPure (by simp [ho]) fun m w A hm hx H => ?_) he
        have a1 := hx x (by simp [ho, Op.operands])
        rw [hb] at a1
        have a1 := VRel.eq_of_flat a1 rfl
        exact ⟨_, .bool _, by simp [execOp, ho, a1, Op.unary]⟩
      · cases h1
    · cases he
  | _ => exact slow_sound (CF := CF) (E := E) hr he
theorem oConv_sound {src dst : TypeId} {x : Operand} (ho : o.op = .convert src dst x) (hr : Rep ft tm) (he : oConv src dst x P CF E o ft h K = some a) : Goes P o tm h K a := by
  unfold oConv at he
  rw [evalF_eq hr] at he
  rcases binK_inv he with ⟨v, h1, he⟩ | ⟨_, he⟩
  · unfold convV at h1
    split at h1
    · rename_i k0 n k hx hk
      cases h1
      unfold dstInt at hk
      split at hk
      · rename_i d k' hs hd
        cases hk
        refine .of (fun D W => .ofPure (by simp [ho]) fun m w A hm hxs H => ?_) he
        have a1 := hxs x (by simp [ho, Op.operands])
        rw [hx] at a1
        have a1 := VRel.eq_of_flat a1 rfl
        exact ⟨_, .int _ _, by simp [execOp, ho, a1, convert, run_under hs, run_under hd, Conv.intToInt, wrapF_eq]⟩
      · cases hk
    · cases h1
  · exact slow_sound (CF := CF) (E := E) hr he
theorem oNil_sound {x : Operand} (ho : o.op = .nilCheck x) (hr : Rep ft tm) (he : oNil x P CF E o ft h K = some a) : Goes P o tm h K a := by
  unfold oNil at he
  rw [evalF_eq hr] at he
  rcases binK_inv he with ⟨v, h1, he⟩ | ⟨_, he⟩
  · unfold nilV at h1
    split at h1
    · rename_i b c hx; cases h1; exact .of (fun D W => .nilCheck ho hx) he
    · rename_i f x y hx; cases h1; exact .of (fun D W => .nilCheckF ho hx (by simp)) he
    · cases h1
  · exact slow_sound (CF := CF) (E := E) hr he
theorem oExtract_sound {x : Operand} {i : Nat} (ho : o.op = .extract x i) (hr : Rep ft tm) (he : oExtract x i P CF E o ft h K = some a) : Goes P o tm h K a := by
  unfold oExtract at he
  rw [evalF_eq hr] at he
  rcases binK_inv he with ⟨v, h1, he⟩ | ⟨_, he⟩
  · unfold tupV at h1
    split at h1
    · rename_i vs hx
      rw [nth_eq] at h1
      exact .of (fun D W => .extract ho (by rw [hx]; simpa [aExtract] using h1)) he
    · cases h1
  · cases he
theorem oPick_sound {c x y : Operand} (ho : o.op = .pick c x y) (hr : Rep ft tm) (he : oPick c x y P CF E o ft h K = some a) : Goes P o tm h K a := by
  unfold oPick at he
  rw [evalF_eq hr] at he
  obtain ⟨t, h1, he⟩ := boolK_inv he
  rw [headV_eq] at he
  cases t with
  | false => exact .of (fun D W => by simpa using OpRun.pick (P := P) (D := D) (W := W) (h := h) ho h1) he
  | true => exact .of (fun D W => by simpa using OpRun.pick (P := P) (D := D) (W := W) (h := h) ho h1) he
theorem Goes.new {v : Value} {b : AObj} (k : ∀ D W, OpRun P D W o tm h v (h.push b)) (hk : newK h K v b = some a) : Goes P o tm h K a := by
  unfold newK at hk
  rw [forceC_eq, hpushK_eq] at hk
  exact ⟨⟨v, h.push b, [], [], false, false⟩, .new k, hk⟩
theorem oAlloc_sound {t : TypeId} (ho : o.op = .alloc t) (he : oAlloc t P CF E o ft h K = some a) : Goes P o tm h K a := by
  obtain ⟨b, h1, he⟩ := optK_inv he
  exact .new (fun D W => .alloc ho h1) he
theorem oBox_sound {t : TypeId} {x : Operand} (ho : o.op = .box t x) (hr : Rep ft tm) (he : oBox t x P CF E o ft h K = some a) : Goes P o tm h K a := by
  unfold oBox at he
  rw [evalF_eq hr] at he
  obtain ⟨b, h1, he⟩ := optK_inv he
  exact .new (fun D W => .box ho h1) he
theorem oBuildSlice_sound {t : TypeId} {len : Nat} {ps : Array (Nat × Operand)} (ho : o.op = .buildSlice t len ps) (hr : Rep ft tm) (he : oBuildSlice t len ps P CF E o ft h K = some a) : Goes P o tm h K a := by
  unfold oBuildSlice at he
  rw [evalF_eq hr] at he
  obtain ⟨b, h1, he⟩ := optK_inv he
  exact .new (fun D W => .buildSlice ho h1) he
theorem oMakeSlice_sound {t : TypeId} {x y : Operand} (ho : o.op = .makeSlice t x y) (hr : Rep ft tm) (he : oMakeSlice t x y P CF E o ft h K = some a) : Goes P o tm h K a := by
  unfold oMakeSlice at he
  rw [evalF_eq hr] at he
  obtain ⟨⟨l, c, b⟩, h1, he⟩ := optK_inv he
  exact .new (fun D W => .makeSlice ho h1) he
theorem oBuiltin_sound {b : Builtin} {xs : Array Operand} {ts : Array TypeId} (ho : o.op = .call ⟨.builtin b, xs, ts⟩) (hr : Rep ft tm) (he : oBuiltin b xs ts P CF E o ft h K = some a) : Goes P o tm h K a := by
  have fin : ∀ (x y : Operand) (t u : TypeId), b = .append → xs.toList = [x, y] → ts.toList = [t, u] → (optK (appendA P h t u (evalF ft x) (evalF ft y)) fun r => HA.onK h r.2.1 fun h' => forceV r.1 fun v => K v h' r.2.2.1 r.2.2.2 false false) = some a → Goes P o tm h K a := fun x y t u hb hx ht he2 => by
    clear he
    subst hb
    rw [arr2 hx, arr2 ht] at ho
    rw [evalF_eq hr] at he2
    obtain ⟨⟨v, act, rd, wr⟩, h1, he⟩ := optK_inv he2
    rw [HA.onK_eq, forceV_eq] at he
    exact ⟨⟨v, act.on h, rd, wr, false, false⟩, .write fun D W hr hw => .append ho (appendA_eq h1) hr fun i hi => (hw i hi).2, he⟩
  have fin2 : ∀ (x : Operand) (t : TypeId), b = .len → xs.toList = [x] → ts.toList = [t] → binK (lenF (evalF ft x) (isSliceT P t)) h K (slow P CF E o ft h K) = some a → Goes P o tm h K a := fun x t hb hx ht he2 => by
    clear he fin
    subst hb
    rcases binK_inv he2 with ⟨v, h1, he⟩ | ⟨_, he⟩
    · rw [arr1 hx, arr1 ht] at ho
      rw [evalF_eq hr] at h1
      unfold lenF at h1
      split at h1
      · rename_i ad n c e1 e2
        cases h1
        unfold isSliceT at e2
        split at e2
        · rename_i el hu
          exact .of (fun D W => .len (rd := []) ho (by rw [e1]; simp [aLen, hu]) (by simp)) he
        · cases e2
      · cases h1
    · exact slow_sound (CF := CF) (E := E) hr he
  generalize hxs : xs.toList = lx at fin fin2
  generalize hts : ts.toList = lt at fin fin2
  unfold oBuiltin at he
  rw [hxs, hts] at he
  cases b with
  | len =>
    cases lx with
    | nil => exact slow_sound (CF := CF) (E := E) hr he
    | cons x lx => cases lx with
      | cons y lx => exact slow_sound (CF := CF) (E := E) hr he
      | nil => cases lt with
        | nil => exact slow_sound (CF := CF) (E := E) hr he
        | cons t lt => cases lt with
          | cons u lt => exact slow_sound (CF := CF) (E := E) hr he
          | nil => exact fin2 x t rfl rfl rfl he
  | append =>
    cases lx with
    | nil => exact slow_sound (CF := CF) (E := E) hr he
    | cons x lx => cases lx with
      | nil => exact slow_sound (CF := CF) (E := E) hr he
      | cons y lx => cases lx with
        | cons z lx => exact slow_sound (CF := CF) (E := E) hr he
        | nil => cases lt with
          | nil => exact slow_sound (CF := CF) (E := E) hr he
          | cons t lt => cases lt with
            | nil => exact slow_sound (CF := CF) (E := E) hr he
            | cons u lt => cases lt with
              | cons z lt => exact slow_sound (CF := CF) (E := E) hr he
              | nil => exact fin x y t u rfl rfl rfl he
  | _ => exact slow_sound (CF := CF) (E := E) hr he
theorem ofLK_spec : ∀ (l : List Value) (i : Nat) (t : BT), ∃ t', (∀ j, t'.get j = if i ≤ j ∧ j < i + l.length then l.getD (j - i) undef else t.get j) ∧ ∀ {X : Type} (K : BT → Option X), ofLK l i t K = K t'
  | [], i, t => ⟨t, fun j => by rw [if_neg (by simp)], fun K => rfl⟩
  | v :: l, i, t => by
    obtain ⟨t₁, h1, h2⟩ := BT.setK_spec (i + 1) t i v (by omega)
    obtain ⟨t₂, h3, h4⟩ := ofLK_spec l (i + 1) t₁
    refine ⟨t₂, fun j => ?_, fun K => ?_⟩
    · rw [h3]
      by_cases hj : i + 1 ≤ j ∧ j < i + 1 + l.length
      · rw [if_pos hj, if_pos (by simp; omega)]
        have e : j - i = (j - (i + 1)) + 1 := by omega
        rw [e, List.getD_cons_succ]
      · rw [if_neg hj, h1]
        by_cases e : i = j
        · subst e; simp
        · rw [if_neg e, if_neg (by simp; omega)]
    · show BT.setK (i + 1) t i v (fun t => ofLK l (i + 1) t K) = _
      rw [h2, h4]
theorem ofLK_rep {X : Type} {l : List Value} {K : BT → Option X} {x : X} (he : ofLK l 0 .nil K = some x) (k : Nat) : ∃ ft, Rep ft (l ++ List.replicate k undef) ∧ K ft = some x := by
  obtain ⟨t, h1, h2⟩ := ofLK_spec l 0 .nil
  rw [h2] at he
  refine ⟨t, fun i => ?_, he⟩
  rw [h1]
  by_cases hi : i < l.length
  · rw [if_pos (by omega)]
    simp [List.getElem?_append_left hi]
  · rw [if_neg (by omega), BT.get_nil]
    simp only [List.getD_eq_getElem?_getD]
    rw [List.getElem?_append_right (by omega)]
    by_cases hk : i - l.length < k
    · simp [hk]
    · rw [List.getElem?_eq_none (by simp; omega)]; rfl
theorem toL_eq {ft : BT} {tm : List Value} (hr : Rep ft tm) : ∀ (N i : Nat), i + N = tm.length → toL ft N i = tm.drop i
  | 0, i, h => by rw [List.drop_eq_nil_of_le (by omega)]; rfl
  | N + 1, i, h => by
    have hlt : i < tm.length := by omega
    show ft.get i :: toL ft N (i + 1) = _
    rw [toL_eq hr N (i + 1) (by omega), hr i, List.drop_eq_getElem_cons hlt]
    congr 1
    simp [List.getElem?_eq_getElem hlt]
theorem codeL_inv {c : Code} {l : List Value} {df : List Nat} {K' : CR → Option A} (hE : EKOk P E) (he : codeL E c l df h K' = some a) : ∃ r : CR, Run P (· ∈ r.wr) true c ⟨l, df, h⟩ r.x ⟨r.tm, r.df, r.h⟩ ∧ K' r = some a := by
  obtain ⟨ft, h1, he⟩ := ofLK_rep he 0
  simp only [List.replicate_zero, List.append_nil] at h1
  obtain ⟨x, tm', ft', df', h', wr, h2, h3, h4, h5⟩ := hE _ _ _ _ _ _ _ _ he l rfl h1
  have e : toL ft' l.length 0 = tm' := by rw [toL_eq h3 l.length 0 (by rw [h2]; omega)]; rfl
  rw [e] at h5
  exact ⟨⟨x, tm', df', h', wr⟩, h4, h5⟩
theorem yieldK_sound {f : Operand} {xs : Array Operand} {ts : Array TypeId} {l : Nat} (hE : EKOk P E) (ho : o.op = .call ⟨.value f, xs, ts⟩) (hf : evalT tm f = .func (.yield l) #[] #[]) (he : yieldK E h l (xs.toList.map (evalT tm)) K = some a) : Goes P o tm h K a := by
  unfold yieldK at he
  split at he
  case h_2 => cases he
  rename_i pe tmL ps asg bo df hl
  rw [hget_eq] at hl
  obtain ⟨hsz, he⟩ := ifK_yes he
  have hsz : xs.size = ps.size := by have := Nat.eq_of_beq_eq_true hsz; simpa using this
  obtain ⟨r₁, r1, he⟩ := codeL_inv hE he
  split at he
  case h_2 => cases he
  rename_i tm₁ df₁ h₁ wr₁
  split at he
  case h_2 => cases he
  rename_i pe' tmL' ps' as' bo' df' hl₁
  rw [hget_eq] at hl₁
  rw [hputK_eq] at he
  obtain ⟨r₂, r2, he⟩ := codeL_inv hE he
  split at he
  case h_2 => cases he
  rename_i st₂ pe₂ tm₂ ps₂ as₂ bo₂ df₂ jump hl₂ hj
  rw [hget_eq] at hl₂
  rw [hputK_eq, forceC_eq] at he
  refine ⟨⟨.bool jump.isNone, _, [], l :: (wr₁ ++ r₂.wr), true, false⟩, ⟨(fun e => by cases e), fun D W hall _ hw => ?_⟩, he⟩
  rw [hall rfl]
  exact OpRun.yield (s₁ := ⟨tm₁, df₁, h₁⟩) (s₂ := ⟨r₂.tm, r₂.df, r₂.h⟩) ho hf hl hsz (r1.weak fun i hi => (hw i (by simp at hi ⊢; exact .inr (.inl hi))).2) hl₁ (r2.weak fun i hi => (hw i (by simp at hi ⊢; exact .inr (.inr hi))).2) hl₂ hj (hw l (by simp)).2
theorem oCall_sound {f : Operand} {xs : Array Operand} {ts : Array TypeId} (hCF : CKOk P CF) (hE : EKOk P E) (ho : o.op = .call ⟨.value f, xs, ts⟩) (hr : Rep ft tm) (he : oCall f xs P CF E o ft h K = some a) : Goes P o tm h K a := by
  unfold oCall at he
  rw [evalF_eq hr] at he
  generalize hf : evalT tm f = v at he
  cases v with
  | func fn first cap =>
    cases fn with
    | func g =>
      obtain ⟨hc, he⟩ := ifK_yes he
      rw [forceL_eq] at he
      obtain ⟨fn, h1, h2, h3⟩ := calls_spec hc
      obtain ⟨v, h', wr, hcr, he⟩ := hCF _ _ _ _ _ he
      refine ⟨⟨v, h', [], wr, true, false⟩, ⟨(fun e => by cases e), fun D W hall _ hw => ?_⟩, he⟩
      rw [hall rfl]
      have hcr := hcr.weak (W' := W) fun i hi => (hw i hi).2
      have e : (first.toList ++ xs.toList.map (evalT tm) ++ cap.toList).toArray = first ++ xs.map (evalT tm) ++ cap := by
        apply Array.toList_inj.1
        simp
      rw [e] at hcr
      exact OpRun.call ho hf h1 h2 h3 hcr
    | yield l =>
      obtain ⟨g1, he⟩ := ifK_yes he
      obtain ⟨g2, he3⟩ := ifK_yes he
      have e1 : first = #[] := Array.eq_empty_of_size_eq_zero (Nat.eq_of_beq_eq_true g1)
      have e2 : cap = #[] := Array.eq_empty_of_size_eq_zero (Nat.eq_of_beq_eq_true g2)
      subst e1 e2
      rw [forceL_eq] at he3
      exact yieldK_sound hE ho hf he3
    | _ => cases he
  | _ => cases he
theorem fOpF_sound (hCF : CKOk P CF) (hE : EKOk P E) (hr : Rep ft tm) (he : fOpF o.op P CF E o ft h K = some a) : Goes P o tm h K a := by
  generalize hop : o.op = op at he
  cases op with
  | move x => have he : oMove x P CF E o ft h K = some a := he; unfold oMove at he; rw [evalF_eq hr, headV_eq] at he; exact .of (fun D W => .move hop) he
  | assign x => have he : oMove x P CF E o ft h K = some a := he; unfold oMove at he; rw [evalF_eq hr, headV_eq] at he; exact .of (fun D W => .assign hop) he
  | pick c x y => exact oPick_sound (CF := CF) (E := E) hop hr he
  | alloc t => exact oAlloc_sound (CF := CF) (E := E) (ft := ft) hop he
  | box t x => exact oBox_sound (CF := CF) (E := E) hop hr he
  | buildSlice t len ps => exact oBuildSlice_sound (CF := CF) (E := E) hop hr he
  | load t x => exact oLoad_sound (CF := CF) (E := E) hop hr he
  | store t x y => exact oStore_sound (CF := CF) (E := E) hop hr he
  | nilCheck x => exact oNil_sound (CF := CF) (E := E) hop hr he
  | binOp op t x y t₂ => exact oBin_sound (CF := CF) (E := E) hop hr he
  | unOp op t x => exact oUn_sound (CF := CF) (E := E) hop hr he
  | convert src dst x => exact oConv_sound (CF := CF) (E := E) hop hr he
  | makeSlice t x y => exact oMakeSlice_sound (CF := CF) (E := E) hop hr he
  | fieldAddr s x f => exact oField_sound (CF := CF) (E := E) hop hr he
  | indexAddr t x i => exact oIndex_sound (CF := CF) (E := E) hop hr he
  | extract x i => exact oExtract_sound (CF := CF) (E := E) hop hr he
  | call c =>
    obtain ⟨callee, xs, ts⟩ := c
    cases callee with
    | value f => exact oCall_sound hCF hE hop hr he
    | builtin b => exact oBuiltin_sound (CF := CF) (E := E) hop hr he
    | invoke r m => exact slow_sound (CF := CF) (E := E) hr he
  | _ => exact slow_sound (CF := CF) (E := E) hr he
end
end Go.Proofs.YtaaopajkogdacaaGreat
namespace Go.Proofs.YtaaopajkogdacaaGreat
section
variable {A B C : Type} {a : A} {P : Program} {CF : CallK A} {E : CodeK A} {ops : Array Oper} {N : Nat}
theorem putK_inv {ft : BT} {tm : List Value} {v : Value} {d : Option Tmp} {K : BT → Option A} (hr : Rep ft tm) (hN : tm.length = N) (he : putK N ft v K d = some a) : ∃ ft', Rep ft' (putT tm d v) ∧ K ft' = some a := by
  cases d with
  | none => exact ⟨ft, hr, he⟩
  | some t =>
    have he : ifK (Nat.ble (Nat.succ t) N) (BT.setK (Nat.succ t) ft t v K) none = some a := he
    obtain ⟨h1, he⟩ := ifK_yes he
    have hlt : t < N := Nat.le_of_ble_eq_true h1
    obtain ⟨t', h2, h3⟩ := BT.setK_spec (t + 1) ft t v (by omega)
    have he : BT.setK (t + 1) ft t v K = some a := he
    rw [h3] at he
    refine ⟨t', fun i => ?_, he⟩
    rw [h2]
    simp only [putT, List.getD_eq_getElem?_getD, List.getElem?_set]
    by_cases e : t = i
    · subst e; simp [hN, hlt]
    · rw [if_neg e, if_neg e, hr i]; simp
theorem putT_len {tm : List Value} {d : Option Tmp} {v : Value} : (putT tm d v).length = tm.length := by
  unfold putT
  split <;> simp
theorem yieldedV_eq {v : Value} {w : Bool} : yieldedV v w = ((match some v with | some (.bool b) => some b | _ => none) == some w) := by
  cases v with
  | bool b => cases b <;> cases w <;> rfl
  | _ => rfl
theorem wantedG_eq {ft : BT} {tm : List Value} (hr : Rep ft tm) (hN : tm.length = N) (g : Nat × Bool) : wantedG ops N ft g = (yielded ops tm.toArray g.1 == some g.2) := by
  unfold wantedG yielded
  cases ho : ops[g.1]? with
  | none => rfl
  | some o =>
    show wantedD N ft g.2 o.dst = _
    unfold wantedD
    cases hd : o.dst with
    | none => simp [hd]
    | some d =>
      show @Bool.rec (fun _ => Bool) false (yieldedV (ft.get d) g.2) (Nat.ble (d + 1) N) = _
      by_cases hlt : d < N
      · have e : tm.toArray[d]? = some (ft.get d) := by
          rw [hr d]
          have : d < tm.length := by rw [hN]; exact hlt
          simp [this]
        rw [Nat.ble_eq_true_of_le hlt]
        simp only [hd, Option.bind_some, e]
        exact yieldedV_eq
      · have e : tm.toArray[d]? = none := by simp; rw [hN]; exact Nat.le_of_not_lt hlt
        have : Nat.ble (d + 1) N = false := by
          cases hb : Nat.ble (d + 1) N with
          | false => rfl
          | true => exact absurd (Nat.le_of_ble_eq_true hb) hlt
        rw [this]
        simp only [hd, Option.bind_some, e]
        rfl
theorem wantedK_inv {ft : BT} {tm : List Value} {o : Oper} {x y : Option A} (hr : Rep ft tm) (hN : tm.length = N) (he : wantedK ops N ft x y o.guard = some a) : (Region.wanted o (yielded ops tm.toArray) = true ∧ x = some a) ∨ (Region.wanted o (yielded ops tm.toArray) = false ∧ y = some a) := by
  unfold Region.wanted
  cases hg : o.guard with
  | none => rw [hg] at he; exact .inl ⟨rfl, he⟩
  | some g =>
    rw [hg] at he
    have he : ifK (wantedG ops N ft g) x y = some a := he
    rw [wantedG_eq hr hN g] at he
    rcases ifK_inv he with ⟨h1, h2⟩ | ⟨h1, h2⟩
    · exact .inl ⟨h1, h2⟩
    · exact .inr ⟨h1, h2⟩
theorem stepK_inv {ft : BT} {tm : List Value} {o : Oper} {h : AHeap} {K : BT → AHeap → Nat → OR → Option A} (hCF : CKOk P CF) (hE : EKOk P E) (hr : Rep ft tm) (hN : tm.length = N) (he : stepK P CF E ops N o ft h K = some a) :
    ∃ ft' r, Rep ft' (putT tm o.dst r.v) ∧ K ft' r.h h.n r = some a ∧ ((Region.wanted o (yielded ops tm.toArray) = true ∧ OpOk P o tm h r) ∨ (Region.wanted o (yielded ops tm.toArray) = false ∧ r = ⟨undef, h, [], [], false, true⟩)) := by
  unfold stepK at he
  rcases wantedK_inv hr hN he with ⟨hw, he⟩ | ⟨hw, he⟩
  · obtain ⟨r, h1, h2⟩ := fOpF_sound hCF hE hr he
    obtain ⟨ft', h3, h4⟩ := putK_inv hr hN h2
    exact ⟨ft', r, h3, h4, .inl ⟨hw, h1⟩⟩
  · obtain ⟨ft', h3, h4⟩ := putK_inv hr hN he
    exact ⟨ft', ⟨undef, h, [], [], false, true⟩, h3, h4, .inr ⟨hw, rfl⟩⟩
theorem OpOk.ev {o : Oper} {tm : List Value} {h : AHeap} {r : OR} (k : OpOk P o tm h r) {W : Nat → Prop} (hW : ∀ i ∈ r.wr, W i) : OpRun P Ev W o tm h r.v r.h := k.2 Ev W (fun _ => rfl) (fun _ _ => trivial) fun i hi => ⟨trivial, hW i hi⟩
theorem opsK_inv (hCF : CKOk P CF) (hE : EKOk P E) : ∀ (os : List Oper) (k : Nat) (ft : BT) (tm : List Value) (h : AHeap) (wr : List Nat) (K : BT → AHeap → List Nat → Option A), ops.toList.drop k = os → Rep ft tm → tm.length = N → opsK P CF E ops N os ft h wr K = some a →
    ∃ ft' tm' h' wr', Rep ft' tm' ∧ tm'.length = N ∧ K ft' h' wr' = some a ∧ (∀ i ∈ wr, i ∈ wr') ∧ ∀ W : Nat → Prop, (∀ i ∈ wr', W i) → OpsRun P W ops (List.range' k os.length) tm h tm' h'
  | [], k, ft, tm, h, wr, K, hd, hr, hN, he => ⟨ft, tm, h, wr, hr, hN, he, fun _ hi => hi, fun W _ => .nil⟩
  | o :: os, k, ft, tm, h, wr, K, hd, hr, hN, he => by
    have he : stepK P CF E ops N o ft h (fun ft h _ r => opsK P CF E ops N os ft h (r.wr ++ wr) K) = some a := he
    obtain ⟨ft₁, r, h1, h2, h3⟩ := stepK_inv hCF hE hr hN he
    have hd' : ops.toList.drop (k + 1) = os := by rw [← List.drop_drop, hd]; rfl
    have ho : ops[k]? = some o := by
      have : (ops.toList.drop k)[0]? = some o := by rw [hd]; rfl
      simpa using this
    obtain ⟨ft', tm', h', wr', g1, g2, g3, g4, g5⟩ := opsK_inv hCF hE os (k + 1) ft₁ _ r.h (r.wr ++ wr) K hd' h1 (by rw [putT_len]; exact hN) h2
    refine ⟨ft', tm', h', wr', g1, g2, g3, fun i hi => g4 i (by simp [hi]), fun W hW => ?_⟩
    simp only [List.length_cons, List.range'_succ]
    rcases h3 with ⟨hw, hk⟩ | ⟨hw, rfl⟩
    · exact .op ho hw (hk.ev fun i hi => hW i (g4 i (by simp [hi]))) (g5 W hW)
    · exact .skip ho hw (g5 W hW)
structure Tr1 where
  tm : List Value
  h : AHeap
  r : OR
theorem traceK_inv (hCF : CKOk P CF) (hE : EKOk P E) : ∀ (os : List Oper) (k : Nat) (ft : BT) (tm : List Value) (h : AHeap) (K : BT → AHeap → List (Nat × OR) → Option A), ops.toList.drop k = os → Rep ft tm → tm.length = N → traceK P CF E ops N os ft h K = some a →
    ∃ (ft' : BT) (tm' : List Value) (h' : AHeap) (ts : List Tr1), Rep ft' tm' ∧ tm'.length = N ∧ K ft' h' (ts.map fun t => (t.h.n, t.r)) = some a ∧ ts.length = os.length ∧
      (∀ j t, ts[j]? = some t → ∃ o, ops[k + j]? = some o ∧ ((Region.wanted o (yielded ops t.tm.toArray) = true ∧ OpOk P o t.tm t.h t.r) ∨ (Region.wanted o (yielded ops t.tm.toArray) = false ∧ t.r = ⟨undef, t.h, [], [], false, true⟩)) ∧
        (match ts[j + 1]? with | some u => u.tm = putT t.tm o.dst t.r.v ∧ u.h = t.r.h | none => tm' = putT t.tm o.dst t.r.v ∧ h' = t.r.h)) ∧
      (match ts[0]? with | some t => t.tm = tm ∧ t.h = h | none => tm' = tm ∧ h' = h)
  | [], k, ft, tm, h, K, hd, hr, hN, he => ⟨ft, tm, h, [], hr, hN, he, rfl, fun j t e => by simp at e, by simp⟩
  | o :: os, k, ft, tm, h, K, hd, hr, hN, he => by
    have he : stepK P CF E ops N o ft h (fun ft h n r => traceK P CF E ops N os ft h fun ft' h' rs => K ft' h' ((n, r) :: rs)) = some a := he
    obtain ⟨ft₁, r, h1, h2, h3⟩ := stepK_inv hCF hE hr hN he
    have hd' : ops.toList.drop (k + 1) = os := by rw [← List.drop_drop, hd]; rfl
    have ho : ops[k]? = some o := by
      have : (ops.toList.drop k)[0]? = some o := by rw [hd]; rfl
      simpa using this
    obtain ⟨ft', tm', h', ts, g1, g2, g3, g4, g5, g6⟩ := traceK_inv hCF hE os (k + 1) ft₁ _ r.h _ hd' h1 (by rw [putT_len]; exact hN) h2
    refine ⟨ft', tm', h', ⟨tm, h, r⟩ :: ts, g1, g2, g3, by simp [g4], fun j t e => ?_, by simp⟩
    cases j with
    | zero =>
      simp at e
      subst e
      refine ⟨o, ho, h3, ?_⟩
      simp only [Nat.zero_add, List.getElem?_cons_succ]
      cases hts : ts[0]? with
      | none => rw [hts] at g6; exact g6
      | some u => rw [hts] at g6; exact g6
    | succ j =>
      simp only [List.getElem?_cons_succ] at e
      obtain ⟨o', a1, a2, a3⟩ := g5 j t e
      refine ⟨o', by rw [← a1]; congr 1; omega, a2, ?_⟩
      simpa using a3
theorem apartRow_spec {oj : Oper} {j : Nat} : ∀ (os : List Oper) (i : Nat), apartRow ops oj j os i = true → ∀ k o, os[k]? = some o → i + k < j → bef ops (i + k) j = true ∨ o.apart ops oj = true
  | [], i, h, k, o, e, _ => by simp at e
  | x :: os, i, h, k, o, e, hlt => by
    unfold apartRow at h
    rw [Bool.and_eq_true] at h
    cases k with
    | zero =>
      simp at e; subst e
      have h1 := h.1
      simp only [Bool.or_eq_true, decide_eq_true_eq] at h1
      rcases h1 with (h1 | h1) | h1
      · omega
      · exact .inl h1
      · exact .inr h1
    | succ k =>
      have := apartRow_spec os (i + 1) h.2 k o (by simpa using e) (by omega)
      rw [show i + 1 + k = i + (k + 1) by omega] at this
      exact this
theorem apartAll_spec : ∀ (os : List Oper) (j : Nat), apartAll ops os j = true → ∀ k oj, os[k]? = some oj → apartRow ops oj (j + k) ops.toList 0 = true
  | [], j, h, k, o, e => by simp at e
  | x :: os, j, h, k, o, e => by
    unfold apartAll at h
    rw [Bool.and_eq_true] at h
    cases k with
    | zero => simp at e; subst e; exact h.1
    | succ k =>
      have := apartAll_spec os (j + 1) h.2 k o (by simpa using e)
      rw [show j + 1 + k = j + (k + 1) by omega] at this
      exact this
theorem edgeAll_spec : ∀ (os : List Oper) (j : Nat), edgeAll os j = true → ∀ k o, os[k]? = some o → ∀ e ∈ o.after, Region.binds .any e = true → e.on < j + k
  | [], j, h, k, o, e => by simp at e
  | x :: os, j, h, k, o, e => by
    unfold edgeAll at h
    rw [Bool.and_eq_true] at h
    cases k with
    | zero =>
      simp at e; subst e
      intro ed hed hb
      have := List.all_eq_true.1 h.1 ed (by simpa using hed)
      simp [hb] at this
      omega
    | succ k =>
      intro ed hed hb
      have := edgeAll_spec os (j + 1) h.2 k o (by simpa using e) ed hed hb
      omega
theorem loudRowS_spec {S : Nat → OR → Bool} {w : List Nat} {i : Nat} : ∀ (rs : List (Nat × OR)) (j : Nat), loudRowS S ops w i rs j = true → ∀ k n r, rs[k]? = some (n, r) → loudPair ops w i (j + k) n r = true ∨ S (j + k) r = true
  | [], j, h, k, n, r, e => by simp at e
  | (m, x) :: rs, j, h, k, n, r, e => by
    unfold loudRowS at h
    rw [Bool.and_eq_true, Bool.or_eq_true] at h
    cases k with
    | zero => simp at e; obtain ⟨rfl, rfl⟩ := e; exact h.1
    | succ k =>
      have := loudRowS_spec rs (j + 1) h.2 k n r (by simpa using e)
      rw [show j + 1 + k = j + (k + 1) by omega] at this
      exact this
theorem loudOkS_spec {S : Nat → OR → Bool} {all : List (Nat × OR)} : ∀ (rs : List (Nat × OR)) (j : Nat), loudOkS S ops all rs j = true → ∀ k n r, rs[k]? = some (n, r) → oldOf n r.wr ≠ [] → loudRowS S ops (oldOf n r.wr) (j + k) all 0 = true
  | [], j, h, k, n, r, e, _ => by simp at e
  | (m, x) :: rs, j, h, k, n, r, e, hne => by
    unfold loudOkS at h
    rw [Bool.and_eq_true] at h
    cases k with
    | zero =>
      simp at e; obtain ⟨rfl, rfl⟩ := e
      have h1 := h.1
      rw [Bool.or_eq_true] at h1
      rcases h1 with h1 | h1
      · exact absurd (List.isEmpty_iff.1 h1) hne
      · exact h1
    | succ k =>
      have := loudOkS_spec rs (j + 1) h.2 k n r (by simpa using e) hne
      rw [show j + 1 + k = j + (k + 1) by omega] at this
      exact this
def heapAt (h₀ : AHeap) (rs : List (Nat × OR)) : Nat → AHeap
  | 0 => h₀
  | q + 1 => match rs[q]? with
    | some x => x.2.h
    | none => h₀
theorem softAll_spec {chk : AHeap → Bool} {ops : Array Oper} {j b : Nat} : ∀ {rs : List (Nat × OR)} {H : AHeap} {i₀ : Nat}, softAll chk ops j b H rs i₀ = true → ∀ q, q ≤ rs.length → (∀ i n r', i < q → rs[i]? = some (n, r') → b ∈ oldOf n r'.wr → bef ops j (i₀ + i) = false) → chk (heapAt H rs q) = true
  | [], H, i₀, h, q, hq, _ => by
    obtain rfl : q = 0 := by simpa using hq
    exact h
  | (n, r) :: rs, H, i₀, h, q, hq, hno => by
    unfold softAll at h
    rw [Bool.and_eq_true, Bool.or_eq_true, Bool.and_eq_true] at h
    cases q with
    | zero => exact h.1
    | succ q =>
      rcases h.2 with ⟨h1, h2⟩ | h2
      · have := hno 0 n r (by omega) rfl (List.contains_iff_mem.1 h2)
        rw [Nat.add_zero, h1] at this
        cases this
      · have := softAll_spec h2 q (by simpa using hq) fun i n' r' hi e hb => by
          have := hno (i + 1) n' r' (by omega) (by simpa using e) hb
          rwa [show i₀ + 1 + i = i₀ + (i + 1) by omega]
        cases q with
        | zero => exact this
        | succ q =>
          have hl : q < rs.length := by simp at hq; omega
          simp only [heapAt, List.getElem?_cons_succ, List.getElem?_eq_getElem hl] at this ⊢
          exact this
theorem softB_spec {P : Program} {ft : BT} {h₀ : AHeap} {rs : List (Nat × OR)} {j : Nat} {r : OR} (h : softB P ops ft h₀ rs j r = true) : ∃ o t q b, ops[j]? = some o ∧ o.op = .load t (.tmp q) ∧ r.same = true ∧ r.wr = [] ∧ r.rd = [b] ∧ (∀ i oi, j ≤ i → ops[i]? = some oi → oi.dst ≠ some q) ∧ ∀ p, p ≤ rs.length → (∀ i n r', i < p → rs[i]? = some (n, r') → b ∈ oldOf n r'.wr → bef ops j i = false) → aLoad P (heapAt h₀ rs p) t (ft.get q) = some (r.v, b) := by
  unfold softB at h
  split at h
  case h_2 => cases h
  rename_i o ho
  split at h
  case h_2 => cases h
  rename_i t q hop
  rw [Bool.and_eq_true, Bool.and_eq_true] at h
  obtain ⟨⟨h1, h2⟩, h3⟩ := h
  split at h3
  case h_2 => cases h3
  rename_i b hrd
  rw [Bool.and_eq_true] at h3
  obtain ⟨h3, h4⟩ := h3
  refine ⟨o, t, q, b, ho, hop, h1, List.isEmpty_iff.1 h2, hrd, fun i oi hij hi hd => ?_, fun p hp hno => ?_⟩
  · have hm : oi ∈ ops.toList.drop j := by
      apply List.mem_of_getElem? (i := i - j)
      rw [List.getElem?_drop, show j + (i - j) = i by omega]
      simpa using hi
    have := List.all_eq_true.1 h3 oi hm
    rw [hd] at this
    simp at this
  · have := softAll_spec h4 p hp fun i n r' hi e hb => by rw [Nat.zero_add]; exact hno i n r' hi e hb
    split at this
    case h_2 => cases this
    rename_i v b' hl
    rw [Bool.and_eq_true] at this
    rw [hl, eqV_eq this.1, Nat.eq_of_beq_eq_true this.2]
theorem wrOfF_mem {n : Nat} : ∀ {rs : List (Nat × OR)} {k m : Nat} {r : OR} {i : Nat}, rs[k]? = some (m, r) → i ∈ r.wr → i < n → i ∈ wrOfF n rs
  | [], k, m, r, i, e, _, _ => by simp at e
  | (m', x) :: rs, k, m, r, i, e, hi, hn => by
    unfold wrOfF
    rw [List.mem_append]
    cases k with
    | zero => simp at e; obtain ⟨rfl, rfl⟩ := e; exact .inl (by simp [oldOf, hi, hn])
    | succ k => exact .inr (wrOfF_mem (by simpa using e) hi hn)
theorem OpRun.old {D W : Nat → Prop} {o : Oper} {tm : List Value} {h h' : AHeap} {v : Value} (k : OpRun P D W o tm h v h') : OpRun P D (fun i => W i ∧ i < h.n) o tm h v h' :=
  ⟨⟨k.fr.n, fun i hi hn => k.fr.get i hi fun hw => hn ⟨hw, hi⟩, k.fr.typ, k.fr.alive, k.fr.live, k.fr.roT⟩,
   fun m w A r a b c d K Q hK => k.run m w A r a b c d K Q fun v' w' m' f x y => hK v' w' m' ⟨f.old, fun i l h1 h2 h3 => (f.new i l h1 h2 h3).imp id fun ⟨j, k, a1, a2, a3⟩ => ⟨j, k, a1, ⟨a2, a1⟩, a3⟩, fun b hb hk => f.keep b hb fun j k a1 a2 => hk j k a1 ⟨a2, a1⟩, f.size, f.os, f.tape, f.output⟩ x y⟩
theorem regionK_sound {draw : Bool} {id : Nat} {ft : BT} {df : List Nat} {h : AHeap} {K : KC A} {q : Bool} (hCF : CKOk P CF) (hE : EKOk P E) (he : regionK P CF E ops draw N ft df h K = some a) (tm : List Value) (hN : tm.length = N) (hr : Rep ft tm) :
    ∃ x tm' ft' df' h' wr, tm'.length = N ∧ Rep ft' tm' ∧ Run P (· ∈ wr) q (.region id ops draw) ⟨tm, df, h⟩ x ⟨tm', df', h'⟩ ∧ K x ft' df' h' wr = some a := by
  unfold regionK at he
  rcases ifK_inv he with ⟨rfl, he⟩ | ⟨rfl, he⟩
  · obtain ⟨hd, he⟩ := ifK_yes he
    unfold drawOk at hd
    simp only [Bool.and_eq_true] at hd
    obtain ⟨⟨⟨hmix, hops⟩, hap⟩, hed⟩ := hd
    obtain ⟨ft', tm', h', ts, g1, g2, g3, g4, g5, g6⟩ := traceK_inv hCF hE ops.toList 0 ft tm h _ (by simp) hr hN he
    obtain ⟨hl, g3⟩ := ifK_yes g3
    have hlen : ts.length = ops.size := by simpa using g4
    let T : Nat → List Value := fun k => match ts[k]? with | some t => t.tm | none => tm'
    let H : Nat → AHeap := fun k => match ts[k]? with | some t => t.h | none => h'
    let V : Nat → Value := fun k => match ts[k]? with | some t => t.r.v | none => undef
    let R : Nat → OR := fun k => match ts[k]? with | some t => t.r | none => ⟨undef, h', [], [], false, true⟩
    let Sf : Nat → Prop := fun k => softB P ops ft' h (ts.map fun t => (t.h.n, t.r)) k (R k) = true
    let D : Nat → Nat → Prop := fun k i => ¬ Sf k ∧ ((R k).all = true ∨ i ∈ (R k).rd ∨ i ∈ (R k).wr ∨ ((H k).n ≤ i ∧ i < (H (k + 1)).n))
    let W : Nat → Nat → Prop := fun k i => i ∈ (R k).wr ∧ i < (H k).n
    let L : Nat → Prop := fun k => oldOf (H k).n (R k).wr ≠ []
    have at_ : ∀ k o, ops[k]? = some o → ∃ t, ts[k]? = some t ∧ T k = t.tm ∧ H k = t.h ∧ V k = t.r.v ∧ R k = t.r := fun k o ho => by
      have hlt : k < ts.length := by rw [hlen]; exact (Array.getElem?_eq_some_iff.1 ho).1
      have e : ts[k]? = some ts[k] := List.getElem?_eq_getElem hlt
      exact ⟨ts[k], e, by simp only [T, e], by simp only [H, e], by simp only [V, e], by simp only [R, e]⟩
    have nextT : ∀ k t o, ts[k]? = some t → ops[k]? = some o → T (k + 1) = putT t.tm o.dst t.r.v ∧ H (k + 1) = t.r.h := fun k t o e ho => by
      obtain ⟨o', a1, _, a3⟩ := g5 k t e
      rw [Nat.zero_add, ho] at a1
      cases a1
      cases hn : ts[k + 1]? with
      | none => rw [hn] at a3; simp only [T, H, hn]; exact a3
      | some u => rw [hn] at a3; simp only [T, H, hn]; exact a3
    have old_mem : ∀ k i, i ∈ (R k).wr → i < (H k).n → i ∈ oldOf (H k).n (R k).wr := fun k i h1 h2 => by simp [oldOf, h1, h2]
    have T0 : T 0 = tm ∧ H 0 = h := by
      cases h0 : ts[0]? with
      | none => rw [h0] at g6; simp only [T, H, h0]; exact g6
      | some t => rw [h0] at g6; simp only [T, H, h0]; exact g6
    have heaps : ∀ q, q ≤ ops.size → H q = heapAt h (ts.map fun t => (t.h.n, t.r)) q := fun q hq => by
      cases q with
      | zero => exact T0.2
      | succ q =>
        obtain ⟨t, e, _, _, _, _⟩ := at_ q ops[q] (by simp)
        rw [(nextT q t ops[q] e (by simp)).2]
        simp only [heapAt, List.getElem?_map, e, Option.map_some]
    have hz0 : ts[ops.size]? = none := List.getElem?_eq_none (by omega)
    have last : T ops.size = tm' := by simp only [T, hz0]
    have stay : ∀ (j q : Nat), (∀ i oi, j ≤ i → ops[i]? = some oi → oi.dst ≠ some q) → ∀ i, j ≤ i → i ≤ ops.size → (T i).getD q undef = (T j).getD q undef := fun j q hno i => by
      intro hji
      induction hji with
      | refl => exact fun _ => rfl
      | @step i hji ih =>
        intro hi
        obtain ⟨t, e, e1, _, _, _⟩ := at_ i ops[i] (by simp)
        rw [(nextT i t ops[i] e (by simp)).1, ← ih (by omega), e1]
        have hd := hno i ops[i] hji (by simp)
        cases hdd : ops[i].dst with
        | none => rfl
        | some d =>
          have hne : d ≠ q := fun x => hd (by rw [hdd, x])
          simp only [putT, List.getD_eq_getElem?_getD]
          rw [List.getElem?_set_ne hne]
    have tr : Trace P ops T H V D W L := {
      step := fun k o ho => by
        obtain ⟨t, e, e1, e2, e3, e4⟩ := at_ k o ho
        obtain ⟨o', a1, a2, _⟩ := g5 k t e
        rw [Nat.zero_add, ho] at a1
        cases a1
        have nx := nextT k t o e ho
        have hks : k < ops.size := (Array.getElem?_eq_some_iff.1 ho).1
        by_cases hsf : Sf k
        · obtain ⟨o', ty, q, b, b1, b2, b3, b4, b5, b6, b7⟩ := softB_spec hsf
          rw [ho] at b1
          cases b1
          rw [e4] at b3 b5
          rcases a2 with ⟨hw, hk⟩ | ⟨hw, hk⟩
          · refine .inr (.inr ⟨by rw [e1]; exact hw, by rw [nx.2, hk.1 b3, e2], fun i hi => hi.1 hsf, b, fun p hp hno => ?_⟩)
            refine OpRun.load b2 ?_ rfl
            have hq : evalT (T k) (.tmp q) = ft'.get q := by
              rw [g1 q, ← last, stay k q b6 ops.size (by omega) (Nat.le_refl _)]
              rfl
            have := b7 p (by rw [List.length_map, hlen]; exact hp) fun i n r' hi e' hb => by
              rw [List.getElem?_map] at e'
              obtain ⟨ti, ei, _, ei2, _, ei4⟩ := at_ i ops[i] (by simp)
              rw [ei] at e'
              simp only [Option.map_some, Option.some.injEq, Prod.mk.injEq] at e'
              obtain ⟨rfl, rfl⟩ := e'
              rw [← ei2, ← ei4] at hb
              have hb' := hb
              unfold oldOf at hb'
              rw [List.mem_filter] at hb'
              exact hno i hi (fun e => by rw [e] at hb; cases hb) ⟨hb'.1, of_decide_eq_true hb'.2⟩
            rw [← heaps p hp] at this
            rw [hq, this, e3, e4]
          · rw [hk] at b5; cases b5
        rcases a2 with ⟨hw, hk⟩ | ⟨hw, hk⟩
        · refine .inl ⟨by rw [e1]; exact hw, ?_⟩
          rw [e1, e2, e3, nx.2]
          have hk2 : OpRun P (D k) (fun i => i ∈ (R k).wr) o t.tm t.h t.r.v t.r.h := ?_
          · have := hk2.old
            rw [← e2] at this
            rw [← e2]
            exact this
          refine hk.2 (D k) (fun i => i ∈ (R k).wr) (fun hall => ?_) (fun i hi => ?_) fun i hi => ⟨?_, ?_⟩
          · funext i
            apply propext
            exact ⟨fun _ => trivial, fun _ => ⟨hsf, .inl (by rw [e4]; exact hall)⟩⟩
          · exact ⟨hsf, .inr (.inl (by rw [e4]; exact hi))⟩
          · exact ⟨hsf, .inr (.inr (.inl (by rw [e4]; exact hi)))⟩
          · show i ∈ (R k).wr
            rw [e4]; exact hi
        · refine .inr (.inl ⟨by rw [e1]; exact hw, by rw [e3, hk], by rw [nx.2, hk, e2]⟩)
      tm := fun k o ho => by
        obtain ⟨t, e, e1, e2, e3, e4⟩ := at_ k o ho
        rw [(nextT k t o e ho).1, e1, e3]
      own := fun k hl i hi => by
        apply Classical.byContradiction
        intro hlt
        have := old_mem k i hi.1 hi.2
        exact hl fun e => by rw [e] at this; cases this
      new := fun k i h1 h2 => by
        refine ⟨fun hsf => ?_, .inr (.inr (.inr ⟨h1, h2⟩))⟩
        by_cases hks : k < ops.size
        · obtain ⟨o', ty, q, b, b1, b2, b3, b4, b5, b6, b7⟩ := softB_spec hsf
          obtain ⟨t, e, _, e2, _, e4⟩ := at_ k o' b1
          obtain ⟨o'', a1, a2, _⟩ := g5 k t e
          have nx := nextT k t o' e b1
          rw [e4] at b3
          have hh : t.r.h = t.h := by
            rcases a2 with ⟨_, hk⟩ | ⟨_, hk⟩
            · exact hk.1 b3
            · rw [hk]
          rw [nx.2, hh, ← e2] at h2
          omega
        · have n1 : ts[k]? = none := List.getElem?_eq_none (by omega)
          have n2 : ts[k + 1]? = none := List.getElem?_eq_none (by omega)
          simp only [H, n1, n2] at h1 h2
          omega
      rw := fun k i _ hi => by
        refine ⟨fun hsf => ?_, .inr (.inr (.inl hi.1))⟩
        obtain ⟨o', ty, q, b, b1, b2, b3, b4, b5, b6, b7⟩ := softB_spec hsf
        have h1 := hi.1
        rw [b4] at h1
        cases h1
      apart := fun i j oi oj hij hi hj => by
        have h1 := apartAll_spec ops.toList 0 hap j oj (by simpa using hj)
        rw [Nat.zero_add] at h1
        have := apartRow_spec ops.toList 0 h1 i oi (by simpa using hi) (by omega)
        rwa [Nat.zero_add] at this
      loud := fun i j hL hij his hjs h1 h2 => by
        obtain ⟨ti, ei, _, ei2, _, ei4⟩ := at_ i ops[i] (by simp [his])
        obtain ⟨tj, ej, ej1, ej2, _, ej4⟩ := at_ j ops[j] (by simp [hjs])
        have hne : oldOf ti.h.n ti.r.wr ≠ [] := by rw [← ei2, ← ei4]; exact hL
        have row := loudOkS_spec (ts.map fun t => (t.h.n, t.r)) 0 hl i ti.h.n ti.r (by simp [ei]) hne
        rw [Nat.zero_add] at row
        have pr := loudRowS_spec (ts.map fun t => (t.h.n, t.r)) 0 row j tj.h.n tj.r (by simp [ej])
        rw [Nat.zero_add] at pr
        by_cases hsf : Sf j
        · obtain ⟨o', ty, q, b, b1, b2, b3, b4, b5, b6, b7⟩ := softB_spec hsf
          obtain ⟨o'', a1, a2, _⟩ := g5 j tj ej
          rw [Nat.zero_add] at a1
          have nx := nextT j tj o'' ej a1
          rw [ej4] at b3
          refine ⟨.inr ?_, fun id _ hD => hD.1 hsf⟩
          rw [nx.2, ej2]
          rcases a2 with ⟨_, hk⟩ | ⟨_, hk⟩
          · exact hk.1 b3
          · rw [hk]
        have pr := pr.resolve_right fun x => hsf (by show softB _ _ _ _ _ _ (R j) = true; rw [ej4]; exact x)
        unfold loudPair at pr
        have hij' : (i == j) = false := by simpa using hij
        rw [hij', h1, h2] at pr
        simp only [Bool.false_or, Bool.and_eq_true, Bool.not_eq_true'] at pr
        obtain ⟨⟨hsame, hall⟩, hdis⟩ := pr
        obtain ⟨o', a1, a2, _⟩ := g5 j tj ej
        rw [Nat.zero_add] at a1
        have nx := nextT j tj o' ej a1
        have hh : tj.r.same = true → tj.r.h = tj.h := fun hsm => by
          rcases a2 with ⟨_, hk⟩ | ⟨_, hk⟩
          · exact hk.1 hsm
          · rw [hk]
        refine ⟨?_, fun id hid hD => ?_⟩
        · rw [Bool.or_eq_true] at hsame
          rcases hsame with h3 | h3
          · exact .inr (by rw [nx.2, hh h3, ej2])
          · refine .inl fun hLj => hLj ?_
            rw [ej4, ej2]; exact List.isEmpty_iff.1 h3
        · have hid' : id ∈ oldOf ti.h.n ti.r.wr := by rw [← ei4, ← ei2]; exact old_mem i id hid.1 hid.2
          have hno := List.all_eq_true.1 hdis id hid'
          simp only [Bool.and_eq_true, Bool.not_eq_true', Bool.or_eq_true, decide_eq_true_eq] at hno
          obtain ⟨⟨n1, n2⟩, n3⟩ := hno
          rcases hD.2 with h3 | h3 | h3 | h3
          · rw [ej4, hall] at h3; cases h3
          · rw [ej4] at h3
            rw [List.contains_iff_mem.2 h3] at n1; cases n1
          · rw [ej4] at h3
            rw [List.contains_iff_mem.2 h3] at n2; cases n2
          · rw [nx.2, ej2] at h3; omega
      wlt := fun k i hi => hi.2
      edge := fun k o e ho hee hb => by
        have := edgeAll_spec ops.toList 0 hed k o (by simpa using ho) e hee hb
        omega
      opds := hops }
    have hz : ts[ops.size]? = none := List.getElem?_eq_none (by omega)
    have Tn : T ops.size = tm' ∧ H ops.size = h' := by simp only [T, H, hz]; exact ⟨trivial, trivial⟩
    have run := Run.draws (q := q) (Wt := (· ∈ wrOfF h.n (ts.map fun t => (t.h.n, t.r)))) hmix tr (fun k hk hL i hi hi0 => by
      obtain ⟨t, e, _, _, _, e4⟩ := at_ k ops[k] (by simp [hk])
      rw [T0.2] at hi0
      exact wrOfF_mem (k := k) (m := t.h.n) (r := t.r) (by simp [e]) (by rw [← e4]; exact hi.1) hi0) id df
    rw [T0.1, T0.2, Tn.1, Tn.2] at run
    exact ⟨.normal, tm', ft', df, h', _, g2, g1, run, g3⟩
  · obtain ⟨hops, he⟩ := ifK_yes he
    obtain ⟨ft', tm', h', wr', g1, g2, g3, g4, g5⟩ := opsK_inv hCF hE ops.toList 0 ft tm h [] _ (by simp) hr hN he
    have run := g5 (· ∈ wr') fun _ hi => hi
    rw [← List.range_eq_range', Array.length_toList] at run
    exact ⟨.normal, tm', ft', df, h', wr', g2, g1, Run.region (s := ⟨tm, df, h⟩) hops run, g3⟩
end
end Go.Proofs.YtaaopajkogdacaaGreat
namespace Go.Proofs.YtaaopajkogdacaaGreat
open Go.RowKit
section
variable {A : Type} {a : A} {P : Program} {S : Summ} {E : CodeK A}
def SOk (P : Program) (S : Summ) : Prop := ∀ f args h v h' wr, S f args h = some (v, h', wr) → CallRun P (· ∈ wr) f args.toArray h v h'
theorem fResults_eq {h : AHeap} {ft : BT} {tm : List Value} (hr : Rep ft tm) : ∀ rs, fResults P h ft rs = aResults P h tm rs
  | [] => rfl
  | .tmp t :: rs => by simp only [fResults, aResults]; rw [fResults_eq hr rs, hr t]
  | .cell b t :: rs => by simp only [fResults, aResults]; rw [fResults_eq hr rs, hr b] <;> rfl
theorem fResult_eq {h : AHeap} {ft : BT} {tm : List Value} (hr : Rep ft tm) (rs : List ResultVar) : fResult P h ft rs = aResult P h tm rs := by
  unfold fResult aResult
  rw [fResults_eq hr rs] <;>
  rfl
theorem callK_sound (hS : SOk P S) (hE : EKOk P E) : CKOk P (callK P S E) := fun f args h K a he => by
  have he : Option.rec (optK (P.funcs[f]?) fun fn => optK fn.body fun c => callBody P E fn c args h K) (fun r => forceV r.1 fun v => K v r.2.1 r.2.2) (S f args h) = some a := he
  cases hs : S f args h with
  | some r =>
    rw [hs] at he
    obtain ⟨v, h', wr⟩ := r
    have he : forceV v (fun v => K v h' wr) = some a := he
    rw [forceV_eq] at he
    exact ⟨v, h', wr, hS _ _ _ _ _ _ hs, he⟩
  | none =>
    rw [hs] at he
    obtain ⟨fn, hf, he⟩ := optK_inv he
    obtain ⟨c, hb, he⟩ := optK_inv he
    obtain ⟨ft, h1, he⟩ := ofLK_rep he (fn.ntmps - args.length)
    rw [forceNat_eq] at he
    obtain ⟨x, tm', ft', df', h₁, wr, g1, g2, g3, he⟩ := hE _ _ _ _ _ _ _ _ he (args ++ List.replicate (fn.ntmps - args.length) undef) (by simp) h1
    obtain ⟨hx, he⟩ := ifK_yes he
    rw [Bool.and_eq_true] at hx
    obtain ⟨h₂, ht, he⟩ := optK_inv he
    obtain ⟨v, hv, he⟩ := optK_inv he
    rw [forceV_eq] at he
    rw [fResult_eq g2] at hv
    have hx1 : x = .normal ∨ x = .ret := by
      have := hx.1
      cases x <;> simp [leftB] at this <;> simp
    have hdf : ∀ d ∈ df', h.n ≤ d := fun d hd => Nat.le_of_ble_eq_true (List.all_eq_true.1 hx.2 d hd)
    have run : Run P (fun i => i ∈ wr ∨ i ∈ df') false c ⟨args.toArray.toList ++ List.replicate (fn.ntmps - args.toArray.size) undef, [], h⟩ x ⟨tm', df', h₁⟩ := by
      have := g3.weak (W' := fun i => i ∈ wr ∨ i ∈ df') fun i hi => .inl hi
      simpa using this
    have cr := (CallRun.of_marks hf hb run hx1 ht (fun d hd => .inr hd) hv).old
    refine ⟨v, h₂, oldOf h.n wr, cr.weak fun i hi => ?_, he⟩
    rcases hi with ⟨hi | hi, hlt⟩
    · simp [oldOf, hi, hlt]
    · have := hdf i hi; omega
theorem LoopRun.weak {W W' : Nat → Prop} {q : Bool} {c : Code} {s s' : ASt} {x : Exit} (k : LoopRun P W q c s x s') (hw : ∀ i, W i → W' i) : LoopRun P W' q c s x s' := by
  induction k with
  | out h hx => exact .out (h.weak hw) hx
  | more h _ ih => exact .more (h.weak hw) ih
def ELOk (P : Program) (E : CodeK A) : Prop := ∀ q N c ft df h K a, E q N (.loop c) ft df h K = some a → ∀ tm : List Value, tm.length = N → Rep ft tm → ∃ x tm' ft' df' h' wr, tm'.length = N ∧ Rep ft' tm' ∧ LoopRun P (· ∈ wr) q c ⟨tm, df, h⟩ x ⟨tm', df', h'⟩ ∧ K x ft' df' h' wr = some a
theorem isNormal_no {x : Exit} (h : isNormal x = false) : x ≠ .normal := fun e => by subst e; cases h
theorem isNormal_yes {x : Exit} (h : isNormal x = true) : x = .normal := by cases x <;> first | rfl | cases h
theorem loop_sound (hE : EKOk P E) (hL : ELOk P E) (q : Bool) (N : Nat) (c : Code) (ft : BT) (df : List Nat) (h : AHeap) (K : KC A) (a : A) (he : cLoop c P S E q N ft df h K = some a) (tm : List Value) (hN : tm.length = N) (hr : Rep ft tm) :
    ∃ x tm' ft' df' h' wr, tm'.length = N ∧ Rep ft' tm' ∧ LoopRun P (· ∈ wr) q c ⟨tm, df, h⟩ x ⟨tm', df', h'⟩ ∧ K x ft' df' h' wr = some a := by
  obtain ⟨x, tm₁, ft₁, df₁, h₁, wr, g1, g2, g3, he⟩ := hE _ _ _ _ _ _ _ _ he tm hN hr
  rcases ifK_inv he with ⟨hx, he⟩ | ⟨hx, he⟩
  · obtain rfl := isNormal_yes hx
    obtain ⟨x₂, tm₂, ft₂, df₂, h₂, wr₂, k1, k2, k3, he⟩ := hL _ _ _ _ _ _ _ _ he tm₁ g1 g2
    exact ⟨x₂, tm₂, ft₂, df₂, h₂, _, k1, k2, .more (g3.weak fun i hi => by simp [show i ∈ wr from hi]) (k3.weak fun i hi => by simp [show i ∈ wr₂ from hi]), he⟩
  · exact ⟨x, tm₁, ft₁, df₁, h₁, wr, g1, g2, .out g3 (isNormal_no hx), he⟩
theorem range_sound (hS : SOk P S) (hE : EKOk P E) (q : Bool) (N : Nat) (g : Operand) (ps : Array Tmp) (asg bo : Code) (ft : BT) (df : List Nat) (h : AHeap) (K : KC A) (a : A) (he : cRange g ps asg bo P S E q N ft df h K = some a) (tm : List Value) (hN : tm.length = N) (hr : Rep ft tm) :
    ∃ x tm' ft' df' h' wr, tm'.length = N ∧ Rep ft' tm' ∧ Run P (· ∈ wr) q (.rangeFunc g ps asg bo) ⟨tm, df, h⟩ x ⟨tm', df', h'⟩ ∧ K x ft' df' h' wr = some a := by
  unfold cRange at he
  rw [evalF_eq hr] at he
  generalize hf : evalT tm g = v at he
  cases v with
  | func fn first cap =>
    cases fn with
    | func f =>
      rcases ifK_inv he with ⟨_, he⟩ | ⟨hq, he⟩
      · cases he
      · subst hq
        obtain ⟨hc, he⟩ := ifK_yes he
        obtain ⟨ho, he⟩ := ifK_yes he
        obtain ⟨fn, h1, h2, h3⟩ := calls_spec hc
        have etm : toL ft N 0 = tm := by rw [toL_eq hr N 0 (by rw [hN]; omega)]; rfl
        rw [forceL_eq, etm, hpushK_eq, hpushK_eq] at he
        obtain ⟨v, h₃, wr, cr, he⟩ := callK_sound hS hE _ _ _ _ _ he
        split at he
        · rename_i st pe tm' ps' as' bo' df' hl
          rw [hget_eq] at hl
          split at he
          · rename_i x hst hx
            rw [hputK_eq] at he
            have cr' := cr.weak (W' := fun i => i ∈ (h.n + 1) :: wr) fun i hi => by simp [show i ∈ wr from hi]
            have e : (first.toList ++ [Value.func (.yield (h.n + 1)) #[] #[]] ++ cap.toList).toArray = first ++ #[.func (.yield (h.n + 1)) #[] #[]] ++ cap := by
              apply Array.toList_inj.1
              simp
            rw [e] at cr'
            exact ⟨x, tm, ft, _, _, _, hN, hr, Run.rangeFunc (s := ⟨tm, df, h⟩) ho hf h1 h2 h3 cr' hl hst hx (by simp), he⟩
          · cases he
        · cases he
    | _ => cases he
  | _ => cases he
theorem fev_sound (hS : SOk P S) : ∀ n, EKOk P (fev (A := A) P S n) ∧ ELOk P (fev (A := A) P S n)
  | 0 => ⟨(fun q N c ft df h K a he => by cases he), (fun q N c ft df h K a he => by cases he)⟩
  | n + 1 => by
    obtain ⟨hE, hL⟩ := fev_sound hS n
    have loop := loop_sound (S := S) hE hL
    refine ⟨fun q N c ft df h K a he tm hN hr => ?_, fun q N c ft df h K a he tm hN hr => loop q N c ft df h K a he tm hN hr⟩
    cases c with
    | skip => exact ⟨.normal, tm, ft, df, h, [], hN, hr, .skip, he⟩
    | label l => exact ⟨.normal, tm, ft, df, h, [], hN, hr, .label l, he⟩
    | ret => exact ⟨.ret, tm, ft, df, h, [], hN, hr, .ret, he⟩
    | exit id => exact ⟨.exit id, tm, ft, df, h, [], hN, hr, .exit id, he⟩
    | region id ops draw => exact regionK_sound (callK_sound hS hE) hE he tm hN hr
    | seq c₁ c₂ =>
      have he : cSeq c₁ c₂ P S (fev P S n) q N ft df h K = some a := he
      obtain ⟨x, tm₁, ft₁, df₁, h₁, wr, g1, g2, g3, he⟩ := hE _ _ _ _ _ _ _ _ he tm hN hr
      rcases ifK_inv he with ⟨hx, he⟩ | ⟨hx, he⟩
      · obtain rfl := isNormal_yes hx
        obtain ⟨x₂, tm₂, ft₂, df₂, h₂, wr₂, k1, k2, k3, he⟩ := hE _ _ _ _ _ _ _ _ he tm₁ g1 g2
        exact ⟨x₂, tm₂, ft₂, df₂, h₂, _, k1, k2, .seq (g3.weak fun i hi => by simp [show i ∈ wr from hi]) (k3.weak fun i hi => by simp [show i ∈ wr₂ from hi]), he⟩
      · exact ⟨x, tm₁, ft₁, df₁, h₁, wr, g1, g2, .seq_out g3 (isNormal_no hx), he⟩
    | cond o c₁ c₂ =>
      have he : cCond o c₁ c₂ P S (fev P S n) q N ft df h K = some a := he
      unfold cCond at he
      rw [evalF_eq hr] at he
      obtain ⟨t, h1, he⟩ := boolK_inv he
      rcases ifK_inv he with ⟨rfl, he⟩ | ⟨rfl, he⟩
      · obtain ⟨x, tm₁, ft₁, df₁, h₁, wr, g1, g2, g3, he⟩ := hE _ _ _ _ _ _ _ _ he tm hN hr
        exact ⟨x, tm₁, ft₁, df₁, h₁, wr, g1, g2, .cond_true h1 g3, he⟩
      · obtain ⟨x, tm₁, ft₁, df₁, h₁, wr, g1, g2, g3, he⟩ := hE _ _ _ _ _ _ _ _ he tm hN hr
        exact ⟨x, tm₁, ft₁, df₁, h₁, wr, g1, g2, .cond_false h1 g3, he⟩
    | block id c =>
      have he : cBlock id c P S (fev P S n) q N ft df h K = some a := he
      obtain ⟨x, tm₁, ft₁, df₁, h₁, wr, g1, g2, g3, he⟩ := hE _ _ _ _ _ _ _ _ he tm hN hr
      exact ⟨_, tm₁, ft₁, df₁, h₁, wr, g1, g2, .block g3, he⟩
    | loop c =>
      obtain ⟨x, tm₁, ft₁, df₁, h₁, wr, g1, g2, g3, he⟩ := loop q N c ft df h K a he tm hN hr
      exact ⟨x, tm₁, ft₁, df₁, h₁, wr, g1, g2, .loop g3, he⟩
    | rangeFunc g ps asg bo => exact range_sound hS hE q N g ps asg bo ft df h K a he tm hN hr
    | scope c =>
      have he : cScope c P S (fev P S n) q N ft df h K = some a := he
      obtain ⟨x, tm₁, ft₁, df₁, h₁, wr, g1, g2, g3, he⟩ := hE _ _ _ _ _ _ _ _ he tm hN hr
      rcases ifK_inv he with ⟨_, he⟩ | ⟨hx, he⟩
      · cases he
      · exact ⟨x, tm₁, ft₁, df₁, h₁, wr, g1, g2, Run.scope g3 (fun l e => by subst e; cases hx), he⟩
    | goto l => cases he
    | refuse why => cases he
theorem callRun_of (hS : SOk P S) {n : Nat} {f : FuncId} {args : List Value} {h : AHeap} {K : Value → AHeap → List Nat → Option A} (he : callK P S (fev P S n) f args h K = some a) : ∃ v h' wr, CallRun P (· ∈ wr) f args.toArray h v h' ∧ K v h' wr = some a :=
  callK_sound hS (fev_sound hS n).1 _ _ _ _ _ he
end
def noS : Summ := fun _ _ _ => none
theorem noS_ok (P : Program) : SOk P noS := fun _ _ _ _ _ _ e => by cases e
def emptyH : AHeap := ⟨0, .nil⟩
theorem hrel_empty (P : Program) (D : Nat → Prop) (w : World) : HRel P (fun _ => none) D emptyH w :=
  ⟨(fun i l e => by cases e), (fun i l c t e => by cases e), (fun i j l k e => by cases e), (fun i l c e => by cases e), (fun i l o _ e => by cases e)⟩
theorem calls_of {P : Program} {W : Nat → Prop} {f : FuncId} {args : Array Value} {v : Value} {h' : AHeap} (hg : P.globals.size = 0) (hc : CallRun P W f args emptyH v h') (ha : ∀ v ∈ args, flatB v = true) (hv : flatB v = true) (w : World) : Calls P f args w fun e w' => e = .returned v ∧ Below w.heap.size w w' := by
  have hr := hc.run (fun _ => none) w args (fun g hlt => by omega) (fun i _ _ => rfl) ⟨rfl, fun i u u' e e' => by rw [e] at e'; cases e'; exact VRel.flat _ (ha u (Array.mem_of_getElem? e))⟩ (hrel_empty P Ev w)
  refine (callsIn_wide.1 hr).mono ?_
  rintro e w' ⟨v', m', rfl, hF, hV, _⟩
  refine ⟨by rw [VRel.eq_of_flat hV hv], ?_⟩
  exact ⟨hF.os, hF.tape, hF.output, hF.size, fun b hb => hF.keep b hb fun j k hj => absurd hj (Nat.not_lt_zero j)⟩
end Go.Proofs.YtaaopajkogdacaaGreat