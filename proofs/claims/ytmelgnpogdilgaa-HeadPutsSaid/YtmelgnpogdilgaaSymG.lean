/- Walks on the abstract heap: numbers; quiet regions found by their text. No conditions. -/
import Derived.Test.YtmelgnpogdilgaaSymF
namespace Go.Proofs.Ytmelgnpogdilgaa
set_option linter.unusedVariables false
/-- Does an operation write what was there? -/
def quietOp : Op → Bool
  | .store .. | .mapUpdate .. | .insert .. | .mapEntry .. | .entryStore .. => false
  | .call ⟨.builtin .append, _, _⟩ | .call ⟨.builtin .copy, _, _⟩ | .call ⟨.builtin .delete, _, _⟩ | .call ⟨.builtin .clear, _, _⟩ => false
  | _ => true
theorem wrap_i64 {n : Int} (h0 : -9223372036854775808 ≤ n) (h1 : n ≤ 9223372036854775807) : IntKind.i64.wrap n = n := by
  have e : (2 : Int) ^ 64 = 18446744073709551616 := rfl
  have e2 : (2 : Int) ^ 63 = 9223372036854775808 := rfl
  simp only [IntKind.wrap, IntKind.signed, IntKind.bits, Bool.true_and, decide_eq_true_eq, Nat.reduceSub, e, e2]
  split <;> omega
theorem wrap_us (k : IntKind) (hk : k.signed = false) {n : Int} (h0 : 0 ≤ n) (h1 : n < 2 ^ k.bits) : k.wrap n = n := by
  simp only [IntKind.wrap, hk, Bool.false_and, Bool.false_eq_true, if_false]
  exact Int.emod_eq_of_lt h0 h1
def opK : Op → Nat
  | .move _ | .assign _ => 0
  | .load .. => 1
  | .store .. => 2
  | .fieldAddr .. | .indexAddr .. => 3
  | .binOp .. => 4
  | .call ⟨.builtin _, _, _⟩ => 5
  | .call _ => 6
  | .pick .. => 7
  | .box .. | .alloc _ => 8
  | .convert .. => 9
  | .makeSlice .. | .buildSlice .. | .slice .. | .build .. => 10
  | _ => 11
def codeK : Code → Nat
  | .seq .. => 0
  | .region _ _ false => 1
  | .region .. => 2
  | .cond .. => 3
  | .block .. => 4
  | _ => 5
def takeN : Nat → List Value → Option (List Value)
  | 0, _ => some []
  | _ + 1, [] => none
  | n + 1, a :: l => match takeN n l with
    | some r => some (a :: r)
    | none => none
theorem takeN_eq : ∀ {n : Nat} {l r : List Value}, takeN n l = some r → l.take n = r ∧ n ≤ l.length
  | 0, l, r, h => by simp only [takeN, Option.some.injEq] at h; subst h; exact ⟨rfl, Nat.zero_le _⟩
  | n + 1, [], r, h => by cases h
  | n + 1, a :: l, r, h => by
    unfold takeN at h
    split at h
    · rename_i r' h1; cases h
      have := takeN_eq h1
      exact ⟨by simp [this.1], by simp [this.2]⟩
    · cases h
def cutL : Nat → Nat → List Value → Option (List Value)
  | 0, n, l => takeN n l
  | _ + 1, _, [] => none
  | k + 1, n, _ :: l => cutL k n l
theorem cutL_eq : ∀ {k n : Nat} {l r : List Value}, cutL k n l = some r → (l.drop k).take n = r ∧ k + n ≤ l.length
  | 0, n, l, r, h => by have := takeN_eq (n := n) (l := l) (r := r) (by cases l <;> exact h); simpa using this
  | k + 1, n, [], r, h => by cases h
  | k + 1, n, _ :: l, r, h => by
    have := cutL_eq (k := k) (n := n) (l := l) (r := r) h
    exact ⟨by simpa using this.1, by simp; omega⟩
section
variable {P : Program} {W : Nat → Prop} {q : Bool} {N : Nat} {k : List It} {ov : Ov} {df : List Nat} {h : AHeap} {Q : PQ} {id : Nat} {ops : Array Oper} {os : List Oper} {o : Oper} {d : Nat} {b₀ : Bool} {tr : List (Option LE)}
theorem Go.drawnQ (hq : ops.toList.all (fun o => quietOp o.op) = true) (hk : drawOk P ops = true) (ho : ops.toList = os) (g : GoR P W q N ops false os k ov df h Q) : Go P W q N (.code (.region id ops true) :: k) .normal ov df h Q := Go.drawn hk ho g
theorem GoR.lt {t t₂ : TypeId} {x y : Operand} {kd : IntKind} {i j : Int} (ho : o.op = .binOp .lss t x y t₂) (hd : o.dst = some d) (hN : dOk d N = true) (hgd : o.guard = none) (hx : evO ov x = some (.int kd i)) (hy : evO ov y = some (.int kd j)) (g : GoR P W q N ops b₀ os k ((d, .bool (decide (i < j))) :: ov) df h Q) : GoR P W q N ops b₀ (o :: os) k (ov) df h Q := GoR.bin ho hd hN hgd hx hy rfl g
theorem GoR.le {t t₂ : TypeId} {x y : Operand} {kd : IntKind} {i j : Int} (ho : o.op = .binOp .leq t x y t₂) (hd : o.dst = some d) (hN : dOk d N = true) (hgd : o.guard = none) (hx : evO ov x = some (.int kd i)) (hy : evO ov y = some (.int kd j)) (g : GoR P W q N ops b₀ os k ((d, .bool (decide (i ≤ j))) :: ov) df h Q) : GoR P W q N ops b₀ (o :: os) k (ov) df h Q := GoR.bin ho hd hN hgd hx hy rfl g
theorem GoR.gt {t t₂ : TypeId} {x y : Operand} {kd : IntKind} {i j : Int} (ho : o.op = .binOp .gtr t x y t₂) (hd : o.dst = some d) (hN : dOk d N = true) (hgd : o.guard = none) (hx : evO ov x = some (.int kd i)) (hy : evO ov y = some (.int kd j)) (g : GoR P W q N ops b₀ os k ((d, .bool (decide (j < i))) :: ov) df h Q) : GoR P W q N ops b₀ (o :: os) k (ov) df h Q := GoR.bin ho hd hN hgd hx hy rfl g
theorem GoR.ge {t t₂ : TypeId} {x y : Operand} {kd : IntKind} {i j : Int} (ho : o.op = .binOp .geq t x y t₂) (hd : o.dst = some d) (hN : dOk d N = true) (hgd : o.guard = none) (hx : evO ov x = some (.int kd i)) (hy : evO ov y = some (.int kd j)) (g : GoR P W q N ops b₀ os k ((d, .bool (decide (j ≤ i))) :: ov) df h Q) : GoR P W q N ops b₀ (o :: os) k (ov) df h Q := GoR.bin ho hd hN hgd hx hy rfl g
theorem GoR.eq {t t₂ : TypeId} {x y : Operand} {kd : IntKind} {i j : Int} (ho : o.op = .binOp .eql t x y t₂) (hd : o.dst = some d) (hN : dOk d N = true) (hgd : o.guard = none) (hx : evO ov x = some (.int kd i)) (hy : evO ov y = some (.int kd j)) (g : GoR P W q N ops b₀ os k ((d, .bool (decide (i = j))) :: ov) df h Q) : GoR P W q N ops b₀ (o :: os) k (ov) df h Q := GoR.bin ho hd hN hgd hx hy rfl g
theorem GoR.ne {t t₂ : TypeId} {x y : Operand} {kd : IntKind} {i j : Int} (ho : o.op = .binOp .neq t x y t₂) (hd : o.dst = some d) (hN : dOk d N = true) (hgd : o.guard = none) (hx : evO ov x = some (.int kd i)) (hy : evO ov y = some (.int kd j)) (g : GoR P W q N ops b₀ os k ((d, .bool (!decide (i = j))) :: ov) df h Q) : GoR P W q N ops b₀ (o :: os) k (ov) df h Q := GoR.bin ho hd hN hgd hx hy rfl g
theorem GoR.add {t t₂ : TypeId} {x y : Operand} {i j : Int} (ho : o.op = .binOp .add t x y t₂) (hd : o.dst = some d) (hN : dOk d N = true) (hgd : o.guard = none) (hx : evO ov x = some (.int .i64 i)) (hy : evO ov y = some (.int .i64 j)) (h0 : -9223372036854775808 ≤ i + j) (h1 : i + j ≤ 9223372036854775807) (g : GoR P W q N ops b₀ os k ((d, .int .i64 (i + j)) :: ov) df h Q) : GoR P W q N ops b₀ (o :: os) k (ov) df h Q := GoR.bin ho hd hN hgd hx hy (by simp only [iBin, wrap_i64 h0 h1]) g
theorem GoR.addU {t t₂ : TypeId} {x y : Operand} {kd : IntKind} {i j : Int} (ho : o.op = .binOp .add t x y t₂) (hd : o.dst = some d) (hN : dOk d N = true) (hgd : o.guard = none) (hx : evO ov x = some (.int kd i)) (hy : evO ov y = some (.int kd j)) (hk : kd.signed = false) (h0 : 0 ≤ i + j) (h1 : i + j < 2 ^ kd.bits) (g : GoR P W q N ops b₀ os k ((d, .int kd (i + j)) :: ov) df h Q) : GoR P W q N ops b₀ (o :: os) k (ov) df h Q := GoR.bin ho hd hN hgd hx hy (by simp only [iBin, wrap_us kd hk h0 h1]) g
theorem GoR.sub {t t₂ : TypeId} {x y : Operand} {i j : Int} (ho : o.op = .binOp .sub t x y t₂) (hd : o.dst = some d) (hN : dOk d N = true) (hgd : o.guard = none) (hx : evO ov x = some (.int .i64 i)) (hy : evO ov y = some (.int .i64 j)) (h0 : -9223372036854775808 ≤ i - j) (h1 : i - j ≤ 9223372036854775807) (g : GoR P W q N ops b₀ os k ((d, .int .i64 (i - j)) :: ov) df h Q) : GoR P W q N ops b₀ (o :: os) k (ov) df h Q := GoR.bin ho hd hN hgd hx hy (by simp only [iBin, wrap_i64 h0 h1]) g
theorem GoR.subU {t t₂ : TypeId} {x y : Operand} {kd : IntKind} {i j : Int} (ho : o.op = .binOp .sub t x y t₂) (hd : o.dst = some d) (hN : dOk d N = true) (hgd : o.guard = none) (hx : evO ov x = some (.int kd i)) (hy : evO ov y = some (.int kd j)) (hk : kd.signed = false) (h0 : 0 ≤ i - j) (h1 : i - j < 2 ^ kd.bits) (g : GoR P W q N ops b₀ os k ((d, .int kd (i - j)) :: ov) df h Q) : GoR P W q N ops b₀ (o :: os) k (ov) df h Q := GoR.bin ho hd hN hgd hx hy (by simp only [iBin, wrap_us kd hk h0 h1]) g
theorem GoR.mul {t t₂ : TypeId} {x y : Operand} {i j : Int} (ho : o.op = .binOp .mul t x y t₂) (hd : o.dst = some d) (hN : dOk d N = true) (hgd : o.guard = none) (hx : evO ov x = some (.int .i64 i)) (hy : evO ov y = some (.int .i64 j)) (h0 : -9223372036854775808 ≤ i * j) (h1 : i * j ≤ 9223372036854775807) (g : GoR P W q N ops b₀ os k ((d, .int .i64 (i * j)) :: ov) df h Q) : GoR P W q N ops b₀ (o :: os) k (ov) df h Q := GoR.bin ho hd hN hgd hx hy (by simp only [iBin, wrap_i64 h0 h1]) g
theorem GoR.mulU {t t₂ : TypeId} {x y : Operand} {kd : IntKind} {i j : Int} (ho : o.op = .binOp .mul t x y t₂) (hd : o.dst = some d) (hN : dOk d N = true) (hgd : o.guard = none) (hx : evO ov x = some (.int kd i)) (hy : evO ov y = some (.int kd j)) (hk : kd.signed = false) (h0 : 0 ≤ i * j) (h1 : i * j < 2 ^ kd.bits) (g : GoR P W q N ops b₀ os k ((d, .int kd (i * j)) :: ov) df h Q) : GoR P W q N ops b₀ (o :: os) k (ov) df h Q := GoR.bin ho hd hN hgd hx hy (by simp only [iBin, wrap_us kd hk h0 h1]) g
theorem GoR.binE {op : BinOp} {t t₂ : TypeId} {x y : Operand} {kd : IntKind} {i j : Int} (v : Value) (ho : o.op = .binOp op t x y t₂) (hd : o.dst = some d) (hN : dOk d N = true) (hgd : o.guard = none) (hx : evO ov x = some (.int kd i)) (hy : evO ov y = some (.int kd j)) (hv : iBin op kd i j = some v) (g : GoR P W q N ops b₀ os k ((d, v) :: ov) df h Q) : GoR P W q N ops b₀ (o :: os) k (ov) df h Q := GoR.bin ho hd hN hgd hx hy hv g
theorem GoR.shiftE {op : BinOp} {t t₂ : TypeId} {x y : Operand} {kd kd' : IntKind} {i j : Int} (v : Value) (ho : o.op = .binOp op t x y t₂) (hd : o.dst = some d) (hN : dOk d N = true) (hgd : o.guard = none) (hx : evO ov x = some (.int kd i)) (hy : evO ov y = some (.int kd' j)) (hv : iSh op kd i j = some v) (g : GoR P W q N ops b₀ os k ((d, v) :: ov) df h Q) : GoR P W q N ops b₀ (o :: os) k (ov) df h Q := GoR.shift ho hd hN hgd hx hy hv g
theorem GoR.convE {t t₂ : TypeId} {x : Operand} {kd kd' : IntKind} {i : Int} (n : Int) (ho : o.op = .convert t t₂ x) (hd : o.dst = some d) (hN : dOk d N = true) (hgd : o.guard = none) (hx : evO ov x = some (.int kd' i)) [hc : IC P t t₂ kd] (hv : kd.wrap i = n) (g : GoR P W q N ops b₀ os k ((d, .int kd n) :: ov) df h Q) : GoR P W q N ops b₀ (o :: os) k (ov) df h Q := GoR.conv ho hd hN hgd hx (hv ▸ g)
theorem GoL.lt {t t₂ : TypeId} {x y : Operand} {kd : IntKind} {i j : Int} (ho : o.op = .binOp .lss t x y t₂) (hd : o.dst = some d) (hN : dOk d N = true) (hgd : o.guard = none) (hx : evO ov x = some (.int kd i)) (hy : evO ov y = some (.int kd j)) (g : GoL P W q N ops (tr ++ [none]) os k ((d, .bool (decide (i < j))) :: ov) df h Q) : GoL P W q N ops tr (o :: os) k (ov) df h Q := GoL.bin ho hd hN hgd hx hy rfl g
theorem GoL.le {t t₂ : TypeId} {x y : Operand} {kd : IntKind} {i j : Int} (ho : o.op = .binOp .leq t x y t₂) (hd : o.dst = some d) (hN : dOk d N = true) (hgd : o.guard = none) (hx : evO ov x = some (.int kd i)) (hy : evO ov y = some (.int kd j)) (g : GoL P W q N ops (tr ++ [none]) os k ((d, .bool (decide (i ≤ j))) :: ov) df h Q) : GoL P W q N ops tr (o :: os) k (ov) df h Q := GoL.bin ho hd hN hgd hx hy rfl g
theorem GoL.gt {t t₂ : TypeId} {x y : Operand} {kd : IntKind} {i j : Int} (ho : o.op = .binOp .gtr t x y t₂) (hd : o.dst = some d) (hN : dOk d N = true) (hgd : o.guard = none) (hx : evO ov x = some (.int kd i)) (hy : evO ov y = some (.int kd j)) (g : GoL P W q N ops (tr ++ [none]) os k ((d, .bool (decide (j < i))) :: ov) df h Q) : GoL P W q N ops tr (o :: os) k (ov) df h Q := GoL.bin ho hd hN hgd hx hy rfl g
theorem GoL.ge {t t₂ : TypeId} {x y : Operand} {kd : IntKind} {i j : Int} (ho : o.op = .binOp .geq t x y t₂) (hd : o.dst = some d) (hN : dOk d N = true) (hgd : o.guard = none) (hx : evO ov x = some (.int kd i)) (hy : evO ov y = some (.int kd j)) (g : GoL P W q N ops (tr ++ [none]) os k ((d, .bool (decide (j ≤ i))) :: ov) df h Q) : GoL P W q N ops tr (o :: os) k (ov) df h Q := GoL.bin ho hd hN hgd hx hy rfl g
theorem GoL.eq {t t₂ : TypeId} {x y : Operand} {kd : IntKind} {i j : Int} (ho : o.op = .binOp .eql t x y t₂) (hd : o.dst = some d) (hN : dOk d N = true) (hgd : o.guard = none) (hx : evO ov x = some (.int kd i)) (hy : evO ov y = some (.int kd j)) (g : GoL P W q N ops (tr ++ [none]) os k ((d, .bool (decide (i = j))) :: ov) df h Q) : GoL P W q N ops tr (o :: os) k (ov) df h Q := GoL.bin ho hd hN hgd hx hy rfl g
theorem GoL.ne {t t₂ : TypeId} {x y : Operand} {kd : IntKind} {i j : Int} (ho : o.op = .binOp .neq t x y t₂) (hd : o.dst = some d) (hN : dOk d N = true) (hgd : o.guard = none) (hx : evO ov x = some (.int kd i)) (hy : evO ov y = some (.int kd j)) (g : GoL P W q N ops (tr ++ [none]) os k ((d, .bool (!decide (i = j))) :: ov) df h Q) : GoL P W q N ops tr (o :: os) k (ov) df h Q := GoL.bin ho hd hN hgd hx hy rfl g
theorem GoL.add {t t₂ : TypeId} {x y : Operand} {i j : Int} (ho : o.op = .binOp .add t x y t₂) (hd : o.dst = some d) (hN : dOk d N = true) (hgd : o.guard = none) (hx : evO ov x = some (.int .i64 i)) (hy : evO ov y = some (.int .i64 j)) (h0 : -9223372036854775808 ≤ i + j) (h1 : i + j ≤ 9223372036854775807) (g : GoL P W q N ops (tr ++ [none]) os k ((d, .int .i64 (i + j)) :: ov) df h Q) : GoL P W q N ops tr (o :: os) k (ov) df h Q := GoL.bin ho hd hN hgd hx hy (by simp only [iBin, wrap_i64 h0 h1]) g
theorem GoL.addU {t t₂ : TypeId} {x y : Operand} {kd : IntKind} {i j : Int} (ho : o.op = .binOp .add t x y t₂) (hd : o.dst = some d) (hN : dOk d N = true) (hgd : o.guard = none) (hx : evO ov x = some (.int kd i)) (hy : evO ov y = some (.int kd j)) (hk : kd.signed = false) (h0 : 0 ≤ i + j) (h1 : i + j < 2 ^ kd.bits) (g : GoL P W q N ops (tr ++ [none]) os k ((d, .int kd (i + j)) :: ov) df h Q) : GoL P W q N ops tr (o :: os) k (ov) df h Q := GoL.bin ho hd hN hgd hx hy (by simp only [iBin, wrap_us kd hk h0 h1]) g
theorem GoL.sub {t t₂ : TypeId} {x y : Operand} {i j : Int} (ho : o.op = .binOp .sub t x y t₂) (hd : o.dst = some d) (hN : dOk d N = true) (hgd : o.guard = none) (hx : evO ov x = some (.int .i64 i)) (hy : evO ov y = some (.int .i64 j)) (h0 : -9223372036854775808 ≤ i - j) (h1 : i - j ≤ 9223372036854775807) (g : GoL P W q N ops (tr ++ [none]) os k ((d, .int .i64 (i - j)) :: ov) df h Q) : GoL P W q N ops tr (o :: os) k (ov) df h Q := GoL.bin ho hd hN hgd hx hy (by simp only [iBin, wrap_i64 h0 h1]) g
theorem GoL.subU {t t₂ : TypeId} {x y : Operand} {kd : IntKind} {i j : Int} (ho : o.op = .binOp .sub t x y t₂) (hd : o.dst = some d) (hN : dOk d N = true) (hgd : o.guard = none) (hx : evO ov x = some (.int kd i)) (hy : evO ov y = some (.int kd j)) (hk : kd.signed = false) (h0 : 0 ≤ i - j) (h1 : i - j < 2 ^ kd.bits) (g : GoL P W q N ops (tr ++ [none]) os k ((d, .int kd (i - j)) :: ov) df h Q) : GoL P W q N ops tr (o :: os) k (ov) df h Q := GoL.bin ho hd hN hgd hx hy (by simp only [iBin, wrap_us kd hk h0 h1]) g
theorem GoL.mul {t t₂ : TypeId} {x y : Operand} {i j : Int} (ho : o.op = .binOp .mul t x y t₂) (hd : o.dst = some d) (hN : dOk d N = true) (hgd : o.guard = none) (hx : evO ov x = some (.int .i64 i)) (hy : evO ov y = some (.int .i64 j)) (h0 : -9223372036854775808 ≤ i * j) (h1 : i * j ≤ 9223372036854775807) (g : GoL P W q N ops (tr ++ [none]) os k ((d, .int .i64 (i * j)) :: ov) df h Q) : GoL P W q N ops tr (o :: os) k (ov) df h Q := GoL.bin ho hd hN hgd hx hy (by simp only [iBin, wrap_i64 h0 h1]) g
theorem GoL.mulU {t t₂ : TypeId} {x y : Operand} {kd : IntKind} {i j : Int} (ho : o.op = .binOp .mul t x y t₂) (hd : o.dst = some d) (hN : dOk d N = true) (hgd : o.guard = none) (hx : evO ov x = some (.int kd i)) (hy : evO ov y = some (.int kd j)) (hk : kd.signed = false) (h0 : 0 ≤ i * j) (h1 : i * j < 2 ^ kd.bits) (g : GoL P W q N ops (tr ++ [none]) os k ((d, .int kd (i * j)) :: ov) df h Q) : GoL P W q N ops tr (o :: os) k (ov) df h Q := GoL.bin ho hd hN hgd hx hy (by simp only [iBin, wrap_us kd hk h0 h1]) g
theorem GoL.binE {op : BinOp} {t t₂ : TypeId} {x y : Operand} {kd : IntKind} {i j : Int} (v : Value) (ho : o.op = .binOp op t x y t₂) (hd : o.dst = some d) (hN : dOk d N = true) (hgd : o.guard = none) (hx : evO ov x = some (.int kd i)) (hy : evO ov y = some (.int kd j)) (hv : iBin op kd i j = some v) (g : GoL P W q N ops (tr ++ [none]) os k ((d, v) :: ov) df h Q) : GoL P W q N ops tr (o :: os) k (ov) df h Q := GoL.bin ho hd hN hgd hx hy hv g
theorem GoL.shiftE {op : BinOp} {t t₂ : TypeId} {x y : Operand} {kd kd' : IntKind} {i j : Int} (v : Value) (ho : o.op = .binOp op t x y t₂) (hd : o.dst = some d) (hN : dOk d N = true) (hgd : o.guard = none) (hx : evO ov x = some (.int kd i)) (hy : evO ov y = some (.int kd' j)) (hv : iSh op kd i j = some v) (g : GoL P W q N ops (tr ++ [none]) os k ((d, v) :: ov) df h Q) : GoL P W q N ops tr (o :: os) k (ov) df h Q := GoL.shift ho hd hN hgd hx hy hv g
theorem GoL.convE {t t₂ : TypeId} {x : Operand} {kd kd' : IntKind} {i : Int} (n : Int) (ho : o.op = .convert t t₂ x) (hd : o.dst = some d) (hN : dOk d N = true) (hgd : o.guard = none) (hx : evO ov x = some (.int kd' i)) [hc : IC P t t₂ kd] (hv : kd.wrap i = n) (g : GoL P W q N ops (tr ++ [none]) os k ((d, .int kd n) :: ov) df h Q) : GoL P W q N ops tr (o :: os) k (ov) df h Q := GoL.conv ho hd hN hgd hx (hv ▸ g)
theorem CallS.of0 {f : FuncId} {fn : Func} {c : Code} {rs : List ResultVar} {wr : List Nat} {Q : Value → AHeap → Prop} (hf : P.funcs[f]? = some fn) (hb : fn.body = some c) (hN : fn.ntmps = N) (hrs : fn.results = ⟨rs⟩) (hle : Nat.ble 0 N = true) (g : Go P (fun i => i ∈ wr ∨ h.n ≤ i) false N [.code c] .normal [] [] h (Fin P rs h.n Q)) : CallS P wr f [] h Q := CallS.of hf hb hN (by rw [hrs]) (Nat.le_of_ble_eq_true hle) rfl g
theorem CallS.of1 {f : FuncId} {fn : Func} {c : Code} {rs : List ResultVar} {wr : List Nat} {Q : Value → AHeap → Prop} {v0 : Value} (hf : P.funcs[f]? = some fn) (hb : fn.body = some c) (hN : fn.ntmps = N) (hrs : fn.results = ⟨rs⟩) (hle : Nat.ble 1 N = true) (g : Go P (fun i => i ∈ wr ∨ h.n ≤ i) false N [.code c] .normal [(0, v0)] [] h (Fin P rs h.n Q)) : CallS P wr f [v0] h Q := CallS.of hf hb hN (by rw [hrs]) (Nat.le_of_ble_eq_true hle) rfl g
theorem CallS.of2 {f : FuncId} {fn : Func} {c : Code} {rs : List ResultVar} {wr : List Nat} {Q : Value → AHeap → Prop} {v0 v1 : Value} (hf : P.funcs[f]? = some fn) (hb : fn.body = some c) (hN : fn.ntmps = N) (hrs : fn.results = ⟨rs⟩) (hle : Nat.ble 2 N = true) (g : Go P (fun i => i ∈ wr ∨ h.n ≤ i) false N [.code c] .normal [(0, v0), (1, v1)] [] h (Fin P rs h.n Q)) : CallS P wr f [v0, v1] h Q := CallS.of hf hb hN (by rw [hrs]) (Nat.le_of_ble_eq_true hle) rfl g
theorem CallS.of3 {f : FuncId} {fn : Func} {c : Code} {rs : List ResultVar} {wr : List Nat} {Q : Value → AHeap → Prop} {v0 v1 v2 : Value} (hf : P.funcs[f]? = some fn) (hb : fn.body = some c) (hN : fn.ntmps = N) (hrs : fn.results = ⟨rs⟩) (hle : Nat.ble 3 N = true) (g : Go P (fun i => i ∈ wr ∨ h.n ≤ i) false N [.code c] .normal [(0, v0), (1, v1), (2, v2)] [] h (Fin P rs h.n Q)) : CallS P wr f [v0, v1, v2] h Q := CallS.of hf hb hN (by rw [hrs]) (Nat.le_of_ble_eq_true hle) rfl g
theorem CallS.of4 {f : FuncId} {fn : Func} {c : Code} {rs : List ResultVar} {wr : List Nat} {Q : Value → AHeap → Prop} {v0 v1 v2 v3 : Value} (hf : P.funcs[f]? = some fn) (hb : fn.body = some c) (hN : fn.ntmps = N) (hrs : fn.results = ⟨rs⟩) (hle : Nat.ble 4 N = true) (g : Go P (fun i => i ∈ wr ∨ h.n ≤ i) false N [.code c] .normal [(0, v0), (1, v1), (2, v2), (3, v3)] [] h (Fin P rs h.n Q)) : CallS P wr f [v0, v1, v2, v3] h Q := CallS.of hf hb hN (by rw [hrs]) (Nat.le_of_ble_eq_true hle) rfl g
theorem CallS.of5 {f : FuncId} {fn : Func} {c : Code} {rs : List ResultVar} {wr : List Nat} {Q : Value → AHeap → Prop} {v0 v1 v2 v3 v4 : Value} (hf : P.funcs[f]? = some fn) (hb : fn.body = some c) (hN : fn.ntmps = N) (hrs : fn.results = ⟨rs⟩) (hle : Nat.ble 5 N = true) (g : Go P (fun i => i ∈ wr ∨ h.n ≤ i) false N [.code c] .normal [(0, v0), (1, v1), (2, v2), (3, v3), (4, v4)] [] h (Fin P rs h.n Q)) : CallS P wr f [v0, v1, v2, v3, v4] h Q := CallS.of hf hb hN (by rw [hrs]) (Nat.le_of_ble_eq_true hle) rfl g
theorem CallS.of6 {f : FuncId} {fn : Func} {c : Code} {rs : List ResultVar} {wr : List Nat} {Q : Value → AHeap → Prop} {v0 v1 v2 v3 v4 v5 : Value} (hf : P.funcs[f]? = some fn) (hb : fn.body = some c) (hN : fn.ntmps = N) (hrs : fn.results = ⟨rs⟩) (hle : Nat.ble 6 N = true) (g : Go P (fun i => i ∈ wr ∨ h.n ≤ i) false N [.code c] .normal [(0, v0), (1, v1), (2, v2), (3, v3), (4, v4), (5, v5)] [] h (Fin P rs h.n Q)) : CallS P wr f [v0, v1, v2, v3, v4, v5] h Q := CallS.of hf hb hN (by rw [hrs]) (Nat.le_of_ble_eq_true hle) rfl g
theorem CallS.of7 {f : FuncId} {fn : Func} {c : Code} {rs : List ResultVar} {wr : List Nat} {Q : Value → AHeap → Prop} {v0 v1 v2 v3 v4 v5 v6 : Value} (hf : P.funcs[f]? = some fn) (hb : fn.body = some c) (hN : fn.ntmps = N) (hrs : fn.results = ⟨rs⟩) (hle : Nat.ble 7 N = true) (g : Go P (fun i => i ∈ wr ∨ h.n ≤ i) false N [.code c] .normal [(0, v0), (1, v1), (2, v2), (3, v3), (4, v4), (5, v5), (6, v6)] [] h (Fin P rs h.n Q)) : CallS P wr f [v0, v1, v2, v3, v4, v5, v6] h Q := CallS.of hf hb hN (by rw [hrs]) (Nat.le_of_ble_eq_true hle) rfl g
theorem CallS.of8 {f : FuncId} {fn : Func} {c : Code} {rs : List ResultVar} {wr : List Nat} {Q : Value → AHeap → Prop} {v0 v1 v2 v3 v4 v5 v6 v7 : Value} (hf : P.funcs[f]? = some fn) (hb : fn.body = some c) (hN : fn.ntmps = N) (hrs : fn.results = ⟨rs⟩) (hle : Nat.ble 8 N = true) (g : Go P (fun i => i ∈ wr ∨ h.n ≤ i) false N [.code c] .normal [(0, v0), (1, v1), (2, v2), (3, v3), (4, v4), (5, v5), (6, v6), (7, v7)] [] h (Fin P rs h.n Q)) : CallS P wr f [v0, v1, v2, v3, v4, v5, v6, v7] h Q := CallS.of hf hb hN (by rw [hrs]) (Nat.le_of_ble_eq_true hle) rfl g
theorem GoR.kk (n : Nat) (hk : Nat.beq (opK o.op) n = true) (g : GoR P W q N ops b₀ (o :: os) k ov df h Q) : GoR P W q N ops b₀ (o :: os) k ov df h Q := g
theorem GoR.gd (hg : o.guard.isSome = true) (g : GoR P W q N ops b₀ (o :: os) k ov df h Q) : GoR P W q N ops b₀ (o :: os) k ov df h Q := g
theorem GoR.boxA {t : TypeId} {x : Operand} {n : Nat} {l : List Value} (ho : o.op = .box t x) (hd : o.dst = some d) (hN : dOk d N = true) (hgd : o.guard = none) [hs : SZ P t n] (hx : evO ov x = some (.agg ⟨l⟩)) (g : GoR P W q N ops b₀ os k ((d, .pointer (some ⟨h.n, 0, none⟩)) :: ov) df (h.push (.cells l t)) Q) : GoR P W q N ops b₀ (o :: os) k ov df h Q := GoR.box ho hd hN hgd hx rfl g
theorem GoR.boxS {t : TypeId} {x : Operand} {n : Nat} {v : Value} (ho : o.op = .box t x) (hd : o.dst = some d) (hN : dOk d N = true) (hgd : o.guard = none) [hs : SZ P t n] (hx : evO ov x = some v) (hc : cellsL v = [v]) (g : GoR P W q N ops b₀ os k ((d, .pointer (some ⟨h.n, 0, none⟩)) :: ov) df (h.push (.cells [v] t)) Q) : GoR P W q N ops b₀ (o :: os) k ov df h Q := GoR.box ho hd hN hgd hx hc g
theorem GoR.loadA {t ct : TypeId} {x : Operand} {b off n : Nat} {c l : List Value} (ho : o.op = .load t x) (hd : o.dst = some d) (hN : dOk d N = true) (hgd : o.guard = none) (hx : evO ov x = some (.pointer (some ⟨b, off, none⟩))) [hc : CT P t (some n)] (hg : h.get b = some (.cells c ct)) (hv : cutL off n c = some l) (g : GoR P W q N ops b₀ os k ((d, .agg l.toArray) :: ov) df h Q) : GoR P W q N ops b₀ (o :: os) k ov df h Q := GoR.loadN ho hd hN hgd hx hg (cutL_eq hv).2 (cutL_eq hv).1 g
theorem GoL.kk (n : Nat) (hk : Nat.beq (opK o.op) n = true) (g : GoL P W q N ops tr (o :: os) k ov df h Q) : GoL P W q N ops tr (o :: os) k ov df h Q := g
theorem GoL.gd (hg : o.guard.isSome = true) (g : GoL P W q N ops tr (o :: os) k ov df h Q) : GoL P W q N ops tr (o :: os) k ov df h Q := g
theorem GoL.boxA {t : TypeId} {x : Operand} {n : Nat} {l : List Value} (ho : o.op = .box t x) (hd : o.dst = some d) (hN : dOk d N = true) (hgd : o.guard = none) [hs : SZ P t n] (hx : evO ov x = some (.agg ⟨l⟩)) (g : GoL P W q N ops (tr ++ [some ⟨h.n, h.n + 1, [], [], false, false⟩]) os k ((d, .pointer (some ⟨h.n, 0, none⟩)) :: ov) df (h.push (.cells l t)) Q) : GoL P W q N ops tr (o :: os) k ov df h Q := GoL.box ho hd hN hgd hx rfl g
theorem GoL.boxS {t : TypeId} {x : Operand} {n : Nat} {v : Value} (ho : o.op = .box t x) (hd : o.dst = some d) (hN : dOk d N = true) (hgd : o.guard = none) [hs : SZ P t n] (hx : evO ov x = some v) (hc : cellsL v = [v]) (g : GoL P W q N ops (tr ++ [some ⟨h.n, h.n + 1, [], [], false, false⟩]) os k ((d, .pointer (some ⟨h.n, 0, none⟩)) :: ov) df (h.push (.cells [v] t)) Q) : GoL P W q N ops tr (o :: os) k ov df h Q := GoL.box ho hd hN hgd hx hc g
theorem GoL.loadA {t ct : TypeId} {x : Operand} {b off n : Nat} {c l : List Value} (ho : o.op = .load t x) (hd : o.dst = some d) (hN : dOk d N = true) (hgd : o.guard = none) (hx : evO ov x = some (.pointer (some ⟨b, off, none⟩))) [hc : CT P t (some n)] (hg : h.get b = some (.cells c ct)) (hv : cutL off n c = some l) (g : GoL P W q N ops (tr ++ [some ⟨h.n, h.n, [b], [], false, true⟩]) os k ((d, .agg l.toArray) :: ov) df h Q) : GoL P W q N ops tr (o :: os) k ov df h Q := GoL.loadN ho hd hN hgd hx hg (cutL_eq hv).2 (cutL_eq hv).1 g
theorem Go.kk (n : Nat) {c : Code} (hk : Nat.beq (codeK c) n = true) (g : Go P W q N (.code c :: k) .normal ov df h Q) : Go P W q N (.code c :: k) .normal ov df h Q := g
theorem yielded_undef {tm : List Value} (hr : Rp ov tm) {j t : Nat} {oj : Oper} (hj : ops[j]? = some oj) (hd : oj.dst = some t) (hv : ov.find t = some undef) : yielded ops tm.toArray j = none := by
  have h1 := hr t _ hv
  rw [List.getD_eq_getElem?_getD] at h1
  cases hx : tm[t]? with
  | none => simp [yielded, hj, hd, hx]
  | some u =>
    rw [hx] at h1
    simp at h1
    subst h1
    simp [yielded, hj, hd, hx, undef]
theorem GoR.unwantedU {j t : Nat} {w : Bool} {oj : Oper} (hg : o.guard = some (j, w)) (hj : ops[j]? = some oj) (hdj : oj.dst = some t) (hv : ov.find t = some undef) (hd : o.dst = some d) (hN : dOk d N = true) (g : GoR P W q N ops b₀ os k ((d, undef) :: ov) df h Q) : GoR P W q N ops b₀ (o :: os) k ov df h Q := fun tm hN' hrp => by
  refine ⟨⟨undef, h, [], [], false, true⟩, .inr ⟨by simp [Region.wanted, hg, yielded_undef hrp hj hdj hv], rfl⟩, ?_⟩
  rw [hd]
  refine (g _ (by rw [putT_len]; exact hN') (hrp.put hN' hN _)).mono fun tm' h' l ⟨f, g'⟩ => ⟨?_, g'⟩
  cases b₀ with
  | true => trivial
  | false => intro e he
             rcases List.mem_cons.1 he with rfl | he
             · rfl
             · exact f e he
theorem GoL.unwantedU {j t : Nat} {w : Bool} {oj : Oper} (hg : o.guard = some (j, w)) (hj : ops[j]? = some oj) (hdj : oj.dst = some t) (hv : ov.find t = some undef) (hd : o.dst = some d) (hN : dOk d N = true) (g : GoL P W q N ops (tr ++ [none]) os k ((d, undef) :: ov) df h Q) : GoL P W q N ops tr (o :: os) k ov df h Q := fun tm hN' hrp => by
  refine ⟨⟨undef, h, [], [], false, true⟩, .inr ⟨by simp [Region.wanted, hg, yielded_undef hrp hj hdj hv], rfl⟩, ?_⟩
  rw [hd]
  refine (g _ (by rw [putT_len]; exact hN') (hrp.put hN' hN _)).mono fun tm' h' l ⟨⟨tl, f1, f2⟩, g'⟩ => ⟨⟨none :: tl, ⟨⟨rfl, rfl, rfl, rfl, rfl⟩, f1⟩, by simpa using f2⟩, g'⟩
theorem GoR.guard {j t : Nat} {w B : Bool} {oj : Oper} (hg : o.guard = some (j, w)) (hj : ops[j]? = some oj) (hdj : oj.dst = some t) (hv : ov.find t = some (.bool B)) (hd : o.dst = some d) (hN : dOk d N = true) (g1 : B = w → GoR P W q N ops b₀ ({ o with guard := none } :: os) k ov df h Q) (g2 : B = !w → GoR P W q N ops b₀ os k ((d, undef) :: ov) df h Q) : GoR P W q N ops b₀ (o :: os) k ov df h Q := by
  by_cases e : B = w
  · exact GoR.wanted hg hj hdj hv e (g1 e)
  · have e' : B = !w := by cases B <;> cases w <;> simp_all
    exact GoR.unwanted hg hj hdj hv e' hd hN (g2 e')
/-- A truth value picked. -/
theorem GoR.pickB {c x y : Operand} {B p r : Bool} (ho : o.op = .pick c x y) (hd : o.dst = some d) (hN : dOk d N = true) (hgd : o.guard = none) (hc : evO ov c = some (.bool B)) (hx : evO ov x = some (.bool p)) (hy : evO ov y = some (.bool r)) (g : GoR P W q N ops b₀ os k ((d, .bool (if B then p else r)) :: ov) df h Q) : GoR P W q N ops b₀ (o :: os) k ov df h Q := by
  refine GoR.pick ho hd hN hgd hc hx hy ?_
  have e : (if B = true then (Value.bool p) else (Value.bool r)) = .bool (if B then p else r) := by cases B <;> rfl
  rw [e]; exact g
theorem GoR.pickE {c x y : Operand} {B : Bool} {u v : Value} (ho : o.op = .pick c x y) (hd : o.dst = some d) (hN : dOk d N = true) (hgd : o.guard = none) (hc : evO ov c = some (.bool B)) (hB : B = true) (hx : evO ov x = some u) (hy : evO ov y = some v) (g : GoR P W q N ops b₀ os k ((d, u) :: ov) df h Q) : GoR P W q N ops b₀ (o :: os) k ov df h Q := by subst hB; exact GoR.pick ho hd hN hgd hc hx hy g
theorem GoR.pickN {c x y : Operand} {B : Bool} {u v : Value} (ho : o.op = .pick c x y) (hd : o.dst = some d) (hN : dOk d N = true) (hgd : o.guard = none) (hc : evO ov c = some (.bool B)) (hB : B = false) (hx : evO ov x = some u) (hy : evO ov y = some v) (g : GoR P W q N ops b₀ os k ((d, v) :: ov) df h Q) : GoR P W q N ops b₀ (o :: os) k ov df h Q := by subst hB; exact GoR.pick ho hd hN hgd hc hx hy g
theorem GoR.pickT {c x y : Operand} {u v : Value} (ho : o.op = .pick c x y) (hd : o.dst = some d) (hN : dOk d N = true) (hgd : o.guard = none) (hc : evO ov c = some (.bool true)) (hx : evO ov x = some u) (hy : evO ov y = some v) (g : GoR P W q N ops b₀ os k ((d, u) :: ov) df h Q) : GoR P W q N ops b₀ (o :: os) k ov df h Q := GoR.pick ho hd hN hgd hc hx hy g
theorem GoR.pickF {c x y : Operand} {u v : Value} (ho : o.op = .pick c x y) (hd : o.dst = some d) (hN : dOk d N = true) (hgd : o.guard = none) (hc : evO ov c = some (.bool false)) (hx : evO ov x = some u) (hy : evO ov y = some v) (g : GoR P W q N ops b₀ os k ((d, v) :: ov) df h Q) : GoR P W q N ops b₀ (o :: os) k ov df h Q := GoR.pick ho hd hN hgd hc hx hy g
theorem GoL.pickE {c x y : Operand} {B : Bool} {u v : Value} (ho : o.op = .pick c x y) (hd : o.dst = some d) (hN : dOk d N = true) (hgd : o.guard = none) (hc : evO ov c = some (.bool B)) (hB : B = true) (hx : evO ov x = some u) (hy : evO ov y = some v) (g : GoL P W q N ops (tr ++ [none]) os k ((d, u) :: ov) df h Q) : GoL P W q N ops tr (o :: os) k ov df h Q := by subst hB; exact GoL.pick ho hd hN hgd hc hx hy g
theorem GoL.pickN {c x y : Operand} {B : Bool} {u v : Value} (ho : o.op = .pick c x y) (hd : o.dst = some d) (hN : dOk d N = true) (hgd : o.guard = none) (hc : evO ov c = some (.bool B)) (hB : B = false) (hx : evO ov x = some u) (hy : evO ov y = some v) (g : GoL P W q N ops (tr ++ [none]) os k ((d, v) :: ov) df h Q) : GoL P W q N ops tr (o :: os) k ov df h Q := by subst hB; exact GoL.pick ho hd hN hgd hc hx hy g
theorem GoL.pickT {c x y : Operand} {u v : Value} (ho : o.op = .pick c x y) (hd : o.dst = some d) (hN : dOk d N = true) (hgd : o.guard = none) (hc : evO ov c = some (.bool true)) (hx : evO ov x = some u) (hy : evO ov y = some v) (g : GoL P W q N ops (tr ++ [none]) os k ((d, u) :: ov) df h Q) : GoL P W q N ops tr (o :: os) k ov df h Q := GoL.pick ho hd hN hgd hc hx hy g
theorem GoL.pickF {c x y : Operand} {u v : Value} (ho : o.op = .pick c x y) (hd : o.dst = some d) (hN : dOk d N = true) (hgd : o.guard = none) (hc : evO ov c = some (.bool false)) (hx : evO ov x = some u) (hy : evO ov y = some v) (g : GoL P W q N ops (tr ++ [none]) os k ((d, v) :: ov) df h Q) : GoL P W q N ops tr (o :: os) k ov df h Q := GoL.pick ho hd hN hgd hc hx hy g
end
end Go.Proofs.Ytmelgnpogdilgaa
