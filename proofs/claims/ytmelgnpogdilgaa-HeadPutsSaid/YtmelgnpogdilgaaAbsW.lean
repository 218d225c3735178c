/- Integers by their naturals. No conditions. -/
import Derived.Test.YtmelgnpogdilgaaAbsV
namespace Go.Proofs.Ytmelgnpogdilgaa
set_option linter.unusedVariables false
/-- The first natural that a kind does not hold. -/
def topOf : IntKind → Nat
  | .i8 => 128
  | .i16 => 32768
  | .i32 => 2147483648
  | .i64 => 9223372036854775808
  | .u8 => 256
  | .u16 => 65536
  | .u32 => 4294967296
  | .u64 => 18446744073709551616
theorem wrap_in (k : IntKind) {a : Nat} (h : a < topOf k) : k.wrap (a : Int) = (a : Int) := by
  cases k <;> simp only [topOf] at h <;> simp [IntKind.wrap, IntKind.signed, IntKind.bits] <;> omega
def natWrap (k : IntKind) (a : Nat) : Int := match Nat.ble (Nat.succ a) (topOf k) with
  | true => .ofNat a
  | false => k.wrap (.ofNat a)
theorem natWrap_eq (k : IntKind) (a : Nat) : natWrap k a = k.wrap (a : Int) := by
  unfold natWrap
  split
  · rename_i h; exact (wrap_in k (Nat.le_of_ble_eq_true h)).symm
  · rfl
def wrapF (k : IntKind) : Int → Int
  | .ofNat a => natWrap k a
  | .negSucc a => k.wrap (.negSucc a)
theorem wrapF_eq (k : IntKind) (n : Int) : wrapF k n = k.wrap n := by
  cases n with
  | ofNat a => exact natWrap_eq k a
  | negSucc a => rfl
def eqF : Int → Int → Bool
  | .ofNat a, .ofNat b => Nat.beq a b
  | .negSucc a, .negSucc b => Nat.beq a b
  | _, _ => false
theorem eqF_eq (a b : Int) : eqF a b = (a == b) := by
  cases a with
  | ofNat a =>
    cases b with
    | ofNat b =>
      show Nat.beq a b = _
      by_cases h : a = b
      · subst h; simp [Nat.beq_refl]
      · have h1 : Nat.beq a b = false := by
          cases hb : Nat.beq a b with
          | false => rfl
          | true => exact absurd (Nat.eq_of_beq_eq_true hb) h
        have h2 : ((Int.ofNat a) == (Int.ofNat b)) = false := by simp; omega
        rw [h1, h2]
    | negSucc b => show false = _; simp
  | negSucc a =>
    cases b with
    | ofNat b => show false = _; simp
    | negSucc b =>
      show Nat.beq a b = _
      by_cases h : a = b
      · subst h; simp [Nat.beq_refl]
      · have h1 : Nat.beq a b = false := by
          cases hb : Nat.beq a b with
          | false => rfl
          | true => exact absurd (Nat.eq_of_beq_eq_true hb) h
        have h2 : ((Int.negSucc a) == (Int.negSucc b)) = false := by simp; omega
        rw [h1, h2]
def ltF : Int → Int → Bool
  | .ofNat a, .ofNat b => Nat.ble (Nat.succ a) b
  | .ofNat _, .negSucc _ => false
  | .negSucc _, .ofNat _ => true
  | .negSucc a, .negSucc b => Nat.ble (Nat.succ b) a
theorem ble_iff (a b : Nat) : Nat.ble (Nat.succ a) b = decide (a < b) := by
  by_cases h : a < b
  · rw [Nat.ble_eq_true_of_le h, decide_eq_true h]
  · rw [decide_eq_false h]
    cases hb : Nat.ble (Nat.succ a) b with
    | false => rfl
    | true => exact absurd (Nat.le_of_ble_eq_true hb) h
theorem ltF_eq (a b : Int) : ltF a b = decide (a < b) := by
  cases a with
  | ofNat a =>
    cases b with
    | ofNat b =>
      show Nat.ble (Nat.succ a) b = _
      rw [ble_iff]
      exact decide_eq_decide.2 (by simp)
    | negSucc b => show false = _; rw [decide_eq_false]; simp; omega
  | negSucc a =>
    cases b with
    | ofNat b => show true = _; rw [decide_eq_true]; simp; omega
    | negSucc b =>
      show Nat.ble (Nat.succ b) a = _
      rw [ble_iff]
      exact decide_eq_decide.2 (by omega)
def unsignedTop : IntKind → Option Nat
  | .u8 => some 256
  | .u16 => some 65536
  | .u32 => some 4294967296
  | .u64 => some 18446744073709551616
  | _ => none
theorem unsignedTop_eq {k : IntKind} {n : Nat} (h : unsignedTop k = some n) : n = 2 ^ k.bits ∧ k.signed = false := by
  cases k <;> simp [unsignedTop] at h <;> subst h <;> exact ⟨by decide, rfl⟩
/-- Integers of one kind. -/
def fBin (op : BinOp) (k : IntKind) (a b : Int) : Option Value :=
  match op with
  | .add => some (.int k (wrapF k (Int.add a b)))
  | .sub => some (.int k (wrapF k (Int.sub a b)))
  | .mul => some (.int k (wrapF k (Int.mul a b)))
  | .eql => some (.bool (eqF a b))
  | .neq => some (.bool (!(eqF a b)))
  | .lss => some (.bool (ltF a b))
  | .leq => some (.bool (!(ltF b a)))
  | .gtr => some (.bool (ltF b a))
  | .geq => some (.bool (!(ltF a b)))
  | .quo => match a, b with
    | .ofNat x, .ofNat (y + 1) => some (.int k (natWrap k (Nat.div x (Nat.succ y))))
    | _, _ => none
  | .rem => match a, b with
    | .ofNat x, .ofNat (y + 1) => some (.int k (.ofNat (Nat.mod x (Nat.succ y))))
    | _, _ => none
  | .and => match unsignedTop k, a, b with
    | some n, .ofNat x, .ofNat y => match Nat.ble (Nat.succ x) n, Nat.ble (Nat.succ y) n with
      | true, true => some (.int k (.ofNat (Nat.land x y)))
      | _, _ => none
    | _, _, _ => none
  | .or => match unsignedTop k, a, b with
    | some n, .ofNat x, .ofNat y => match Nat.ble (Nat.succ x) n, Nat.ble (Nat.succ y) n with
      | true, true => some (.int k (.ofNat (Nat.lor x y)))
      | _, _ => none
    | _, _, _ => none
  | .xor => match unsignedTop k, a, b with
    | some n, .ofNat x, .ofNat y => match Nat.ble (Nat.succ x) n, Nat.ble (Nat.succ y) n with
      | true, true => some (.int k (.ofNat (Nat.xor x y)))
      | _, _ => none
    | _, _, _ => none
  | _ => none
theorem wrap_u {k : IntKind} {n x : Nat} (h : unsignedTop k = some n) (hx : x < n) : k.wrap (x : Int) = (x : Int) :=
  wrap_in k (by cases k <;> simp [unsignedTop] at h <;> subst h <;> exact hx)
theorem fBin_run {op : BinOp} {k : IntKind} {a b : Int} {v : Value} (he : fBin op k a b = some v) (t : TypeId) (hop : op ≠ .shl ∧ op ≠ .shr := by decide) : binOp op t (.int k a) (.int k b) = pure v := by
  have key : ∀ {n x y : Nat}, unsignedTop k = some n → Nat.ble (Nat.succ x) n = true → Nat.ble (Nat.succ y) n = true → x < 2 ^ k.bits ∧ y < 2 ^ k.bits ∧ n = 2 ^ k.bits := fun h1 h2 h3 => by
    have := unsignedTop_eq h1
    have h2 := Nat.le_of_ble_eq_true h2
    have h3 := Nat.le_of_ble_eq_true h3
    rw [this.1] at h2 h3
    exact ⟨h2, h3, this.1⟩
  cases op with
  | add => simp [fBin, wrapF_eq] at he; subst he; simp [binOp, Op.intArith]
  | sub => simp [fBin, wrapF_eq] at he; subst he; simp [binOp, Op.intArith]; rfl
  | mul => simp [fBin, wrapF_eq] at he; subst he; simp [binOp, Op.intArith]
  | eql => simp [fBin, eqF_eq] at he; subst he; simp [binOp, Op.intCmp]
  | neq => simp [fBin, eqF_eq] at he; subst he; simp [binOp, Op.intCmp, bne]
  | lss => simp [fBin, ltF_eq] at he; subst he; simp [binOp, Op.intCmp]
  | leq => simp [fBin, ltF_eq] at he; subst he; simp only [binOp, Op.intCmp, ne_eq, not_true_eq_false, if_false]; rw [show decide (a ≤ b) = !decide (b < a) by rw [← decide_not]; exact decide_eq_decide.2 (by omega)]
  | gtr => simp [fBin, ltF_eq] at he; subst he; simp [binOp, Op.intCmp]
  | geq => simp [fBin, ltF_eq] at he; subst he; simp only [binOp, Op.intCmp, ne_eq, not_true_eq_false, if_false]; rw [show decide (a ≥ b) = !decide (a < b) by rw [← decide_not]; exact decide_eq_decide.2 (by omega)]
  | quo =>
    unfold fBin at he
    simp only at he
    split at he
    · rename_i x y
      cases he
      have hy : ¬ (Int.ofNat (y + 1) = 0) := by simp; omega
      simp only [binOp, Op.intDiv, ne_eq, not_true_eq_false, if_false, if_neg hy, natWrap_eq]
      rfl
    · cases he
  | rem =>
    unfold fBin at he
    simp only at he
    split at he
    · rename_i x y
      cases he
      have hy : ¬ (Int.ofNat (y + 1) = 0) := by simp; omega
      simp only [binOp, Op.intDiv, ne_eq, not_true_eq_false, if_false, if_neg hy]
      rfl
    · cases he
  | and =>
    unfold fBin at he
    simp only at he
    split at he
    · rename_i n x y hn
      split at he
      · rename_i h1 h2
        cases he
        obtain ⟨hx, hy, hnn⟩ := key hn h1 h2
        have e : ((BitVec.ofInt k.bits (x : Int)) &&& (BitVec.ofInt k.bits (y : Int))).toNat = x &&& y := by
          simp [BitVec.toNat_and, Nat.mod_eq_of_lt hx, Nat.mod_eq_of_lt hy]
        have hl : x &&& y < n := by rw [hnn]; exact Nat.lt_of_le_of_lt Nat.and_le_left hx
        have e0 : binOp .and t (.int k (Int.ofNat x)) (.int k (Int.ofNat y)) = Op.intBits .and k (x : Int) (y : Int) := by simp [binOp]
        rw [e0]
        simp only [Op.intBits, e, wrap_u hn hl]
        rfl
      · cases he
    · cases he
  | or =>
    unfold fBin at he
    simp only at he
    split at he
    · rename_i n x y hn
      split at he
      · rename_i h1 h2
        cases he
        obtain ⟨hx, hy, hnn⟩ := key hn h1 h2
        have e : ((BitVec.ofInt k.bits (x : Int)) ||| (BitVec.ofInt k.bits (y : Int))).toNat = x ||| y := by
          simp [BitVec.toNat_or, Nat.mod_eq_of_lt hx, Nat.mod_eq_of_lt hy]
        have hl : x ||| y < n := by rw [hnn]; exact Nat.or_lt_two_pow hx hy
        have e0 : binOp .or t (.int k (Int.ofNat x)) (.int k (Int.ofNat y)) = Op.intBits .or k (x : Int) (y : Int) := by simp [binOp]
        rw [e0]
        simp only [Op.intBits, e, wrap_u hn hl]
        rfl
      · cases he
    · cases he
  | xor =>
    unfold fBin at he
    simp only at he
    split at he
    · rename_i n x y hn
      split at he
      · rename_i h1 h2
        cases he
        obtain ⟨hx, hy, hnn⟩ := key hn h1 h2
        have e : ((BitVec.ofInt k.bits (x : Int)) ^^^ (BitVec.ofInt k.bits (y : Int))).toNat = x ^^^ y := by
          simp [BitVec.toNat_xor, Nat.mod_eq_of_lt hx, Nat.mod_eq_of_lt hy]
        have hl : x ^^^ y < n := by rw [hnn]; exact Nat.xor_lt_two_pow hx hy
        have e0 : binOp .xor t (.int k (Int.ofNat x)) (.int k (Int.ofNat y)) = Op.intBits .xor k (x : Int) (y : Int) := by simp [binOp]
        rw [e0]
        simp only [Op.intBits, e, wrap_u hn hl]
        rfl
      · cases he
    · cases he
  | _ => cases he
/-- Shifts of naturals. -/
def fShift (op : BinOp) (k : IntKind) (a b : Int) : Option Value :=
  match a, b with
  | .ofNat x, .ofNat y => match Nat.ble y k.bits with
    | true => match op with
      | .shl => some (.int k (natWrap k (Nat.mul x (Nat.pow 2 y))))
      | .shr => some (.int k (.ofNat (Nat.div x (Nat.pow 2 y))))
      | _ => none
    | false => none
  | _, _ => none
theorem fShift_run {op : BinOp} {k k' : IntKind} {a b : Int} {v : Value} (he : fShift op k a b = some v) (t : TypeId) : binOp op t (.int k a) (.int k' b) = pure v := by
  unfold fShift at he
  split at he
  · rename_i x y
    split at he
    · rename_i hy
      have hle := Nat.le_of_ble_eq_true hy
      have h0 : ¬ (Int.ofNat y < 0) := by simp
      have hm : min (Int.ofNat y).toNat k.bits = y := Nat.min_eq_left hle
      split at he
      · cases he
        show Op.shift .shl k (x : Int) k' (Int.ofNat y) = _
        simp only [Op.shift, if_neg h0, hm, natWrap_eq]
        have e : ((x : Int) * 2 ^ y) = ((x * 2 ^ y : Nat) : Int) := by simp
        rw [e]
        rfl
      · cases he
        show Op.shift .shr k (x : Int) k' (Int.ofNat y) = _
        simp only [Op.shift, if_neg h0, hm]
        have e : ((2 : Int) ^ y) = ((2 ^ y : Nat) : Int) := by simp
        rw [e]
        have e2 : (x : Int).fdiv ((2 ^ y : Nat) : Int) = ((x / 2 ^ y : Nat) : Int) := by
          rw [Int.fdiv_eq_ediv_of_nonneg _ (Int.natCast_nonneg _)]
          exact (Int.natCast_ediv x (2 ^ y)).symm
        rw [e2]
        rfl
      · cases he
    · cases he
  · cases he
end Go.Proofs.Ytmelgnpogdilgaa
