/- Numbers: bits of small whole numbers. No conditions. -/
import Derived.Test.YtmelgnpogdilgaaSymG
namespace Go.Proofs.Ytmelgnpogdilgaa
set_option linter.unusedVariables false
theorem ofInt_toNat {w x : Nat} (h : x < 2 ^ w) : (BitVec.ofInt w (x : Int)).toNat = x := by
  rw [BitVec.ofInt_natCast, BitVec.toNat_ofNat, Nat.mod_eq_of_lt h]
/-- Numbers that are small for their kind. -/
def Sm (k : IntKind) (x : Nat) : Prop := x < 2 ^ (k.bits - if k.signed then 1 else 0)
theorem Sm.lt {k : IntKind} {x : Nat} (h : Sm k x) : x < 2 ^ k.bits := by
  unfold Sm at h
  exact Nat.lt_of_lt_of_le h (Nat.pow_le_pow_right (by omega) (by omega))
theorem Sm.wrap {k : IntKind} {x : Nat} (h : Sm k x) : k.wrap (x : Int) = x := by
  unfold Sm at h
  cases hs : k.signed with
  | false =>
    rw [hs] at h
    exact wrap_us k hs (by omega) (by simpa using Int.ofNat_lt.2 h)
  | true =>
    rw [hs] at h
    have hb : k.bits = (k.bits - 1) + 1 := by cases k <;> rfl
    have e : (2 : Int) ^ k.bits = 2 * 2 ^ (k.bits - 1) := by rw [hb, Int.pow_succ]; simp; omega
    have h' : (x : Int) < 2 ^ (k.bits - 1) := by simpa using Int.ofNat_lt.2 h
    simp only [IntKind.wrap, hs, Bool.true_and, decide_eq_true_eq]
    rw [Int.emod_eq_of_lt (by omega) (by omega), if_neg (by omega)]
theorem iOr_nat {k : IntKind} {x y : Nat} (hx : Sm k x) (hy : Sm k y) : iBin .or k x y = some (.int k ((x ||| y : Nat) : Int)) := by
  have hz : Sm k (x ||| y) := Nat.or_lt_two_pow hx hy
  simp only [iBin, BitVec.toNat_or, ofInt_toNat hx.lt, ofInt_toNat hy.lt, hz.wrap]
theorem iAnd_nat {k : IntKind} {x y : Nat} (hx : Sm k x) (hy : Sm k y) : iBin .and k x y = some (.int k ((x &&& y : Nat) : Int)) := by
  have hz : Sm k (x &&& y) := Nat.lt_of_le_of_lt Nat.and_le_left hx
  simp only [iBin, BitVec.toNat_and, ofInt_toNat hx.lt, ofInt_toNat hy.lt, hz.wrap]
theorem iXor_nat {k : IntKind} {x y : Nat} (hx : Sm k x) (hy : Sm k y) : iBin .xor k x y = some (.int k ((x ^^^ y : Nat) : Int)) := by
  have hz : Sm k (x ^^^ y) := Nat.xor_lt_two_pow hx hy
  simp only [iBin, BitVec.toNat_xor, ofInt_toNat hx.lt, ofInt_toNat hy.lt, hz.wrap]
/-- Two rows of bits that do not meet. -/
theorem or_of_lt {a b n : Nat} (hb : b < 2 ^ n) : a * 2 ^ n ||| b = a * 2 ^ n + b := by
  rw [← Nat.shiftLeft_eq, ← Nat.shiftLeft_add_eq_or_of_lt hb]
theorem iAndNot3 {x : Nat} (hx : x < 9223372036854775808) : iBin .andNot .i64 x 3 = some (.int .i64 ((x / 4 * 4 : Nat) : Int)) := by
  have hs : Sm .i64 (x / 4 * 4) := by show _ < 2 ^ 63; have : (2:Nat)^63 = 9223372036854775808 := rfl; omega
  have e : (BitVec.ofInt 64 (x : Int) &&& ~~~ BitVec.ofInt 64 3) = BitVec.ofNat 64 (x / 4 * 4) := by
    apply BitVec.eq_of_getLsbD_eq
    intro i hi
    have e4 : x / 4 * 4 = (x >>> 2) <<< 2 := by simp [Nat.shiftRight_eq_div_pow, Nat.shiftLeft_eq]
    rw [e4, BitVec.ofInt_natCast]
    have h3 : BitVec.ofInt 64 3 = BitVec.ofNat 64 3 := rfl
    rw [h3]
    simp only [BitVec.getLsbD_and, BitVec.getLsbD_not, BitVec.getLsbD_ofNat, Nat.testBit_shiftLeft, Nat.testBit_shiftRight, hi, decide_true, Bool.true_and]
    rcases Nat.lt_or_ge i 2 with h | h
    · have : i = 0 ∨ i = 1 := by omega
      have t0 : Nat.testBit 3 0 = true := by decide
      have t1 : Nat.testBit 3 1 = true := by decide
      rcases this with rfl | rfl <;> simp [t0, t1]
    · have h3' : Nat.testBit 3 i = false := Nat.testBit_lt_two_pow (Nat.lt_of_lt_of_le (by decide : 3 < 2 ^ 2) (Nat.pow_le_pow_right (by omega) h))
      rw [h3']
      simp [h]
  show some (Value.int .i64 (IntKind.i64.wrap ((BitVec.ofInt 64 (x : Int) &&& ~~~ BitVec.ofInt 64 3).toNat : Int))) = _
  rw [e, BitVec.toNat_ofNat, Nat.mod_eq_of_lt (by have : (2:Nat)^64 = 18446744073709551616 := rfl; omega), hs.wrap]
/-- Shifts. -/
theorem iShl_nat {k : IntKind} {x n : Nat} (hn : n ≤ k.bits) (hx : Sm k (x * 2 ^ n)) : iSh .shl k x n = some (.int k ((x * 2 ^ n : Nat) : Int)) := by
  have h0 : ¬ ((n : Int) < 0) := by omega
  have e : (x : Int) * 2 ^ n = ((x * 2 ^ n : Nat) : Int) := by simp
  simp only [iSh, if_neg h0, Int.toNat_natCast, Nat.min_eq_left hn, e, hx.wrap]
theorem iShr_nat {k : IntKind} {x n : Nat} (hn : n ≤ k.bits) : iSh .shr k x n = some (.int k ((x / 2 ^ n : Nat) : Int)) := by
  have h0 : ¬ ((n : Int) < 0) := by omega
  have e : (2 : Int) ^ n = ((2 ^ n : Nat) : Int) := by simp
  simp only [iSh, if_neg h0, Int.toNat_natCast, Nat.min_eq_left hn, e]
  rw [Int.fdiv_eq_ediv_of_nonneg _ (Int.natCast_nonneg _)]
  rfl
theorem wrap_u8 (x : Nat) : IntKind.u8.wrap (x : Int) = ((x % 256 : Nat) : Int) := by
  simp only [IntKind.wrap, IntKind.signed, IntKind.bits, Bool.false_and, Bool.false_eq_true, if_false]
  rfl
theorem wrap_u16 (x : Nat) : IntKind.u16.wrap (x : Int) = ((x % 65536 : Nat) : Int) := by
  simp only [IntKind.wrap, IntKind.signed, IntKind.bits, Bool.false_and, Bool.false_eq_true, if_false]
  rfl
theorem wrap_u32 (x : Nat) : IntKind.u32.wrap (x : Int) = ((x % 4294967296 : Nat) : Int) := by
  simp only [IntKind.wrap, IntKind.signed, IntKind.bits, Bool.false_and, Bool.false_eq_true, if_false]
  rfl
section
variable {P : Program} {W : Nat → Prop} {q : Bool} {N : Nat} {k : List It} {ov : Ov} {df : List Nat} {h : AHeap} {Q : PQ} {id : Nat} {ops : Array Oper} {os : List Oper} {o : Oper} {d : Nat} {b₀ : Bool} {tr : List (Option LE)}
theorem GoR.addN {t t₂ : TypeId} {x y : Operand} {i j : Nat} (ho : o.op = .binOp .add t x y t₂) (hd : o.dst = some d) (hN : dOk d N = true) (hgd : o.guard = none) (hx : evO ov x = some (.int .i64 (i : Int))) (hy : evO ov y = some (.int .i64 (j : Int))) (h1 : i + j ≤ 9223372036854775807) (g : GoR P W q N ops b₀ os k ((d, .int .i64 ((i + j : Nat) : Int)) :: ov) df h Q) : GoR P W q N ops b₀ (o :: os) k ov df h Q := GoR.add ho hd hN hgd hx hy (by omega) (by omega) (by have e : ((i + j : Nat) : Int) = (i : Int) + (j : Int) := (by omega); rw [← e]; exact g)
theorem GoR.subN {t t₂ : TypeId} {x y : Operand} {i j : Nat} (ho : o.op = .binOp .sub t x y t₂) (hd : o.dst = some d) (hN : dOk d N = true) (hgd : o.guard = none) (hx : evO ov x = some (.int .i64 (i : Int))) (hy : evO ov y = some (.int .i64 (j : Int))) (h1 : j ≤ i) (h2 : i ≤ 9223372036854775807) (g : GoR P W q N ops b₀ os k ((d, .int .i64 ((i - j : Nat) : Int)) :: ov) df h Q) : GoR P W q N ops b₀ (o :: os) k ov df h Q := GoR.sub ho hd hN hgd hx hy (by omega) (by omega) (by have e : ((i - j : Nat) : Int) = (i : Int) - (j : Int) := (by omega); rw [← e]; exact g)
theorem GoR.addM {t t₂ : TypeId} {x y : Operand} {kd : IntKind} {i j : Nat} (ho : o.op = .binOp .add t x y t₂) (hd : o.dst = some d) (hN : dOk d N = true) (hgd : o.guard = none) (hx : evO ov x = some (.int kd (i : Int))) (hy : evO ov y = some (.int kd (j : Int))) (h1 : i + j < 2 ^ (kd.bits - if kd.signed then 1 else 0)) (g : GoR P W q N ops b₀ os k ((d, .int kd ((i + j : Nat) : Int)) :: ov) df h Q) : GoR P W q N ops b₀ (o :: os) k ov df h Q := GoR.binE _ ho hd hN hgd hx hy (show iBin .add kd (i : Int) (j : Int) = _ from by have e : ((i + j : Nat) : Int) = (i : Int) + (j : Int) := (rfl); simp only [iBin]; rw [← e, Sm.wrap (k := kd) (x := i + j) h1]) g
theorem GoR.subM {t t₂ : TypeId} {x y : Operand} {kd : IntKind} {i j : Nat} (ho : o.op = .binOp .sub t x y t₂) (hd : o.dst = some d) (hN : dOk d N = true) (hgd : o.guard = none) (hx : evO ov x = some (.int kd (i : Int))) (hy : evO ov y = some (.int kd (j : Int))) (h0 : j ≤ i) (h1 : i < 2 ^ (kd.bits - if kd.signed then 1 else 0)) (g : GoR P W q N ops b₀ os k ((d, .int kd ((i - j : Nat) : Int)) :: ov) df h Q) : GoR P W q N ops b₀ (o :: os) k ov df h Q := GoR.binE _ ho hd hN hgd hx hy (show iBin .sub kd (i : Int) (j : Int) = _ from by have e : ((i - j : Nat) : Int) = (i : Int) - (j : Int) := (by omega); simp only [iBin]; rw [← e, Sm.wrap (k := kd) (x := i - j) (Nat.lt_of_le_of_lt (Nat.sub_le i j) h1)]) g
theorem GoR.mulM {t t₂ : TypeId} {x y : Operand} {kd : IntKind} {i j : Nat} (ho : o.op = .binOp .mul t x y t₂) (hd : o.dst = some d) (hN : dOk d N = true) (hgd : o.guard = none) (hx : evO ov x = some (.int kd (i : Int))) (hy : evO ov y = some (.int kd (j : Int))) (h1 : i * j < 2 ^ (kd.bits - if kd.signed then 1 else 0)) (g : GoR P W q N ops b₀ os k ((d, .int kd ((i * j : Nat) : Int)) :: ov) df h Q) : GoR P W q N ops b₀ (o :: os) k ov df h Q := GoR.binE _ ho hd hN hgd hx hy (show iBin .mul kd (i : Int) (j : Int) = _ from by have e : ((i * j : Nat) : Int) = (i : Int) * (j : Int) := (rfl); simp only [iBin]; rw [← e, Sm.wrap (k := kd) (x := i * j) h1]) g
theorem GoL.addM {t t₂ : TypeId} {x y : Operand} {kd : IntKind} {i j : Nat} (ho : o.op = .binOp .add t x y t₂) (hd : o.dst = some d) (hN : dOk d N = true) (hgd : o.guard = none) (hx : evO ov x = some (.int kd (i : Int))) (hy : evO ov y = some (.int kd (j : Int))) (h1 : i + j < 2 ^ (kd.bits - if kd.signed then 1 else 0)) (g : GoL P W q N ops (tr ++ [none]) os k ((d, .int kd ((i + j : Nat) : Int)) :: ov) df h Q) : GoL P W q N ops tr (o :: os) k ov df h Q := GoL.binE _ ho hd hN hgd hx hy (show iBin .add kd (i : Int) (j : Int) = _ from by have e : ((i + j : Nat) : Int) = (i : Int) + (j : Int) := (rfl); simp only [iBin]; rw [← e, Sm.wrap (k := kd) (x := i + j) h1]) g
theorem GoL.subM {t t₂ : TypeId} {x y : Operand} {kd : IntKind} {i j : Nat} (ho : o.op = .binOp .sub t x y t₂) (hd : o.dst = some d) (hN : dOk d N = true) (hgd : o.guard = none) (hx : evO ov x = some (.int kd (i : Int))) (hy : evO ov y = some (.int kd (j : Int))) (h0 : j ≤ i) (h1 : i < 2 ^ (kd.bits - if kd.signed then 1 else 0)) (g : GoL P W q N ops (tr ++ [none]) os k ((d, .int kd ((i - j : Nat) : Int)) :: ov) df h Q) : GoL P W q N ops tr (o :: os) k ov df h Q := GoL.binE _ ho hd hN hgd hx hy (show iBin .sub kd (i : Int) (j : Int) = _ from by have e : ((i - j : Nat) : Int) = (i : Int) - (j : Int) := (by omega); simp only [iBin]; rw [← e, Sm.wrap (k := kd) (x := i - j) (Nat.lt_of_le_of_lt (Nat.sub_le i j) h1)]) g
theorem GoL.mulM {t t₂ : TypeId} {x y : Operand} {kd : IntKind} {i j : Nat} (ho : o.op = .binOp .mul t x y t₂) (hd : o.dst = some d) (hN : dOk d N = true) (hgd : o.guard = none) (hx : evO ov x = some (.int kd (i : Int))) (hy : evO ov y = some (.int kd (j : Int))) (h1 : i * j < 2 ^ (kd.bits - if kd.signed then 1 else 0)) (g : GoL P W q N ops (tr ++ [none]) os k ((d, .int kd ((i * j : Nat) : Int)) :: ov) df h Q) : GoL P W q N ops tr (o :: os) k ov df h Q := GoL.binE _ ho hd hN hgd hx hy (show iBin .mul kd (i : Int) (j : Int) = _ from by have e : ((i * j : Nat) : Int) = (i : Int) * (j : Int) := (rfl); simp only [iBin]; rw [← e, Sm.wrap (k := kd) (x := i * j) h1]) g
theorem GoR.shrN {t t₂ : TypeId} {x y : Operand} {kd kd' : IntKind} {i j : Nat} (ho : o.op = .binOp .shr t x y t₂) (hd : o.dst = some d) (hN : dOk d N = true) (hgd : o.guard = none) (hx : evO ov x = some (.int kd (i : Int))) (hy : evO ov y = some (.int kd' (j : Int))) (h1 : Nat.ble j kd.bits = true) (g : GoR P W q N ops b₀ os k ((d, .int kd ((i / 2 ^ j : Nat) : Int)) :: ov) df h Q) : GoR P W q N ops b₀ (o :: os) k ov df h Q := GoR.shiftE _ ho hd hN hgd hx hy (iShr_nat (Nat.le_of_ble_eq_true h1)) g
theorem GoR.shlN {t t₂ : TypeId} {x y : Operand} {kd kd' : IntKind} {i j : Nat} (ho : o.op = .binOp .shl t x y t₂) (hd : o.dst = some d) (hN : dOk d N = true) (hgd : o.guard = none) (hx : evO ov x = some (.int kd (i : Int))) (hy : evO ov y = some (.int kd' (j : Int))) (h1 : Nat.ble j kd.bits = true) (h2 : i * 2 ^ j < 2 ^ (kd.bits - if kd.signed then 1 else 0)) (g : GoR P W q N ops b₀ os k ((d, .int kd ((i * 2 ^ j : Nat) : Int)) :: ov) df h Q) : GoR P W q N ops b₀ (o :: os) k ov df h Q := GoR.shiftE _ ho hd hN hgd hx hy (iShl_nat (Nat.le_of_ble_eq_true h1) h2) g
theorem GoR.orN {t t₂ : TypeId} {x y : Operand} {kd : IntKind} {i j : Nat} (ho : o.op = .binOp .or t x y t₂) (hd : o.dst = some d) (hN : dOk d N = true) (hgd : o.guard = none) (hx : evO ov x = some (.int kd (i : Int))) (hy : evO ov y = some (.int kd (j : Int))) (h1 : i < 2 ^ (kd.bits - if kd.signed then 1 else 0)) (h2 : j < 2 ^ (kd.bits - if kd.signed then 1 else 0)) (g : GoR P W q N ops b₀ os k ((d, .int kd ((i ||| j : Nat) : Int)) :: ov) df h Q) : GoR P W q N ops b₀ (o :: os) k ov df h Q := GoR.binE _ ho hd hN hgd hx hy (iOr_nat h1 h2) g
theorem GoR.andN {t t₂ : TypeId} {x y : Operand} {kd : IntKind} {i j : Nat} (ho : o.op = .binOp .and t x y t₂) (hd : o.dst = some d) (hN : dOk d N = true) (hgd : o.guard = none) (hx : evO ov x = some (.int kd (i : Int))) (hy : evO ov y = some (.int kd (j : Int))) (h1 : i < 2 ^ (kd.bits - if kd.signed then 1 else 0)) (h2 : j < 2 ^ (kd.bits - if kd.signed then 1 else 0)) (g : GoR P W q N ops b₀ os k ((d, .int kd ((i &&& j : Nat) : Int)) :: ov) df h Q) : GoR P W q N ops b₀ (o :: os) k ov df h Q := GoR.binE _ ho hd hN hgd hx hy (iAnd_nat h1 h2) g
theorem GoR.xorN {t t₂ : TypeId} {x y : Operand} {kd : IntKind} {i j : Nat} (ho : o.op = .binOp .xor t x y t₂) (hd : o.dst = some d) (hN : dOk d N = true) (hgd : o.guard = none) (hx : evO ov x = some (.int kd (i : Int))) (hy : evO ov y = some (.int kd (j : Int))) (h1 : i < 2 ^ (kd.bits - if kd.signed then 1 else 0)) (h2 : j < 2 ^ (kd.bits - if kd.signed then 1 else 0)) (g : GoR P W q N ops b₀ os k ((d, .int kd ((i ^^^ j : Nat) : Int)) :: ov) df h Q) : GoR P W q N ops b₀ (o :: os) k ov df h Q := GoR.binE _ ho hd hN hgd hx hy (iXor_nat h1 h2) g
theorem GoR.conv_u8 {t t₂ : TypeId} {x : Operand} {kd' : IntKind} {i : Nat} (ho : o.op = .convert t t₂ x) (hd : o.dst = some d) (hN : dOk d N = true) (hgd : o.guard = none) (hx : evO ov x = some (.int kd' (i : Int))) [hc : IC P t t₂ .u8] (g : GoR P W q N ops b₀ os k ((d, .int .u8 ((i % 256 : Nat) : Int)) :: ov) df h Q) : GoR P W q N ops b₀ (o :: os) k ov df h Q := GoR.convE _ ho hd hN hgd hx (wrap_u8 i) g
theorem GoR.conv_u16 {t t₂ : TypeId} {x : Operand} {kd' : IntKind} {i : Nat} (ho : o.op = .convert t t₂ x) (hd : o.dst = some d) (hN : dOk d N = true) (hgd : o.guard = none) (hx : evO ov x = some (.int kd' (i : Int))) [hc : IC P t t₂ .u16] (g : GoR P W q N ops b₀ os k ((d, .int .u16 ((i % 65536 : Nat) : Int)) :: ov) df h Q) : GoR P W q N ops b₀ (o :: os) k ov df h Q := GoR.convE _ ho hd hN hgd hx (wrap_u16 i) g
theorem GoR.conv_u32 {t t₂ : TypeId} {x : Operand} {kd' : IntKind} {i : Nat} (ho : o.op = .convert t t₂ x) (hd : o.dst = some d) (hN : dOk d N = true) (hgd : o.guard = none) (hx : evO ov x = some (.int kd' (i : Int))) [hc : IC P t t₂ .u32] (g : GoR P W q N ops b₀ os k ((d, .int .u32 ((i % 4294967296 : Nat) : Int)) :: ov) df h Q) : GoR P W q N ops b₀ (o :: os) k ov df h Q := GoR.convE _ ho hd hN hgd hx (wrap_u32 i) g
theorem GoR.convW {t t₂ : TypeId} {x : Operand} {kd kd' : IntKind} {i : Nat} (ho : o.op = .convert t t₂ x) (hd : o.dst = some d) (hN : dOk d N = true) (hgd : o.guard = none) (hx : evO ov x = some (.int kd' (i : Int))) [hc : IC P t t₂ kd] (hs : i < 2 ^ (kd.bits - if kd.signed then 1 else 0)) (g : GoR P W q N ops b₀ os k ((d, .int kd (i : Int)) :: ov) df h Q) : GoR P W q N ops b₀ (o :: os) k ov df h Q := GoR.convE _ ho hd hN hgd hx (Sm.wrap (k := kd) hs) g
theorem GoR.indexN {t : TypeId} {x y : Operand} {kk : IntKind} {i : Nat} {a : Option Addr} {len cap : Nat} {cs : List Value} (ho : o.op = .indexAddr t x y) (hd : o.dst = some d) (hN : dOk d N = true) (hgd : o.guard = none) (hx : evO ov x = some (.slice a len cap)) (hy : evO ov y = some (.int kk (i : Int))) [he : EL P t (none, 1)] (hS : Rv P h 1 a len cap cs) (h1 : i < len) (g : GoR P W q N ops b₀ os k ((d, ptA a i) :: ov) df h Q) : GoR P W q N ops b₀ (o :: os) k ov df h Q := GoR.indexV ho hd hN hgd hx hy hS (by omega) (by omega) (by have e : (i : Int).toNat * 1 = i := (by omega); rw [e]; exact g)
theorem GoR.indexNs {t : TypeId} {x y : Operand} {kk : IntKind} {i : Nat} {sz : Nat} {a : Option Addr} {len cap : Nat} {cs : List Value} (ho : o.op = .indexAddr t x y) (hd : o.dst = some d) (hN : dOk d N = true) (hgd : o.guard = none) (hx : evO ov x = some (.slice a len cap)) (hy : evO ov y = some (.int kk (i : Int))) [he : EL P t (none, sz)] (hS : Rv P h sz a len cap cs) (h1 : i < len) (g : GoR P W q N ops b₀ os k ((d, ptA a (i * sz)) :: ov) df h Q) : GoR P W q N ops b₀ (o :: os) k ov df h Q := GoR.indexV ho hd hN hgd hx hy hS (by omega) (by omega) (by have e : (i : Int).toNat = i := (by omega); rw [e]; exact g)
theorem GoR.makeN {t e : TypeId} {bytes : Nat} {z : Value} {x y : Operand} {kd kd' : IntKind} {l c : Nat} (ho : o.op = .makeSlice t x y) (hd : o.dst = some d) (hN : dOk d N = true) (hgd : o.guard = none) (hx : evO ov x = some (.int kd (l : Int))) (hy : evO ov y = some (.int kd' (c : Int))) [hM : MK P t e bytes z] (h1 : l ≤ c) (h2 : c ≤ 1099511627776) (h3 : bytes * c ≤ 281474976710656) (g : GoR P W q N ops b₀ os k ((d, .slice (some ⟨h.n, 0, none⟩) l c) :: ov) df (h.push (.cells (List.replicate c z) e)) Q) : GoR P W q N ops b₀ (o :: os) k ov df h Q := GoR.makeV ho hd hN hgd hx hy (by omega) (by omega) (by omega) (by have : (bytes : Int) * (c : Int) = ((bytes * c : Nat) : Int) := (by simp); omega) g
theorem GoL.addN {t t₂ : TypeId} {x y : Operand} {i j : Nat} (ho : o.op = .binOp .add t x y t₂) (hd : o.dst = some d) (hN : dOk d N = true) (hgd : o.guard = none) (hx : evO ov x = some (.int .i64 (i : Int))) (hy : evO ov y = some (.int .i64 (j : Int))) (h1 : i + j ≤ 9223372036854775807) (g : GoL P W q N ops (tr ++ [none]) os k ((d, .int .i64 ((i + j : Nat) : Int)) :: ov) df h Q) : GoL P W q N ops tr (o :: os) k ov df h Q := GoL.add ho hd hN hgd hx hy (by omega) (by omega) (by have e : ((i + j : Nat) : Int) = (i : Int) + (j : Int) := (by omega); rw [← e]; exact g)
theorem GoL.subN {t t₂ : TypeId} {x y : Operand} {i j : Nat} (ho : o.op = .binOp .sub t x y t₂) (hd : o.dst = some d) (hN : dOk d N = true) (hgd : o.guard = none) (hx : evO ov x = some (.int .i64 (i : Int))) (hy : evO ov y = some (.int .i64 (j : Int))) (h1 : j ≤ i) (h2 : i ≤ 9223372036854775807) (g : GoL P W q N ops (tr ++ [none]) os k ((d, .int .i64 ((i - j : Nat) : Int)) :: ov) df h Q) : GoL P W q N ops tr (o :: os) k ov df h Q := GoL.sub ho hd hN hgd hx hy (by omega) (by omega) (by have e : ((i - j : Nat) : Int) = (i : Int) - (j : Int) := (by omega); rw [← e]; exact g)
theorem GoL.shrN {t t₂ : TypeId} {x y : Operand} {kd kd' : IntKind} {i j : Nat} (ho : o.op = .binOp .shr t x y t₂) (hd : o.dst = some d) (hN : dOk d N = true) (hgd : o.guard = none) (hx : evO ov x = some (.int kd (i : Int))) (hy : evO ov y = some (.int kd' (j : Int))) (h1 : Nat.ble j kd.bits = true) (g : GoL P W q N ops (tr ++ [none]) os k ((d, .int kd ((i / 2 ^ j : Nat) : Int)) :: ov) df h Q) : GoL P W q N ops tr (o :: os) k ov df h Q := GoL.shiftE _ ho hd hN hgd hx hy (iShr_nat (Nat.le_of_ble_eq_true h1)) g
theorem GoL.shlN {t t₂ : TypeId} {x y : Operand} {kd kd' : IntKind} {i j : Nat} (ho : o.op = .binOp .shl t x y t₂) (hd : o.dst = some d) (hN : dOk d N = true) (hgd : o.guard = none) (hx : evO ov x = some (.int kd (i : Int))) (hy : evO ov y = some (.int kd' (j : Int))) (h1 : Nat.ble j kd.bits = true) (h2 : i * 2 ^ j < 2 ^ (kd.bits - if kd.signed then 1 else 0)) (g : GoL P W q N ops (tr ++ [none]) os k ((d, .int kd ((i * 2 ^ j : Nat) : Int)) :: ov) df h Q) : GoL P W q N ops tr (o :: os) k ov df h Q := GoL.shiftE _ ho hd hN hgd hx hy (iShl_nat (Nat.le_of_ble_eq_true h1) h2) g
theorem GoL.orN {t t₂ : TypeId} {x y : Operand} {kd : IntKind} {i j : Nat} (ho : o.op = .binOp .or t x y t₂) (hd : o.dst = some d) (hN : dOk d N = true) (hgd : o.guard = none) (hx : evO ov x = some (.int kd (i : Int))) (hy : evO ov y = some (.int kd (j : Int))) (h1 : i < 2 ^ (kd.bits - if kd.signed then 1 else 0)) (h2 : j < 2 ^ (kd.bits - if kd.signed then 1 else 0)) (g : GoL P W q N ops (tr ++ [none]) os k ((d, .int kd ((i ||| j : Nat) : Int)) :: ov) df h Q) : GoL P W q N ops tr (o :: os) k ov df h Q := GoL.binE _ ho hd hN hgd hx hy (iOr_nat h1 h2) g
theorem GoL.andN {t t₂ : TypeId} {x y : Operand} {kd : IntKind} {i j : Nat} (ho : o.op = .binOp .and t x y t₂) (hd : o.dst = some d) (hN : dOk d N = true) (hgd : o.guard = none) (hx : evO ov x = some (.int kd (i : Int))) (hy : evO ov y = some (.int kd (j : Int))) (h1 : i < 2 ^ (kd.bits - if kd.signed then 1 else 0)) (h2 : j < 2 ^ (kd.bits - if kd.signed then 1 else 0)) (g : GoL P W q N ops (tr ++ [none]) os k ((d, .int kd ((i &&& j : Nat) : Int)) :: ov) df h Q) : GoL P W q N ops tr (o :: os) k ov df h Q := GoL.binE _ ho hd hN hgd hx hy (iAnd_nat h1 h2) g
theorem GoL.xorN {t t₂ : TypeId} {x y : Operand} {kd : IntKind} {i j : Nat} (ho : o.op = .binOp .xor t x y t₂) (hd : o.dst = some d) (hN : dOk d N = true) (hgd : o.guard = none) (hx : evO ov x = some (.int kd (i : Int))) (hy : evO ov y = some (.int kd (j : Int))) (h1 : i < 2 ^ (kd.bits - if kd.signed then 1 else 0)) (h2 : j < 2 ^ (kd.bits - if kd.signed then 1 else 0)) (g : GoL P W q N ops (tr ++ [none]) os k ((d, .int kd ((i ^^^ j : Nat) : Int)) :: ov) df h Q) : GoL P W q N ops tr (o :: os) k ov df h Q := GoL.binE _ ho hd hN hgd hx hy (iXor_nat h1 h2) g
theorem GoL.conv_u8 {t t₂ : TypeId} {x : Operand} {kd' : IntKind} {i : Nat} (ho : o.op = .convert t t₂ x) (hd : o.dst = some d) (hN : dOk d N = true) (hgd : o.guard = none) (hx : evO ov x = some (.int kd' (i : Int))) [hc : IC P t t₂ .u8] (g : GoL P W q N ops (tr ++ [none]) os k ((d, .int .u8 ((i % 256 : Nat) : Int)) :: ov) df h Q) : GoL P W q N ops tr (o :: os) k ov df h Q := GoL.convE _ ho hd hN hgd hx (wrap_u8 i) g
theorem GoL.conv_u16 {t t₂ : TypeId} {x : Operand} {kd' : IntKind} {i : Nat} (ho : o.op = .convert t t₂ x) (hd : o.dst = some d) (hN : dOk d N = true) (hgd : o.guard = none) (hx : evO ov x = some (.int kd' (i : Int))) [hc : IC P t t₂ .u16] (g : GoL P W q N ops (tr ++ [none]) os k ((d, .int .u16 ((i % 65536 : Nat) : Int)) :: ov) df h Q) : GoL P W q N ops tr (o :: os) k ov df h Q := GoL.convE _ ho hd hN hgd hx (wrap_u16 i) g
theorem GoL.conv_u32 {t t₂ : TypeId} {x : Operand} {kd' : IntKind} {i : Nat} (ho : o.op = .convert t t₂ x) (hd : o.dst = some d) (hN : dOk d N = true) (hgd : o.guard = none) (hx : evO ov x = some (.int kd' (i : Int))) [hc : IC P t t₂ .u32] (g : GoL P W q N ops (tr ++ [none]) os k ((d, .int .u32 ((i % 4294967296 : Nat) : Int)) :: ov) df h Q) : GoL P W q N ops tr (o :: os) k ov df h Q := GoL.convE _ ho hd hN hgd hx (wrap_u32 i) g
theorem GoL.convW {t t₂ : TypeId} {x : Operand} {kd kd' : IntKind} {i : Nat} (ho : o.op = .convert t t₂ x) (hd : o.dst = some d) (hN : dOk d N = true) (hgd : o.guard = none) (hx : evO ov x = some (.int kd' (i : Int))) [hc : IC P t t₂ kd] (hs : i < 2 ^ (kd.bits - if kd.signed then 1 else 0)) (g : GoL P W q N ops (tr ++ [none]) os k ((d, .int kd (i : Int)) :: ov) df h Q) : GoL P W q N ops tr (o :: os) k ov df h Q := GoL.convE _ ho hd hN hgd hx (Sm.wrap (k := kd) hs) g
theorem GoL.indexN {t : TypeId} {x y : Operand} {kk : IntKind} {i : Nat} {a : Option Addr} {len cap : Nat} {cs : List Value} (ho : o.op = .indexAddr t x y) (hd : o.dst = some d) (hN : dOk d N = true) (hgd : o.guard = none) (hx : evO ov x = some (.slice a len cap)) (hy : evO ov y = some (.int kk (i : Int))) [he : EL P t (none, 1)] (hS : Rv P h 1 a len cap cs) (h1 : i < len) (g : GoL P W q N ops (tr ++ [none]) os k ((d, ptA a i) :: ov) df h Q) : GoL P W q N ops tr (o :: os) k ov df h Q := GoL.indexV ho hd hN hgd hx hy hS (by omega) (by omega) (by have e : (i : Int).toNat * 1 = i := (by omega); rw [e]; exact g)
theorem GoL.indexNs {t : TypeId} {x y : Operand} {kk : IntKind} {i : Nat} {sz : Nat} {a : Option Addr} {len cap : Nat} {cs : List Value} (ho : o.op = .indexAddr t x y) (hd : o.dst = some d) (hN : dOk d N = true) (hgd : o.guard = none) (hx : evO ov x = some (.slice a len cap)) (hy : evO ov y = some (.int kk (i : Int))) [he : EL P t (none, sz)] (hS : Rv P h sz a len cap cs) (h1 : i < len) (g : GoL P W q N ops (tr ++ [none]) os k ((d, ptA a (i * sz)) :: ov) df h Q) : GoL P W q N ops tr (o :: os) k ov df h Q := GoL.indexV ho hd hN hgd hx hy hS (by omega) (by omega) (by have e : (i : Int).toNat = i := (by omega); rw [e]; exact g)
theorem GoL.makeN {t e : TypeId} {bytes : Nat} {z : Value} {x y : Operand} {kd kd' : IntKind} {l c : Nat} (ho : o.op = .makeSlice t x y) (hd : o.dst = some d) (hN : dOk d N = true) (hgd : o.guard = none) (hx : evO ov x = some (.int kd (l : Int))) (hy : evO ov y = some (.int kd' (c : Int))) [hM : MK P t e bytes z] (h1 : l ≤ c) (h2 : c ≤ 1099511627776) (h3 : bytes * c ≤ 281474976710656) (g : GoL P W q N ops (tr ++ [some ⟨h.n, h.n + 1, [], [], false, false⟩]) os k ((d, .slice (some ⟨h.n, 0, none⟩) l c) :: ov) df (h.push (.cells (List.replicate c z) e)) Q) : GoL P W q N ops tr (o :: os) k ov df h Q := GoL.makeV ho hd hN hgd hx hy (by omega) (by omega) (by omega) (by have : (bytes : Int) * (c : Int) = ((bytes * c : Nat) : Int) := (by simp); omega) g
end
/-! ### What may meet -/
theorem Own.out {n i : Nat} {a : Option Addr} (h : Own n a) (hi : i ∈ blk a) : n ≤ i := h i hi
theorem Keeps.get {wr : List Nat} {h h' : AHeap} (k : Keeps wr h h') {i : Nat} {o : AObj} (e : h.get i = some o) (hn : i ∉ wr) : h'.get i = some o := by rw [k.2 i (AHeap.lt e) hn]; exact e
section
variable {ops : Array Oper} {all es : List (Option LE)} {i j : Nat} {w : List Nat} {e : LE}
theorem loudP.nil : loudP ops all [] i := trivial
theorem loudP.none (k : loudP ops all es (i + 1)) : loudP ops all (none :: es) i := k
theorem loudP.new (hw : ∀ b ∈ e.wr, e.n ≤ b) (k : loudP ops all es (i + 1)) : loudP ops all (some e :: es) i := ⟨.inl hw, k⟩
theorem loudP.row (hr : loudRowP ops e.wr i all 0) (k : loudP ops all es (i + 1)) : loudP ops all (some e :: es) i := ⟨.inr hr, k⟩
theorem loudRowP.nil : loudRowP ops w i [] j := trivial
theorem loudRowP.none (k : loudRowP ops w i es (j + 1)) : loudRowP ops w i (none :: es) j := ⟨trivial, k⟩
theorem loudRowP.bef (h : (i == j || bef ops i j || bef ops j i) = true) (k : loudRowP ops w i es (j + 1)) : loudRowP ops w i (some e :: es) j := ⟨.inl h, k⟩
theorem loudRowP.apart (h1 : e.same = true ∨ ∀ b ∈ e.wr, e.n ≤ b) (h2 : e.all = false) (h3 : ∀ b ∈ w, b ∉ e.rd ∧ b ∉ e.wr ∧ (b < e.n ∨ e.n' ≤ b)) (k : loudRowP ops w i es (j + 1)) : loudRowP ops w i (some e :: es) j := ⟨.inr ⟨h1, h2, h3⟩, k⟩
end
/-! ### What is made or written, by what it reads as -/
theorem Same.own {wr : List Nat} {h₀ h h' : AHeap} (s : Same h₀ h) (k : Keeps wr h h') (ho : ∀ i ∈ wr, h₀.n ≤ i) : Same h₀ h' :=
  ⟨Nat.le_trans s.1 k.1, fun i hi => (k.2 i (Nat.lt_of_lt_of_le hi s.1) fun hw => by have := ho i hw; omega).trans (s.2 i hi)⟩
theorem Own.ok {n n₀ : Nat} {a : Option Addr} {wr : List Nat} (h : Own n a) (hle : n₀ ≤ n) : ∀ i ∈ blk a, i ∈ wr ∨ n₀ ≤ i := fun i hi => .inr (Nat.le_trans hle (h i hi))
section
variable {P : Program} {W : Nat → Prop} {q : Bool} {N : Nat} {k : List It} {ov : Ov} {df : List Nat} {h : AHeap} {Q : PQ} {id : Nat} {ops : Array Oper} {os : List Oper} {o : Oper} {d : Nat} {b₀ : Bool} {tr : List (Option LE)}
theorem GoR.makeO {t e : TypeId} {bytes : Nat} {z : Value} {x y : Operand} {kd kd' : IntKind} {l c : Nat} (ho : o.op = .makeSlice t x y) (hd : o.dst = some d) (hN : dOk d N = true) (hgd : o.guard = none) (hx : evO ov x = some (.int kd (l : Int))) (hy : evO ov y = some (.int kd' (c : Int))) [hM : MK P t e bytes z] (h1 : l = c) (h2 : c ≤ 1099511627776) (h3 : bytes * c ≤ 281474976710656)
    (g : ∀ a h', Sv h' e 1 a c c (List.replicate c z) → Own h.n a → Same h h' → h'.n = h.n + 1 → GoR P W q N ops b₀ os k ((d, .slice a c c) :: ov) df h' Q) : GoR P W q N ops b₀ (o :: os) k ov df h Q := by
  subst h1
  exact GoR.makeN ho hd hN hgd hx hy (Nat.le_refl _) h2 h3 (g _ _ (Sv.new h _ e (by simp)) (Own.mk (Nat.le_refl _)) ((Same.refl h).push _) rfl)
theorem GoR.buildO {t e : TypeId} {len sz : Nat} {z : Value} {ps : Array (Nat × Operand)} {vs : List (Nat × Value)} {c : List Value} (ho : o.op = .buildSlice t len ps) (hd : o.dst = some d) (hN : dOk d N = true) (hgd : o.guard = none) [hs : BS P t e sz z] (hp : evPs ov ps.toList = some vs) (hl : len * sz ≤ 16777216) (hf : fillL (fun i => some (i * sz, sz)) ((List.replicate len (Value.cells z).toList).flatten) vs = some c) (hc : c.length = len * sz)
    (g : ∀ a h', Sv h' e sz a len len c → Own h.n a → Same h h' → h'.n = h.n + 1 → GoR P W q N ops b₀ os k ((d, .slice a len len) :: ov) df h' Q) : GoR P W q N ops b₀ (o :: os) k ov df h Q :=
  GoR.buildSlice ho hd hN hgd hp hl hf (g _ _ (Sv.new h _ e hc) (Own.mk (Nat.le_refl _)) ((Same.refl h).push _) rfl)
theorem GoL.makeO {t e : TypeId} {bytes : Nat} {z : Value} {x y : Operand} {kd kd' : IntKind} {l c : Nat} (ho : o.op = .makeSlice t x y) (hd : o.dst = some d) (hN : dOk d N = true) (hgd : o.guard = none) (hx : evO ov x = some (.int kd (l : Int))) (hy : evO ov y = some (.int kd' (c : Int))) [hM : MK P t e bytes z] (h1 : l = c) (h2 : c ≤ 1099511627776) (h3 : bytes * c ≤ 281474976710656)
    (g : ∀ a h', Sv h' e 1 a c c (List.replicate c z) → Own h.n a → Same h h' → h'.n = h.n + 1 → GoL P W q N ops (tr ++ [some ⟨h.n, h.n + 1, [], [], false, false⟩]) os k ((d, .slice a c c) :: ov) df h' Q) : GoL P W q N ops tr (o :: os) k ov df h Q := by
  subst h1
  exact GoL.makeN ho hd hN hgd hx hy (Nat.le_refl _) h2 h3 (g _ _ (Sv.new h _ e (by simp)) (Own.mk (Nat.le_refl _)) ((Same.refl h).push _) rfl)
theorem GoL.buildO {t e : TypeId} {len sz : Nat} {z : Value} {ps : Array (Nat × Operand)} {vs : List (Nat × Value)} {c : List Value} (ho : o.op = .buildSlice t len ps) (hd : o.dst = some d) (hN : dOk d N = true) (hgd : o.guard = none) [hs : BS P t e sz z] (hp : evPs ov ps.toList = some vs) (hl : len * sz ≤ 16777216) (hf : fillL (fun i => some (i * sz, sz)) ((List.replicate len (Value.cells z).toList).flatten) vs = some c) (hc : c.length = len * sz)
    (g : ∀ a h', Sv h' e sz a len len c → Own h.n a → Same h h' → h'.n = h.n + 1 → GoL P W q N ops (tr ++ [some ⟨h.n, h.n + 1, [], [], false, false⟩]) os k ((d, .slice a len len) :: ov) df h' Q) : GoL P W q N ops tr (o :: os) k ov df h Q :=
  GoL.buildSlice ho hd hN hgd hp hl hf (g _ _ (Sv.new h _ e hc) (Own.mk (Nat.le_refl _)) ((Same.refl h).push _) rfl)
theorem GoL.storeV {t tt : TypeId} {x y : Operand} {kv n sz : Nat} {a : Option Addr} {len cap : Nat} {cs l : List Value} {v : Value} (ho : o.op = .store t x y) (hd : o.dst = none) (hgd : o.guard = none) (hx : evO ov x = some (ptA a kv)) (hy : evO ov y = some v) [hs : SZ P t n] (hl : cellsL v = l) (h1 : l.length = n) (h3 : l.all Value.oneCell' = true) (h4 : 0 < n)
    (hS : Sv h tt sz a len cap cs) (h2 : kv + n ≤ cs.length) (hw : ∀ i ∈ blk a, W i)
    (g : ∀ h', Sv h' tt sz a len cap (setL cs kv l) → Keeps (blk a) h h' → h'.n = h.n → GoL P W q N ops (tr ++ [some ⟨h.n, h'.n, blk a, blk a, false, false⟩]) os k ov df h' Q) : GoL P W q N ops tr (o :: os) k ov df h Q := by
  have hlen := hS.length
  have hp := hS.pos (by omega)
  obtain ⟨b, o', c, rfl, hg, ho', hle, hc⟩ := hS.some hp
  have m : len * sz ≤ cap * sz := Nat.mul_le_mul_right _ hle
  have hx' : evO ov x = some (.pointer (some ⟨b, o' + kv, none⟩)) := hx
  refine GoL.store ho hd hgd hx' hy hg hl h1 (by omega) h3 rfl (hw b (by simp [blk])) (g _ ?_ ⟨Nat.le_refl _, fun i _ hn => AHeap.get_put_ne _ _ fun e => hn (by simp [blk, e])⟩ rfl)
  exact .mk (get_put_self hg) (by rw [setL_length (by omega)]; exact ho') hle (setL_sub hc (by omega) (by omega))
theorem GoL.copyV {x y : Operand} {t t₂ e te : TypeId} {sz : Nat} {a a' : Option Addr} {len cap n cap' : Nat} {cs new : List Value} (ho : o.op = .call ⟨.builtin .copy, #[x, y], #[t, t₂]⟩) (hd : o.dst = some d) (hN : dOk d N = true) (hgd : o.guard = none) (hx : evO ov x = some (.slice a len cap)) (hy : evO ov y = some (.slice a' n cap')) [hu : UN P t (.slice e)] [hs : SZ P e sz]
    (hS : Sv h te sz a len cap cs) (hT : Rv P h sz a' n cap' new) (hw : ∀ i ∈ blk a, W i) (hone : new.all Value.oneCell' = true)
    (g : ∀ h' rd wr, (∀ i ∈ wr, i ∈ blk a) → (∀ i ∈ rd, i ∈ blk a ∨ i ∈ blk a') → Sv h' te sz a len cap (new.take (min n len * sz) ++ cs.drop (min n len * sz)) → Keeps (blk a) h h' → h'.n = h.n → GoL P W q N ops (tr ++ [some ⟨h.n, h'.n, rd, wr, false, false⟩]) os k ((d, .int .i64 (min n len : Nat)) :: ov) df h' Q) : GoL P W q N ops tr (o :: os) k ov df h Q := by
  obtain ⟨h', rd, wr, he, hwr, hrd, h5, h6, h7⟩ := aCopy_of (P := P) (t := t) hu.h hs.h hS hT hone
  exact GoL.copy ho hd hN hgd hx hy he (fun i hi => hw i (hwr i hi)) (g h' rd wr hwr hrd h5 h6 h7)
/-- 'copy' into a part of what is ours. -/
theorem aCopy_sub {t e te : TypeId} (hu : P.underlying t = some (.slice e)) (hs : sizeT P e = some 1) {a a' : Option Addr} {len cap len' cap₂ n cap' kk : Nat} {cs new : List Value} (hS : Sv h te 1 a len cap cs) (hk : kk + len' ≤ len) (hN : Rv P h 1 a' n cap' new) (hone : new.all Value.oneCell' = true) :
    ∃ h' rd wr, aCopy P h t (.slice (subA a kk) len' cap₂) (.slice a' n cap') = some (min n len', h', rd, wr) ∧ (∀ i ∈ wr, i ∈ blk a) ∧ (∀ i ∈ rd, i ∈ blk a ∨ i ∈ blk a') ∧ Sv h' te 1 a len cap (setL cs kk (new.take (min n len'))) ∧ Keeps (blk a) h h' ∧ h'.n = h.n := by
  obtain ⟨rd₁, hsrc, hrd₁⟩ := aSrc_take hN (Nat.min_le_left n len')
  rw [Nat.mul_one] at hsrc
  have hnl := hN.length
  rw [Nat.mul_one] at hnl
  have hm : Nat.min n len' = min n len' := rfl
  have htl : (new.take (min n len')).length = min n len' := by
    have : min n len' ≤ n := Nat.min_le_left _ _
    simp; omega
  have hml : min n len' ≤ len' := Nat.min_le_right _ _
  cases hS with
  | nil =>
    have e0 : len' = 0 := by omega
    subst e0
    have e1 : min n 0 = 0 := Nat.min_zero n
    simp only [aCopy, hu, hs, lenV, hm, hsrc, subA]
    simp only [e1, List.take_zero, List.isEmpty_nil, if_true]
    refine ⟨h, rd₁, [], rfl, (fun i hi => by cases hi), (fun i hi => .inr (hrd₁ i hi)), ?_, ⟨Nat.le_refl _, fun i _ _ => rfl⟩, rfl⟩
    simp only [setL, List.take_nil, List.drop_nil, List.append_nil]
    exact .nil
  | @mk b o _ _ c _ hg ho hle hc =>
    rw [Nat.mul_one] at ho hc
    have hcl : cs.length = len := by subst hc; simp; omega
    simp only [aCopy, hu, hs, lenV, hm, hsrc, subA]
    by_cases he : (new.take (min n len')).isEmpty = true
    · simp only [he, if_true]
      have he' := List.isEmpty_iff.1 he
      refine ⟨_, _, _, rfl, (fun i hi => by cases hi), (fun i hi => .inr (hrd₁ i hi)), ?_, ⟨Nat.le_refl _, fun i _ _ => rfl⟩, rfl⟩
      rw [he']
      have e2 : setL cs kk [] = cs := by simp [setL]
      rw [e2]
      exact .mk hg (by omega) hle (by rw [Nat.mul_one]; exact hc)
    · simp only [he, if_false, hg, Bool.false_eq_true]
      rw [if_pos ⟨by omega, List.all_eq_true.2 fun x hx => List.all_eq_true.1 hone x (List.mem_of_mem_take hx)⟩]
      refine ⟨_, _, _, rfl, (fun i hi => by simpa [blk] using hi), (fun i hi => ?_), ?_, ⟨Nat.le_refl _, fun i _ hn => AHeap.get_put_ne _ _ fun e => hn (by simp [blk, e])⟩, rfl⟩
      · rcases List.mem_cons.1 hi with rfl | hi
        · exact .inl (by simp [blk])
        · exact .inr (hrd₁ i hi)
      · exact .mk (get_put_self hg) (by rw [setL_length (by omega)]; omega) hle (by rw [Nat.mul_one]; exact setL_sub hc (by omega) (by omega))
theorem GoL.copySub {x y : Operand} {t t₂ e te : TypeId} {a a' : Option Addr} {len cap len' cap₂ n cap' kk : Nat} {cs new : List Value} (ho : o.op = .call ⟨.builtin .copy, #[x, y], #[t, t₂]⟩) (hd : o.dst = some d) (hN : dOk d N = true) (hgd : o.guard = none) (hx : evO ov x = some (.slice (subA a kk) len' cap₂)) (hy : evO ov y = some (.slice a' n cap')) [hu : UN P t (.slice e)] [hs : SZ P e 1]
    (hS : Sv h te 1 a len cap cs) (hk : kk + len' ≤ len) (hT : Rv P h 1 a' n cap' new) (hw : ∀ i ∈ blk a, W i) (hone : new.all Value.oneCell' = true)
    (g : ∀ h' rd wr, (∀ i ∈ wr, i ∈ blk a) → (∀ i ∈ rd, i ∈ blk a ∨ i ∈ blk a') → Sv h' te 1 a len cap (setL cs kk (new.take (min n len'))) → Keeps (blk a) h h' → h'.n = h.n → GoL P W q N ops (tr ++ [some ⟨h.n, h'.n, rd, wr, false, false⟩]) os k ((d, .int .i64 (min n len' : Nat)) :: ov) df h' Q) : GoL P W q N ops tr (o :: os) k ov df h Q := by
  obtain ⟨h', rd, wr, he, hwr, hrd, h5, h6, h7⟩ := aCopy_sub (P := P) (t := t) (cap₂ := cap₂) hu.h hs.h hS hk hT hone
  exact GoL.copy ho hd hN hgd hx hy he (fun i hi => hw i (hwr i hi)) (g h' rd wr hwr hrd h5 h6 h7)
theorem cells_one {v : Value} (h : v.oneCell' = true) : cellsL v = [v] := by cases v <;> first | rfl | cases h
theorem setL_one {cs : List Value} {kv : Nat} {v : Value} (h : kv < cs.length) : setL cs kv [v] = cs.set kv v := by
  rw [List.set_eq_take_append_cons_drop, if_pos h]
  simp [setL]
theorem GoL.store1 {t tt : TypeId} {x y : Operand} {kv sz : Nat} {a : Option Addr} {len cap : Nat} {cs : List Value} {v : Value} (ho : o.op = .store t x y) (hd : o.dst = none) (hgd : o.guard = none) (hx : evO ov x = some (ptA a kv)) (hy : evO ov y = some v) [hs : SZ P t 1] (h1 : v.oneCell' = true)
    (hS : Sv h tt sz a len cap cs) (h2 : kv < cs.length) (hw : ∀ i ∈ blk a, W i)
    (g : ∀ h', Sv h' tt sz a len cap (cs.set kv v) → Keeps (blk a) h h' → h'.n = h.n → GoL P W q N ops (tr ++ [some ⟨h.n, h'.n, blk a, blk a, false, false⟩]) os k ov df h' Q) : GoL P W q N ops tr (o :: os) k ov df h Q :=
  GoL.storeV ho hd hgd hx hy (cells_one h1) rfl (by simp [h1]) (Nat.succ_pos 0) hS h2 hw fun h' a1 a2 a3 => g h' (by rw [← setL_one h2]; exact a1) a2 a3
theorem GoR.store1 {t tt : TypeId} {x y : Operand} {kv sz : Nat} {a : Option Addr} {len cap : Nat} {cs : List Value} {v : Value} (ho : o.op = .store t x y) (hd : o.dst = none) (hgd : o.guard = none) (hx : evO ov x = some (ptA a kv)) (hy : evO ov y = some v) [hs : SZ P t 1] (h1 : v.oneCell' = true)
    (hS : Sv h tt sz a len cap cs) (h2 : kv < cs.length) (hw : ∀ i ∈ blk a, W i)
    (g : ∀ h', Sv h' tt sz a len cap (cs.set kv v) → Keeps (blk a) h h' → h'.n = h.n → GoR P W q N ops true os k ov df h' Q) : GoR P W q N ops true (o :: os) k ov df h Q :=
  GoR.storeV ho hd hgd hx hy (cells_one h1) rfl (by simp [h1]) (Nat.succ_pos 0) hS h2 hw fun h' a1 a2 a3 => g h' (by rw [← setL_one h2]; exact a1) a2 a3
end
end Go.Proofs.Ytmelgnpogdilgaa
