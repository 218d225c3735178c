/- The document's sum of bytes in plain Lean: its remainder is linear, parts join, and a burst of at most 32 bits changes it. -/
namespace Go.Proofs.Ytmelgnpogdilgaa.Crc

def P : Nat := 2197175160
def bit (r : Nat) : Nat := if r % 2 = 1 then (r / 2) ^^^ P else r / 2
def it : Nat → Nat → Nat
  | 0, r => r
  | n + 1, r => it n (bit r)
def beh (r c : Nat) : Nat := it 8 (r ^^^ c)
def fold (r : Nat) (l : List UInt8) : Nat := l.foldl (fun r c => beh r c.toNat) r
def more (s : Nat) (l : List UInt8) : Nat := 4294967295 - fold (4294967295 - s) l
def sum (l : List UInt8) : Nat := more 0 l

theorem xor_mod_two (a b : Nat) : (a ^^^ b) % 2 = (a % 2 + b % 2) % 2 := by
  have h := @Nat.xor_mod_two_pow a b 1
  simp only [Nat.pow_one] at h
  rw [h]
  rcases Nat.mod_two_eq_zero_or_one a with ha | ha <;> rcases Nat.mod_two_eq_zero_or_one b with hb | hb <;> simp [ha, hb]

theorem xor_cancel (a b : Nat) : a ^^^ (a ^^^ b) = b := by rw [← Nat.xor_assoc, Nat.xor_self, Nat.zero_xor]
theorem xor_swap (a b c d : Nat) : (a ^^^ b) ^^^ (c ^^^ d) = (a ^^^ c) ^^^ (b ^^^ d) := by
  rw [Nat.xor_assoc, Nat.xor_assoc, ← Nat.xor_assoc b c d, Nat.xor_comm b c, Nat.xor_assoc c b d]

theorem bit_xor (a b : Nat) : bit (a ^^^ b) = bit a ^^^ bit b := by
  unfold bit
  rw [xor_mod_two, Nat.xor_div_two]
  rcases Nat.mod_two_eq_zero_or_one a with ha | ha <;> rcases Nat.mod_two_eq_zero_or_one b with hb | hb <;> simp [ha, hb]
  · rw [Nat.xor_assoc]
  · rw [Nat.xor_assoc, Nat.xor_comm (b / 2) P, ← Nat.xor_assoc]
  · rw [xor_swap, Nat.xor_self, Nat.xor_zero]

theorem it_xor (n a b : Nat) : it n (a ^^^ b) = it n a ^^^ it n b := by
  induction n generalizing a b with
  | zero => rfl
  | succ n ih => simp only [it]; rw [bit_xor, ih]

theorem it_add (m n r : Nat) : it (m + n) r = it n (it m r) := by
  induction m generalizing r with
  | zero => simp [it]
  | succ m ih => rw [Nat.succ_add]; simp only [it]; exact ih _

theorem bit_two (x : Nat) : bit (2 * x) = x := by unfold bit; rw [if_neg (by omega)]; omega
theorem it_pow (n x : Nat) : it n (x * 2 ^ n) = x := by
  induction n generalizing x with
  | zero => simp [it]
  | succ n ih =>
    simp only [it]
    rw [Nat.pow_succ, ← Nat.mul_assoc, Nat.mul_comm _ 2, bit_two, ih]

theorem bit_lt (r : Nat) (h : r < 2 ^ 32) : bit r < 2 ^ 32 := by
  unfold bit
  split
  · exact Nat.xor_lt_two_pow (by omega) (by decide)
  · omega
theorem it_lt (n r : Nat) (h : r < 2 ^ 32) : it n r < 2 ^ 32 := by
  induction n generalizing r with
  | zero => exact h
  | succ n ih => exact ih _ (bit_lt r h)
theorem byte_lt (c : UInt8) : c.toNat < 2 ^ 8 := c.toNat_lt
theorem beh_lt (r c : Nat) (h : r < 2 ^ 32) (hc : c < 2 ^ 8) : beh r c < 2 ^ 32 := it_lt _ _ (Nat.xor_lt_two_pow h (Nat.lt_of_lt_of_le hc (by decide)))
theorem fold_lt (r : Nat) (l : List UInt8) (h : r < 2 ^ 32) : fold r l < 2 ^ 32 := by
  induction l generalizing r with
  | nil => exact h
  | cons c l ih => exact ih _ (beh_lt r _ h (byte_lt c))
theorem more_lt (s : Nat) (l : List UInt8) : more s l < 2 ^ 32 := by unfold more; omega
theorem fold_snoc (r : Nat) (l : List UInt8) (c : UInt8) : fold r (l ++ [c]) = beh (fold r l) c.toNat := by simp [fold]
theorem fold_append (r : Nat) (a b : List UInt8) : fold r (a ++ b) = fold (fold r a) b := by simp [fold]

theorem split8 (r : Nat) : r = (r % 2 ^ 8) ^^^ (r / 2 ^ 8 * 2 ^ 8) := by
  apply Nat.eq_of_testBit_eq
  intro i
  rw [Nat.testBit_xor, Nat.testBit_mod_two_pow, Nat.testBit_mul_two_pow, Nat.testBit_div_two_pow]
  by_cases h : i < 8
  · have h' : ¬ 8 ≤ i := by omega
    simp [h, h']
  · have h' : 8 ≤ i := by omega
    simp [h, h']

/-- What the table does with a byte is what the document does. -/
theorem beh_row (r c : Nat) : it 8 ((r % 2 ^ 8) ^^^ c) ^^^ (r / 2 ^ 8) = beh r c := by
  unfold beh
  have h : r ^^^ c = ((r % 2 ^ 8) ^^^ c) ^^^ (r / 2 ^ 8 * 2 ^ 8) := by
    have h0 := split8 r
    rw [Nat.xor_assoc, Nat.xor_comm c, ← Nat.xor_assoc, ← h0]
  rw [h, it_xor 8 ((r % 2 ^ 8) ^^^ c) (r / 2 ^ 8 * 2 ^ 8), it_pow]

theorem not_eq (x : Nat) (h : x < 2 ^ 32) : 4294967295 ^^^ x = 4294967295 - x := by
  have h1 : 4294967295 = (4294967295 - x) ^^^ x := by
    apply Nat.eq_of_testBit_eq
    intro i
    have hs : 4294967295 - x = 2 ^ 32 - (x + 1) := by omega
    have hm : (4294967295 : Nat) = 2 ^ 32 - (0 + 1) := by decide
    rw [Nat.testBit_xor, hs, Nat.testBit_two_pow_sub_succ h, hm, Nat.testBit_two_pow_sub_succ (by decide)]
    by_cases hi : i < 32
    · simp [hi]
    · have : x.testBit i = false := Nat.testBit_lt_two_pow (Nat.lt_of_lt_of_le h (Nat.pow_le_pow_right (by decide) (by omega)))
      simp [hi, this]
  have h2 : 4294967295 ^^^ x = ((4294967295 - x) ^^^ x) ^^^ x := by rw [← h1]
  rw [h2, Nat.xor_assoc, Nat.xor_self, Nat.xor_zero]

theorem more_append (s : Nat) (a b : List UInt8) (hs : s < 2 ^ 32) : more (more s a) b = more s (a ++ b) := by
  unfold more
  have h := fold_lt (4294967295 - s) a (by omega)
  rw [fold_append]
  have e : 4294967295 - (4294967295 - fold (4294967295 - s) a) = fold (4294967295 - s) a := by omega
  rw [e]
theorem more_nil (s : Nat) (hs : s < 2 ^ 32) : more s [] = s := by unfold more fold; simp; omega

/-- The bytes as one number, the first lowest. -/
def num : List UInt8 → Nat
  | [] => 0
  | c :: l => c.toNat + 256 * num l

theorem num_cons_xor (c : UInt8) (l : List UInt8) : num (c :: l) = c.toNat ^^^ (num l * 2 ^ 8) := by
  have h := split8 (num (c :: l))
  have hc := byte_lt c
  have e1 : num (c :: l) % 2 ^ 8 = c.toNat := by simp only [num]; omega
  have e2 : num (c :: l) / 2 ^ 8 = num l := by simp only [num]; omega
  rw [e1, e2] at h
  exact h

theorem fold_num (r : Nat) (l : List UInt8) : fold r l = it (8 * l.length) (r ^^^ num l) := by
  induction l generalizing r with
  | nil => simp [fold, num, it]
  | cons c l ih =>
    have h : fold r (c :: l) = fold (beh r c.toNat) l := rfl
    rw [h, ih, num_cons_xor, List.length_cons, Nat.mul_add, Nat.mul_one, Nat.add_comm, it_add, ← Nat.xor_assoc, it_xor 8 _ (num l * 2 ^ 8), it_pow]
    rfl

theorem bit_ne (r : Nat) (h : r < 2 ^ 32) (h0 : r ≠ 0) : bit r ≠ 0 := by
  unfold bit
  split
  · intro he
    have : r / 2 = P := by
      have h1 := congrArg (· ^^^ P) he
      simp only [Nat.xor_assoc, Nat.xor_self, Nat.xor_zero, Nat.zero_xor] at h1
      exact h1
    unfold P at this
    omega
  · omega
theorem it_ne (n r : Nat) (h : r < 2 ^ 32) (h0 : r ≠ 0) : it n r ≠ 0 := by
  induction n generalizing r with
  | zero => exact h0
  | succ n ih => exact ih _ (bit_lt r h) (bit_ne r h h0)

theorem fold_burst (r : Nat) (a b : List UInt8) (at_ t : Nat) (hl : a.length = b.length) (ht : t < 2 ^ 32) (h0 : t ≠ 0) (hat : at_ ≤ 8 * b.length)
    (hn : num a = num b ^^^ (t * 2 ^ at_)) : fold r a ≠ fold r b := by
  rw [fold_num, fold_num, hn, hl, ← Nat.xor_assoc, it_xor]
  have h1 : it (8 * b.length) (t * 2 ^ at_) ≠ 0 := by
    have e : 8 * b.length = at_ + (8 * b.length - at_) := by omega
    rw [e, it_add, it_pow]
    exact it_ne _ _ ht h0
  intro he
  apply h1
  have := congrArg (it (8 * b.length) (r ^^^ num b) ^^^ ·) he
  simp only [xor_cancel, Nat.xor_self] at this
  exact this

theorem more_burst (s : Nat) (a b : List UInt8) (at_ t : Nat) (hs : s < 2 ^ 32) (hl : a.length = b.length) (ht : t < 2 ^ 32) (h0 : t ≠ 0) (hat : at_ ≤ 8 * b.length)
    (hn : num a = num b ^^^ (t * 2 ^ at_)) : more s a ≠ more s b := by
  have h := fold_burst (4294967295 - s) a b at_ t hl ht h0 hat hn
  have h1 := fold_lt (4294967295 - s) a (by omega)
  have h2 := fold_lt (4294967295 - s) b (by omega)
  unfold more
  omega

/-- Three rows of as many bytes, turned by one another. -/
def turn3 : List UInt8 → List UInt8 → List UInt8 → List UInt8
  | a :: as, b :: bs, c :: cs => (a ^^^ b ^^^ c) :: turn3 as bs cs
  | _, _, _ => []

theorem fold_turn3 (r s t : Nat) (a b c : List UInt8) (h1 : a.length = b.length) (h2 : b.length = c.length) :
    fold (r ^^^ s ^^^ t) (turn3 a b c) = fold r a ^^^ fold s b ^^^ fold t c := by
  induction a generalizing b c r s t with
  | nil =>
    obtain rfl : b = [] := List.eq_nil_of_length_eq_zero (by simpa using h1.symm)
    obtain rfl : c = [] := List.eq_nil_of_length_eq_zero (by simpa using h2.symm)
    simp [turn3, fold]
  | cons x a ih =>
    match b, c, h1, h2 with
    | y :: b, z :: c, h1, h2 =>
      have e : beh (r ^^^ s ^^^ t) (x ^^^ y ^^^ z).toNat = beh r x.toNat ^^^ beh s y.toNat ^^^ beh t z.toNat := by
        unfold beh
        rw [UInt8.toNat_xor, UInt8.toNat_xor, xor_swap (r ^^^ s) t, xor_swap r s, it_xor, it_xor 8 (r ^^^ x.toNat)]
      have h3 := ih (beh r x.toNat) (beh s y.toNat) (beh t z.toNat) b c (by simpa using h1) (by simpa using h2)
      rw [← e] at h3
      exact h3

theorem sum_turn3 (a b c : List UInt8) (h1 : a.length = b.length) (h2 : b.length = c.length) : sum (turn3 a b c) = sum a ^^^ sum b ^^^ sum c := by
  have h := fold_turn3 4294967295 4294967295 4294967295 a b c h1 h2
  rw [Nat.xor_self, Nat.zero_xor] at h
  have l1 := fold_lt 4294967295 a (by decide)
  have l2 := fold_lt 4294967295 b (by decide)
  have l3 := fold_lt 4294967295 c (by decide)
  have l4 := fold_lt 4294967295 (turn3 a b c) (by decide)
  unfold sum more
  rw [Nat.sub_zero, ← not_eq _ l1, ← not_eq _ l2, ← not_eq _ l3, ← not_eq _ l4, h]
  rw [xor_swap 4294967295, Nat.xor_self, Nat.zero_xor]
  ac_rfl

theorem xor_mul_pow (a b n : Nat) : (a ^^^ b) * 2 ^ n = (a * 2 ^ n) ^^^ (b * 2 ^ n) := by
  have h := @Nat.shiftLeft_xor_distrib n a b
  simpa only [Nat.shiftLeft_eq] using h
theorem num_set (d : UInt8) (l : List UInt8) (q : Nat) (hq : q < l.length) : num (l.set q (l[q] ^^^ d)) = num l ^^^ (d.toNat * 2 ^ (8 * q)) := by
  induction l generalizing q with
  | nil => simp at hq
  | cons c l ih =>
    cases q with
    | zero =>
      simp only [List.set_cons_zero, List.getElem_cons_zero, Nat.mul_zero, Nat.pow_zero, Nat.mul_one]
      rw [num_cons_xor, num_cons_xor, UInt8.toNat_xor]
      ac_rfl
    | succ q =>
      have h := ih q (by simpa using hq)
      simp only [List.set_cons_succ, List.getElem_cons_succ]
      rw [num_cons_xor, num_cons_xor, h, xor_mul_pow, Nat.mul_assoc, ← Nat.pow_add, Nat.mul_add, Nat.mul_one, Nat.xor_assoc]
theorem mod_succ_bit (t k : Nat) : t % 2 ^ (k + 1) = (t % 2 ^ k) ^^^ ((t / 2 ^ k % 2) * 2 ^ k) := by
  apply Nat.eq_of_testBit_eq
  intro i
  have h2 : t / 2 ^ k % 2 = t / 2 ^ k % 2 ^ 1 := by rw [Nat.pow_one]
  rw [Nat.testBit_xor, Nat.testBit_mod_two_pow, Nat.testBit_mod_two_pow, Nat.testBit_mul_two_pow, h2, Nat.testBit_mod_two_pow, Nat.testBit_div_two_pow]
  rcases Nat.lt_trichotomy i k with h | h | h
  · have h1 : i < k + 1 := by omega
    have h3 : ¬ k ≤ i := by omega
    simp [h, h1, h3]
  · subst h
    simp
  · have h1 : ¬ i < k + 1 := by omega
    have h3 : ¬ i < k := by omega
    have h4 : ¬ i - k < 1 := by omega
    simp [h1, h3, h4]
theorem burst_step (z l : List UInt8) (at_ t k q r : Nat) (hq : q = (at_ + k) / 8) (hr : r = (at_ + k) % 8) (hl : q < l.length) (hn : num l = num z ^^^ ((t % 2 ^ k) * 2 ^ at_)) :
    num (l.set q (l[q] ^^^ UInt8.ofNat ((t / 2 ^ k % 2) * 2 ^ r))) = num z ^^^ ((t % 2 ^ (k + 1)) * 2 ^ at_) := by
  have hb : (t / 2 ^ k % 2) * 2 ^ r < 2 ^ 8 := by
    have h1 : t / 2 ^ k % 2 < 2 := Nat.mod_lt _ (by decide)
    have h2 : 2 ^ r ≤ 2 ^ 7 := Nat.pow_le_pow_right (by decide) (by omega)
    have h3 : (t / 2 ^ k % 2) * 2 ^ r ≤ 1 * 2 ^ 7 := Nat.mul_le_mul (by omega) h2
    omega
  rw [num_set, hn, mod_succ_bit t k, xor_mul_pow, Nat.xor_assoc]
  congr 2
  rw [UInt8.toNat_ofNat', Nat.mod_eq_of_lt hb, Nat.mul_assoc, ← Nat.pow_add, Nat.mul_assoc, ← Nat.pow_add]
  congr 2
  omega
theorem turn3_snoc (x y z : UInt8) (a b c : List UInt8) (h1 : a.length = b.length) (h2 : b.length = c.length) : turn3 (a ++ [x]) (b ++ [y]) (c ++ [z]) = turn3 a b c ++ [x ^^^ y ^^^ z] := by
  induction a generalizing b c with
  | nil =>
    obtain rfl : b = [] := List.eq_nil_of_length_eq_zero (by simpa using h1.symm)
    obtain rfl : c = [] := List.eq_nil_of_length_eq_zero (by simpa using h2.symm)
    rfl
  | cons u a ih =>
    match b, c, h1, h2 with
    | v :: b, t :: c, h1, h2 => simp only [List.cons_append, turn3]; rw [ih b c (by simpa using h1) (by simpa using h2)]
end Go.Proofs.Ytmelgnpogdilgaa.Crc
