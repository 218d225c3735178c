/- head: plain. No conditions. -/
import Derived.Test.YtmelgnpogdilgaaCrcS
import Derived.Test.YtmelgnpogdilgaaRefB
namespace Go.Proofs.Ytmelgnpogdilgaa
set_option linter.unusedVariables false
/-- Bytes as a number, the highest first. -/
def beNum (l : List UInt8) : Nat := l.foldl (fun n c => n * 256 + c.toNat) 0
theorem beNum_snoc (l : List UInt8) (c : UInt8) : beNum (l ++ [c]) = beNum l * 256 + c.toNat := by simp [beNum]
theorem beNum_lt (l : List UInt8) : beNum l < 256 ^ l.length := by
  have h : ∀ (r : List UInt8), beNum r.reverse < 256 ^ r.length := by
    intro r
    induction r with
    | nil => decide
    | cons c r ih =>
      rw [List.reverse_cons, beNum_snoc, List.length_cons, Nat.pow_succ]
      have := c.toNat_lt
      omega
  have := h l.reverse
  simpa using this
theorem or_byte (n c : Nat) (hc : c < 256) : n * 2 ^ 8 ||| c = n * 256 + c := or_of_lt (n := 8) hc
theorem beNum_lt_of {l : List UInt8} {k n : Nat} (h : l.length ≤ k) (hn : 256 ^ k = n) : beNum l < n := by
  subst hn
  exact Nat.lt_of_lt_of_le (beNum_lt l) (Nat.pow_le_pow_right (by decide) h)
theorem beB4 (x : Nat) : beB 4 x = [UInt8.ofNat (x / 16777216), UInt8.ofNat (x / 65536), UInt8.ofNat (x / 256), UInt8.ofNat x] := by simp [beB, List.range_succ]
theorem beB4_split (f t : Nat) (ht : t < 65536) : beB 4 (f * 65536 + t) = beB 2 f ++ beB 2 t := by
  rw [beB4, beB2, beB2]
  have e : ∀ a b : Nat, a % 256 = b % 256 → UInt8.ofNat a = UInt8.ofNat b := fun a b h => by
    apply UInt8.toNat_inj.1
    simp only [UInt8.toNat_ofNat']
    exact h
  simp only [List.cons_append, List.nil_append]
  rw [e ((f * 65536 + t) / 16777216) (f / 256) (by omega), e ((f * 65536 + t) / 65536) f (by omega), e ((f * 65536 + t) / 256) (t / 256) (by omega), e (f * 65536 + t) t (by omega)]
/-- The sum that a packet is to have. -/
def headSum (l : List UInt8) : Nat := Crc.sum (l.take 8 ++ [0, 0, 0, 0] ++ l.drop 12)
theorem headSum_eq (l : List UInt8) : Crc.more (Crc.more (Crc.sum (l.take 8)) [0, 0, 0, 0]) (l.drop 12) = headSum l := by
  unfold headSum Crc.sum
  rw [Crc.more_append 0 _ _ (by decide), Crc.more_append 0 _ _ (by decide)]
/-- A packet's bytes with a sum. -/
def hbytes (f t g s : Nat) (v : List UInt8) : List UInt8 := beB 2 f ++ beB 2 t ++ beB 4 g ++ beB 4 s ++ v
theorem hbytes_length (f t g s : Nat) (v : List UInt8) : (hbytes f t g s v).length = 12 + v.length := by simp [hbytes, beB_length]; omega
def hput (f t g : Nat) (v : List UInt8) : List UInt8 := hbytes f t g (Crc.sum (hbytes f t g 0 v)) v
end Go.Proofs.Ytmelgnpogdilgaa
