/- tlv: what its bytes are, in plain Lean. No conditions. -/
import Derived.Test.YtmelgnpogdilgaaSymK
namespace Go.Proofs.Ytmelgnpogdilgaa
set_option linter.unusedVariables false
theorem Same.ownO {n : Nat} {a : Option Addr} {h₀ h h' : AHeap} (s : Same h₀ h) (k : Keeps (blk a) h h') (o : Own n a) (hn : h₀.n ≤ n) : Same h₀ h' := s.own k fun i hi => Nat.le_trans hn (o i hi)
theorem Own.app {n : Nat} {a a₂ : Option Addr} {h : AHeap} (o : Own n a) (hn : n ≤ h.n) (k : ∀ i ∈ blk a₂, i ∈ blk a ∨ h.n ≤ i) : Own n a₂ := fun i hi => (k i hi).elim (o i) fun h' => Nat.le_trans hn h'
/-- The bytes of a thing. -/
def tlvB (chunk : Bool) (kind flags : Nat) (zs : List UInt8) : List UInt8 :=
  (if chunk then [UInt8.ofNat kind, UInt8.ofNat flags] else [UInt8.ofNat (kind / 256), UInt8.ofNat kind]) ++ [UInt8.ofNat ((4 + zs.length) / 256), UInt8.ofNat (4 + zs.length)] ++ zs ++ List.replicate ((zs.length + 4 + 3) / 4 * 4 - 4 - zs.length) 0
theorem tlvB_length (chunk : Bool) (kind flags : Nat) (zs : List UInt8) : (tlvB chunk kind flags zs).length = (zs.length + 4 + 3) / 4 * 4 := by
  unfold tlvB
  cases chunk <;> simp <;> omega
theorem bv_ofNat (x : Nat) : bv (UInt8.ofNat x) = .int .u8 ((x % 256 : Nat) : Int) := by simp [bv, UInt8.toNat_ofNat']
theorem set4 {L : Nat} (hL : 4 ≤ L) (a b c d z : Value) : ((((List.replicate L z).set 0 a).set 1 b).set 2 c).set 3 d = [a, b, c, d] ++ List.replicate (L - 4) z := by
  obtain ⟨m, rfl⟩ : ∃ m, L = m + 4 := ⟨L - 4, by omega⟩
  simp [List.replicate_succ]
theorem setL_tail (l r new : List Value) {k : Nat} (hl : l.length = k) : setL (l ++ r) k new = l ++ new ++ r.drop new.length := by
  subst hl
  simp [setL, List.drop_append]
theorem put_bytes (a b c d : UInt8) (zs : List UInt8) {L : Nat} (hL : zs.length + 4 ≤ L) : setL ([bv a, bv b, bv c, bv d] ++ List.replicate (L - 4) (Value.int .u8 0)) 4 (zs.map bv) = ([a, b, c, d] ++ zs ++ List.replicate (L - 4 - zs.length) 0).map bv := by
  rw [setL_tail (k := 4) [bv a, bv b, bv c, bv d] _ _ rfl]
  simp [bv]
end Go.Proofs.Ytmelgnpogdilgaa
