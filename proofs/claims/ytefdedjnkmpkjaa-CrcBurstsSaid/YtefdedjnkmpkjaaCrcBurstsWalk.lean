/- CrcBursts: the walk: the law returns true and turns nothing that was there. -/
import Derived.Test.YtefdedjnkmpkjaaCrcKnown
import Derived.Test.YtefdedjnkmpkjaaOpen
import Derived.StillTailTactics
namespace Go.Proofs.Ytefdedjnkmpkjaa
set_option linter.unusedVariables false
open Go.RowKit

theorem eiBytes : EI Try.prog 23 5 1 1 := ⟨Try.underlying23, _, _, rfl, rfl, by kernel_rfl, by kernel_rfl, by kernel_rfl, by decide⟩

theorem burst_byte (c : UInt8) (t k r : Nat) (ht : t < 4294967296) (hk : k < 32) (hr : r < 8) :
    bits .xor .u8 (c.toNat : Int) (bits .and .u32 ((t : Int) / 2 ^ k) 1 % 256 * 2 ^ r % 256) = (((c ^^^ UInt8.ofNat ((t / 2 ^ k % 2) * 2 ^ r)).toNat : Nat) : Int) := by
  have e0 : (t : Int) / 2 ^ k = ((t / 2 ^ k : Nat) : Int) := by simp
  have hle : t / 2 ^ k ≤ t := Nat.div_le_self _ _
  rw [e0, and_one _ (by omega)]
  have hb2 : t / 2 ^ k % 2 < 2 := Nat.mod_lt _ (by decide)
  generalize t / 2 ^ k % 2 = b at hb2
  have hb : b * 2 ^ r < 2 ^ 8 := by
    have h2 : 2 ^ r ≤ 2 ^ 7 := Nat.pow_le_pow_right (by decide) (by omega)
    have h3 : b * 2 ^ r ≤ 1 * 2 ^ 7 := Nat.mul_le_mul (by omega) h2
    omega
  have e1 : (b : Int) % 256 * 2 ^ r % 256 = ((b * 2 ^ r : Nat) : Int) := by
    have h1 : (b : Int) % 256 = (b : Int) := by omega
    have h2 : (b : Int) * 2 ^ r = ((b * 2 ^ r : Nat) : Int) := by simp
    rw [h1, h2]
    omega
  have hc := c.toNat_lt
  rw [e1, u8_xor_nat _ _ (by omega) (by omega), UInt8.toNat_xor, UInt8.toNat_ofNat', Nat.mod_eq_of_lt hb]

set_option maxRecDepth 100000 in
set_option maxHeartbeats 400000 in
theorem crcBurstsWalk1 (a0 : Option Addr) (cap0 : Nat) (z0 : List UInt8) (at_ t : Nat) (w : World) (hcap : z0.length ≤ cap0) (hr : Rd w w.heap.size a0 (z0.map bv)) (h5 : z0.length ≤ 20000) (ht : t < 4294967296) (ht0 : t ≠ 0) (hat : at_ + 32 ≤ 8 * z0.length) :
    Calls Try.prog 5 #[.slice a0 z0.length cap0, .int .i64 at_, .int .u32 t] w fun e w' => e = .returned (.bool true) ∧ Below w.heap.size w w' := by
  have HR := Lib.hid hr; clear hr
  have g1 : decide ((20000 : Int) < (z0.length : Int)) = false := by simp; omega
  have g2 : ((t : Int) == 0) = false := beq_eq_false_iff_ne.2 (by omega)
  have g3 : decide ((at_ : Int) < 0) = false := by simp
  have g4 : decide (8 * (z0.length : Int) - 32 < (at_ : Int)) = false := by simp; omega
  go_enter Try.func5, Try.ntmps5
  go_wp2_with fail
  refine (crcKnown _).mono ?_
  rintro e w1 ⟨rfl, hb1⟩
  have hown0 : (w1.alloc (.cells #[] 5)).ownsRow w.heap.size 5 1 (.slice (some ⟨w1.heap.size, 0, none⟩) 0 0) 0 [] := World.ownsRow_made w1 #[] 0 hb1.size (by decide) rfl
  have hb1' : Below w.heap.size w (w1.alloc (.cells #[] 5)) := hb1.alloc hb1.size _
  have happ := run_append_rd (ty := 23) eiBytes hown0 (m := z0.length) (c := cap0) (by simp) (HR.out.below hb1' (Nat.le_refl _)) (bv_one z0) (by simp only [maxLen]; omega) (by omega) hb1'.size
  have HA := Lib.hid happ; clear happ
  go_wp2_with (at_builtin; refine wpList_append rfl _ _ _ rfl HA.out ?_; rintro v2 w2 ⟨hown, hgrow, _⟩)
  simp only [Nat.zero_add, List.nil_append] at hown
  have hb2 : Below w.heap.size w w2 := hb1'.grown hgrow hb1'.size (by simp [Value.ownBlock]; exact hb1.size)
  clear HA hown0 hgrow hb1' hb1
  obtain ⟨g, cap, hv, hg1, hg2⟩ := hown.form (by omega)
  subst hv
  have HO := Lib.hid hown; clear hown
  have HB := Lib.hid hb2; clear hb2
  go_loopw [33] (fun i wr => ∃ (k : Nat) (l : List UInt8), k ≤ 32 ∧ i = .int .i64 k ∧ l.length = z0.length ∧ Crc.num l = Crc.num z0 ^^^ ((t % 2 ^ k) * 2 ^ at_) ∧ wr.ownsRow w.heap.size 5 1 (.slice (some ⟨g, 0, none⟩) z0.length cap) z0.length (l.map bv) ∧ Below w.heap.size w wr) (fun i _ => 32 - (intOf i).toNat)
  case atStart => exact ⟨0, z0, by omega, rfl, rfl, by simp [Nat.mod_one], HO.out, HB.out⟩
  case round =>
    obtain ⟨k, l, hk, rfl, hl, hnum, hown, hb⟩ := hrel
    have HL := Lib.hid hl; clear hl
    have HN := Lib.hid hnum; clear hnum
    have HO2 := Lib.hid hown; clear hown HO HB
    by_cases hlt : k < 32
    · obtain ⟨q, HQ⟩ : ∃ q, Hid (q = (at_ + k) / 8) := ⟨_, rfl⟩
      obtain ⟨r, HRr⟩ : ∃ r, Hid (r = (at_ + k) % 8) := ⟨_, rfl⟩
      have hs1 : IntKind.i64.wrap ((at_ : Int) + k) = (at_ : Int) + k := IntWalk.i64_in _ (by omega)
      have hq4 : IntKind.i64.wrap (((at_ : Int) + k).tdiv 8) = (q : Int) := by
        rw [HQ.out, Int.tdiv_eq_ediv_of_nonneg (by omega), IntWalk.i64_in _ (by omega)]; omega
      have hr4 : ((at_ : Int) + k).tmod 8 = (r : Int) := by
        rw [HRr.out, Int.tmod_eq_emod_of_nonneg (by omega)]; omega
      have hq : q < z0.length := by rw [HQ.out]; omega
      have hr8 : r < 8 := by rw [HRr.out]; omega
      have hq2 : (q : Int) < (z0.length : Int) := by omega
      have hq1 : (0 : Int) ≤ (q : Int) := by omega
      have hqb : q < l.length := by rw [HL.out]; exact hq
      have hc : wr.cell? ⟨g, q, none⟩ = some (.int .u8 (l[q].toNat : Int)) := by
        rw [HO2.out.cellAt _ (by omega)]; simp [hqb, bv]
      have hf : wr.frozen? ⟨g, q, none⟩ = false := HO2.out.frozenAt _
      go_wp2
      go_still_tail 19, (by kernel_rfl)
      show wpList Try.prog _ _ _ _ wr.drew
      go_wp2
      go_roundw
      case rel =>
        obtain ⟨c', hc'⟩ : ∃ c' : UInt8, c' = l[q] ^^^ UInt8.ofNat ((t / 2 ^ k % 2) * 2 ^ r) := ⟨_, rfl⟩
        have hv := burst_byte l[q] t k r ht (by omega) hr8
        rw [← hc'] at hv
        have hst := HO2.out.stored q (bv c')
        have hnn := Crc.burst_step z0 l at_ t k q r HQ.out HRr.out hqb HN.out
        rw [← hc'] at hnn
        refine ⟨k + 1, l.set q c', by omega, by go_num, by simp [HL.out], hnn, ?_, ?_⟩
        · rw [hv, List.map_set]; exact hst.1
        · exact (hb.setCell (p := ⟨g, q, none⟩) hg1 _).drew
      case measure => simp [intOf]; omega
    · obtain rfl : k = 32 := by omega
      have hne : ((Crc.sum l : Nat) : Int) ≠ ((Crc.sum z0 : Nat) : Int) := by
        intro he
        refine Crc.more_burst 0 l z0 at_ t (by decide) HL.out ht ht0 (by omega) ?_ (by exact_mod_cast he)
        rw [HN.out, Nat.mod_eq_of_lt ht]
      have hne' : (((Crc.sum l : Nat) : Int) != ((Crc.sum z0 : Nat) : Int)) = true := by rw [bne_iff_ne]; exact hne
      have HE := Lib.hid hne'; clear hne hne'
      have hrl : Rd wr wr.heap.size (some ⟨g, 0, none⟩) (l.map bv) := Rd.of_own HO2.out
      have HRl := Lib.hid hrl; clear hrl
      go_wp2_with fail
      refine (sum_at _ _ _ l HL.out (by omega) _ HRl.out).mono ?_
      rintro e w3 ⟨rfl, hb3⟩
      have hb3' := hb.trans (hb3.mono hb.size)
      clear hb3
      go_wp2_with fail
      refine (sum_at _ _ _ z0 rfl (by omega) _ ((HR.out.below hb3' (Nat.le_refl _)).more hb3'.size)).mono ?_
      rintro e w4 ⟨rfl, hb4⟩
      have hb4' := hb3'.trans (hb4.mono hb3'.size)
      clear hb4
      have hE := HE.out
      generalize Crc.sum l = s1 at hE
      generalize Crc.sum z0 = s2 at hE
      go_wp2_with fail
      go_ret
      exact ⟨rfl, hb4'⟩

set_option maxRecDepth 100000 in
set_option maxHeartbeats 400000 in
theorem crcBurstsWalk (a0 : Option Addr) (len0 cap0 : Nat) (z0 : List UInt8) (a1 a2 : Int) (w : World) (w0 : IsBytes w a0 len0 cap0 z0) (w1 : (Lit.int .i64 a1).wf = true) (w2 : (Lit.int .u32 a2).wf = true) :
    Calls Try.prog 5 #[.slice a0 len0 cap0, .int .i64 a1, .int .u32 a2] w fun e w' => e = .returned (.bool true) ∧ Below w.heap.size w w' := by
  obtain ⟨rfl, hlc, hcm, _, hr⟩ := w0
  have hb2 : 0 ≤ a2 ∧ a2 < 4294967296 := by
    have : 0 ≤ a2 ∧ a2 ≤ 4294967295 := by simpa [Lit.wf, IntKind.min, IntKind.max, IntKind.signed, IntKind.bits] using w2
    omega
  clear w1 w2
  by_cases h : z0.length ≤ 20000 ∧ a2 ≠ 0 ∧ 0 ≤ a1 ∧ a1 ≤ 8 * (z0.length : Int) - 32
  · obtain ⟨h1, h2, h3, h4⟩ := h
    obtain ⟨at_, rfl⟩ := Int.eq_ofNat_of_zero_le h3
    obtain ⟨t, rfl⟩ := Int.eq_ofNat_of_zero_le hb2.1
    exact crcBurstsWalk1 a0 cap0 z0 at_ t w hlc hr h1 (by omega) (by omega) (by omega)
  · clear hr
    have hcase : ((20000 : Int) < z0.length) ∨ ((z0.length : Int) ≤ 20000 ∧ a2 = 0) ∨ ((z0.length : Int) ≤ 20000 ∧ 1 ≤ a2 ∧ a1 < 0) ∨ ((z0.length : Int) ≤ 20000 ∧ 1 ≤ a2 ∧ 0 ≤ a1 ∧ 8 * (z0.length : Int) - 32 < a1) := by omega
    clear h hcm
    rcases hcase with h1 | ⟨h1, rfl⟩ | ⟨h1, h2, h3⟩ | ⟨h1, h2, h3, h4⟩
    · have g1 : decide ((20000 : Int) < (z0.length : Int)) = true := by simp; omega
      go_enter Try.func5, Try.ntmps5
      go_wp2_with fail
      refine (crcKnown _).mono ?_
      rintro e w1 ⟨rfl, hb1⟩
      go_wp2_with fail
      go_ret
      exact ⟨rfl, hb1⟩
    · have g1 : decide ((20000 : Int) < (z0.length : Int)) = false := by simp; omega
      go_enter Try.func5, Try.ntmps5
      go_wp2_with fail
      refine (crcKnown _).mono ?_
      rintro e w1 ⟨rfl, hb1⟩
      go_wp2_with fail
      go_ret
      exact ⟨rfl, hb1⟩
    · have g1 : decide ((20000 : Int) < (z0.length : Int)) = false := by simp; omega
      have g2 : (a2 == 0) = false := beq_eq_false_iff_ne.2 (by omega)
      have g3 : decide (a1 < 0) = true := by simp; omega
      go_enter Try.func5, Try.ntmps5
      go_wp2_with fail
      refine (crcKnown _).mono ?_
      rintro e w1 ⟨rfl, hb1⟩
      go_wp2_with fail
      go_ret
      exact ⟨rfl, hb1⟩
    · have g1 : decide ((20000 : Int) < (z0.length : Int)) = false := by simp; omega
      have g2 : (a2 == 0) = false := beq_eq_false_iff_ne.2 (by omega)
      have g3 : decide (a1 < 0) = false := by simp; omega
      have g4 : decide (8 * (z0.length : Int) - 32 < a1) = true := by simp; omega
      go_enter Try.func5, Try.ntmps5
      go_wp2_with fail
      refine (crcKnown _).mono ?_
      rintro e w1 ⟨rfl, hb1⟩
      go_wp2_with fail
      go_ret
      exact ⟨rfl, hb1⟩
end Go.Proofs.Ytefdedjnkmpkjaa
