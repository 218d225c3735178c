/- CrcTurned: the walk: the law returns true and turns nothing that was there. -/
import Derived.Test.YtefdedjnkmpkjaaCrcKnown
import Derived.Test.YtefdedjnkmpkjaaOpen
import Derived.StillTailTactics
namespace Go.Proofs.Ytefdedjnkmpkjaa
set_option linter.unusedVariables false
open Go.RowKit
theorem infoByte : (Try.prog.info? 5).map (fun i => (i.zero, i.size, i.bytes)) = some (some (.int .u8 0), 1, 1) := by kernel_rfl

theorem xor3_u8 (a b c : UInt8) : bits .xor .u8 (bits .xor .u8 (a.toNat : Int) (b.toNat : Int)) (c.toNat : Int) = (((a ^^^ b ^^^ c).toNat : Nat) : Int) := by
  rw [u8_xor_nat _ _ a.toNat_lt b.toNat_lt, ← UInt8.toNat_xor, u8_xor_nat _ _ (a ^^^ b).toNat_lt c.toNat_lt, ← UInt8.toNat_xor]
theorem xor3_u32 (a b c : Nat) (ha : a < 2 ^ 32) (hb : b < 2 ^ 32) (hc : c < 2 ^ 32) : bits .xor .u32 (bits .xor .u32 (a : Int) (b : Int)) (c : Int) = ((a ^^^ b ^^^ c : Nat) : Int) := by
  rw [u32_xor_nat _ _ (by omega) (by omega), u32_xor_nat _ _ (Nat.xor_lt_two_pow ha hb) (by omega)]
theorem run_min4 {P : Program} (ts : Array TypeId) (t : TypeId) (k : IntKind) (a b c d : Int) (n : Int) (h : n = min (min (min a b) c) d) (w : World) :
    (Builtin.min_ ts t #[.int k a, .int k b, .int k c, .int k d]).run P w = .ok (.int k n) w := by
  have e : ∀ x y : Int, (if y < x then y else x) = min x y := fun x y => by rw [Int.min_def]; split <;> split <;> omega
  simp only [Builtin.min_, List.foldlM, Builtin.min2, e, pure, Sem.run, h, bind, Sem.bind]

set_option maxRecDepth 100000 in
set_option maxHeartbeats 400000 in
theorem crcTurnedWalk (a0 : Option Addr) (len0 cap0 : Nat) (z0 : List UInt8) (a1 : Option Addr) (len1 cap1 : Nat) (z1 : List UInt8) (a2 : Option Addr) (len2 cap2 : Nat) (z2 : List UInt8) (w : World)
    (w0 : IsBytes w a0 len0 cap0 z0) (w1 : IsBytes w a1 len1 cap1 z1) (w2 : IsBytes w a2 len2 cap2 z2) :
    Calls Try.prog 6 #[.slice a0 len0 cap0, .slice a1 len1 cap1, .slice a2 len2 cap2] w fun e w' => e = .returned (.bool true) ∧ Below w.heap.size w w' := by
  obtain ⟨rfl, hlc0, hcm0, _, hr0⟩ := w0
  obtain ⟨rfl, hlc1, hcm1, _, hr1⟩ := w1
  obtain ⟨rfl, hlc2, hcm2, _, hr2⟩ := w2
  have HR0 := Lib.hid hr0; clear hr0
  have HR1 := Lib.hid hr1; clear hr1
  have HR2 := Lib.hid hr2; clear hr2
  have hcm0' : cap0 ≤ 9223372036854775807 := hcm0
  have hcm1' : cap1 ≤ 9223372036854775807 := hcm1
  have hcm2' : cap2 ≤ 9223372036854775807 := hcm2
  clear hcm0 hcm1 hcm2
  obtain ⟨n, HN⟩ : ∃ n, Hid (n = min (min (min z0.length z1.length) z2.length) 20000) := ⟨_, rfl⟩
  have hn0 : n ≤ z0.length := by rw [HN.out]; omega
  have hn1 : n ≤ z1.length := by rw [HN.out]; omega
  have hn2 : n ≤ z2.length := by rw [HN.out]; omega
  have hn3 : n ≤ 20000 := by rw [HN.out]; omega
  have hmin := fun (W : World) => run_min4 (P := Try.prog) #[3, 3, 3, 3] 3 .i64 z0.length z1.length z2.length 20000 (n : Int) (by rw [HN.out]; omega) W
  go_enter Try.func6, Try.ntmps6
  go_wp2_with fail
  refine (crcKnown _).mono ?_
  rintro e w1 ⟨rfl, hb1⟩
  have HM := Lib.hid (run_make_bytes (w := w1) Try.underlying23 infoByte w.heap.size n (by omega) hb1.size)
  go_wp2_with (at_make; refine wpList_make rfl _ _ _ rfl HM.out ?_; rintro w2 ⟨hown, hgrow⟩)
  have hb2 : Below w.heap.size w w2 := hb1.grown hgrow hb1.size (by simp)
  have hg1 : w.heap.size ≤ w1.heap.size := hb1.size
  have HO := Lib.hid hown; clear hown hgrow HM hb1
  have HB := Lib.hid hb2; clear hb2
  generalize w1.heap.size = g at HO hg1
  go_loopw [23] (fun i wr => ∃ (k : Nat) (l : List UInt8), k ≤ n ∧ i = .int .i64 k ∧ l.length = n ∧ l.take k = Crc.turn3 (z0.take k) (z1.take k) (z2.take k) ∧ wr.ownsRow w.heap.size 5 1 (.slice (some ⟨g, 0, none⟩) n n) n (l.map bv) ∧ Below w.heap.size w wr) (fun i _ => n - (intOf i).toNat)
  case atStart => exact ⟨0, _, by omega, rfl, by simp, by simp [Crc.turn3], HO.out, HB.out⟩
  case round =>
    obtain ⟨k, l, hk, rfl, hl, hturn, hown, hb⟩ := hrel
    have HL := Lib.hid hl; clear hl
    have HT := Lib.hid hturn; clear hturn
    have HO2 := Lib.hid hown; clear hown HO HB
    by_cases hlt : k < n
    · have hk0 : k < z0.length := by omega
      have hk1 : k < z1.length := by omega
      have hk2 : k < z2.length := by omega
      obtain ⟨b0, off0, rfl, hbb0, hc0⟩ := (HR0.out.below hb (Nat.le_refl _)).byte hk0
      obtain ⟨b1, off1, rfl, hbb1, hc1⟩ := (HR1.out.below hb (Nat.le_refl _)).byte hk1
      obtain ⟨b2, off2, rfl, hbb2, hc2⟩ := (HR2.out.below hb (Nat.le_refl _)).byte hk2
      have hi0 : (k : Int) < (z0.length : Int) := by omega
      have hi1 : (k : Int) < (z1.length : Int) := by omega
      have hi2 : (k : Int) < (z2.length : Int) := by omega
      have hi3 : (k : Int) < (n : Int) := by omega
      have hkl : k < l.length := by rw [HL.out]; exact hlt
      have hc : wr.cell? ⟨g, k, none⟩ = some (.int .u8 (l[k].toNat : Int)) := by
        rw [HO2.out.cellAt _ (by omega)]; simp [hkl, bv]
      have hf : wr.frozen? ⟨g, k, none⟩ = false := HO2.out.frozenAt _
      go_wp2
      go_still_tail 17, (by kernel_rfl)
      show wpList Try.prog _ _ _ _ wr.drew
      go_wp2
      go_roundw
      case rel =>
        obtain ⟨c', hc'⟩ : ∃ c' : UInt8, c' = z0[k] ^^^ z1[k] ^^^ z2[k] := ⟨_, rfl⟩
        have hv := xor3_u8 z0[k] z1[k] z2[k]
        rw [← hc'] at hv
        have hst := HO2.out.stored k (bv c')
        refine ⟨k + 1, l.set k c', by omega, by go_num, by simp [HL.out], ?_, ?_, ?_⟩
        · rw [take_snoc _ k (by simpa using hkl), List.take_set_of_le (Nat.le_refl _), HT.out, take_snoc z0 k hk0, take_snoc z1 k hk1, take_snoc z2 k hk2, Crc.turn3_snoc _ _ _ _ _ _ (by simp; omega) (by simp; omega)]
          simp [hc']
        · rw [hv, List.map_set]; exact hst.1
        · exact (hb.setCell (p := ⟨g, k, none⟩) hg1 _).drew
      case measure => simp [intOf]; omega
    · obtain rfl : k = n := by omega
      have hl : l = Crc.turn3 (z0.take k) (z1.take k) (z2.take k) := by rw [← HT.out, List.take_of_length_le (by rw [HL.out]; exact Nat.le_refl _)]
      have hsum : Crc.sum l = Crc.sum (z0.take k) ^^^ Crc.sum (z1.take k) ^^^ Crc.sum (z2.take k) := by
        rw [hl]; exact Crc.sum_turn3 _ _ _ (by simp; omega) (by simp; omega)
      have hx := xor3_u32 _ _ _ (Crc.more_lt 0 (z0.take k)) (Crc.more_lt 0 (z1.take k)) (Crc.more_lt 0 (z2.take k))
      have hx : bits .xor .u32 (bits .xor .u32 (Crc.sum (z0.take k) : Nat) (Crc.sum (z1.take k) : Nat)) (Crc.sum (z2.take k) : Nat) = ((Crc.sum l : Nat) : Int) := by rw [hsum]; exact hx
      clear hl hsum
      have hrl : Rd wr wr.heap.size (some ⟨g, 0, none⟩) (l.map bv) := Rd.of_own HO2.out
      have HRl : Hid (∀ n : Sub wr.heap.size wr, Rd n.val n.val.heap.size (some ⟨g, 0, none⟩) (l.map bv)) := fun n => (hrl.below n.ok (Nat.le_refl _)).more n.ok.size
      have hC : ∀ n : Sub wr.heap.size wr, Below w.heap.size w n.val := fun n => hb.trans (n.ok.mono hb.size)
      have HC := Lib.hid hC; clear hC hrl
      have e0 : (z0.take k).length = k := by simp; omega
      have e1 : (z1.take k).length = k := by simp; omega
      have e2 : (z2.take k).length = k := by simp; omega
      have HR0' : Hid (∀ n : Sub wr.heap.size wr, Rd n.val n.val.heap.size a0 ((z0.take k).map bv)) := fun n => by rw [List.map_take]; exact ((HR0.out.below (HC.out n) (Nat.le_refl _)).more (HC.out n).size).take k
      have HR1' : Hid (∀ n : Sub wr.heap.size wr, Rd n.val n.val.heap.size a1 ((z1.take k).map bv)) := fun n => by rw [List.map_take]; exact ((HR1.out.below (HC.out n) (Nat.le_refl _)).more (HC.out n).size).take k
      have HR2' : Hid (∀ n : Sub wr.heap.size wr, Rd n.val n.val.heap.size a2 ((z2.take k).map bv)) := fun n => by rw [List.map_take]; exact ((HR2.out.below (HC.out n) (Nat.le_refl _)).more (HC.out n).size).take k
      have E0 := Lib.hid e0
      have E1 := Lib.hid e1
      have E2 := Lib.hid e2
      clear e0 e1 e2
      generalize z0.take k = y0 at *
      generalize z1.take k = y1 at *
      generalize z2.take k = y2 at *
      have hkc0 : k ≤ cap0 := by omega
      have hkc1 : k ≤ cap1 := by omega
      have hkc2 : k ≤ cap2 := by omega
      go_wp2_with fail
      refine wp_region_below wr.heap.size wr (Below.refl _ _) (by kernel_rfl) (by kernel_rfl) ?_
      repeat (quiet_step (first
        | (go_at_call 16; with_reducible refine Calls.sub_of (Nat.le_refl _) (sum_at _ _ _ l HL.out (by omega) _ (HRl.out _)))
        | (go_at_call 16; with_reducible refine Calls.sub_of (Nat.le_refl _) (sum_at _ _ _ y0 E0.out (by omega) _ (HR0'.out _)))
        | (go_at_call 16; with_reducible refine Calls.sub_of (Nat.le_refl _) (sum_at _ _ _ y1 E1.out (by omega) _ (HR1'.out _)))
        | (go_at_call 16; with_reducible refine Calls.sub_of (Nat.le_refl _) (sum_at _ _ _ y2 E2.out (by omega) _ (HR2'.out _)))))
      refine wpQuiet_nil ?_
      intro _ hw'
      obtain ⟨⟨W, hW⟩, rfl⟩ := hw'
      go_wp2
      go_ret
      exact ⟨rfl, hb.trans (hW.mono hb.size)⟩
end Go.Proofs.Ytefdedjnkmpkjaa
