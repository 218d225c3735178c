/- What crc.row, crc.More and crc.Sum, and the document's Behind, More and Sum, return: the walks. -/
import Derived.Test.YtefdedjnkmpkjaaProg
import Derived.Test.YtefdedjnkmpkjaaCrcPlain
import Derived.Test.YtefdedjnkmpkjaaBase
namespace Go.Proofs.Ytefdedjnkmpkjaa
set_option linter.unusedVariables false
open Go.RowKit
def zeros : Array Value := Array.replicate 256 (.int .u32 0)
theorem allocRow (w : World) : (Instr.alloc 72 true (.tuple #[])).run Try.prog w = .ok (.pointer (some ⟨w.heap.size, 0, none⟩)) (w.alloc (.cells zeros 72)) := by kernel_rfl
def rowArr (k : Nat) : Array Value := ((List.range 256).map fun j => Value.int .u32 (if j < k then (Crc.it 8 j : Nat) else 0)).toArray
theorem rowArr_zero : rowArr 0 = zeros := by kernel_rfl
theorem rowArr_set (k : Nat) : (rowArr k).setIfInBounds k (.int .u32 (Crc.it 8 k : Nat)) = rowArr (k + 1) := by
  apply Array.ext
  · simp [rowArr]
  · intro i h1 h2
    simp only [rowArr, List.setIfInBounds_toArray, List.getElem_toArray, List.getElem_set, List.getElem_map, List.getElem_range]
    by_cases h : k = i
    · subst h; simp
    · have : (i < k + 1) = (i < k) := by apply propext; omega
      simp [h, this]
theorem it_succ (n r : Nat) : Crc.it (n + 1) r = Crc.bit (Crc.it n r) := by rw [Crc.it_add]; rfl
def RowRel (w wr : World) (k : Nat) : Prop := wr.heap.size = w.heap.size + 2 ∧ wr.heap[w.heap.size + 1]? = some (.cells (rowArr k) 72 (0, 0)) ∧ wr.heap[w.heap.size]? = some (.cells zeros 72 (0, 0)) ∧ Below w.heap.size w wr
theorem rowRel_start (w : World) : RowRel w ((w.alloc (Obj.cells zeros 72)).alloc (Obj.cells zeros 72)) 0 :=
  ⟨by simp, by rw [rowArr_zero]; exact heap_alloc2_new _ _ _, heap_alloc2_old _ _ _, ((Below.refl _ _).alloc (Nat.le_refl _) _).alloc (by simp) _⟩

theorem and_one (x : Nat) (hx : x < 2 ^ 32) : bits .and .u32 (x : Int) 1 = ((x % 2 : Nat) : Int) := by
  rw [u32_and _ _ (by omega) (by omega) (by omega) (by omega)]
  simp [Nat.and_one_is_mod]
theorem bit_odd (x : Nat) (hx : x < 2 ^ 32) (h : (bits .and .u32 (x : Int) 1 == 1) = true) : bits .xor .u32 ((x : Int) / 2) 2197175160 = ((Crc.bit x : Nat) : Int) := by
  rw [and_one x hx] at h
  simp only [beq_iff_eq] at h
  rw [u32_xor _ _ (by omega) (by omega) (by omega) (by omega)]
  unfold Crc.bit Crc.P
  rw [if_pos (by omega)]
  have e : ((x : Int) / 2).toNat = x / 2 := by omega
  rw [e]; rfl
theorem bit_even (x : Nat) (hx : x < 2 ^ 32) (h : (bits .and .u32 (x : Int) 1 == 1) = false) : (x : Int) / 2 = ((Crc.bit x : Nat) : Int) := by
  rw [and_one x hx] at h
  simp only [beq_eq_false_iff_ne] at h
  unfold Crc.bit
  rw [if_neg (by omega)]
  omega
theorem rowRel_store {w wr : World} {k : Nat} (h : RowRel w wr k) : RowRel w (wr.setCell ⟨w.heap.size + 1, k, none⟩ (.int .u32 (Crc.it 8 k : Nat))) (k + 1) := by
  obtain ⟨h1, h2, h3, h4⟩ := h
  refine ⟨by simp [World.setCell, h1], ?_, ?_, h4.setCell (by simp) _⟩
  · rw [heap_setCell_same _ _ _ _ _ _ h2, rowArr_set]
  · rw [heap_setCell_other _ _ _ _ (by simp)]; exact h3

theorem rowRel_end {w wr : World} (h : RowRel w wr 256) : (wr.setCells w.heap.size 0 (rowArr 256).toList).heap[w.heap.size]? = some (.cells (rowArr 256) 72 (0, 0)) ∧ Below w.heap.size w (wr.setCells w.heap.size 0 (rowArr 256).toList) := by
  refine ⟨?_, setCells_below _ _ _ h.2.2.2 (Nat.le_refl _)⟩
  rw [setCells_row _ _ _ _ _ _ h.2.2.1, setAll_whole _ _ (by simp [rowArr, zeros])]
set_option maxRecDepth 100000 in
set_option maxHeartbeats 400000 in
theorem row_any (w : World) :
    Calls Try.prog 40 #[] w fun e w' => e = .returned (.agg (rowArr 256)) ∧ Below w.heap.size w w' := by
  go_enter Try.func40, Try.ntmps40
  go_wp2_with (refine wpList_alloc rfl 72 rfl (.cells zeros 72) allocRow ?_)
  go_loopw [5] (fun i wr => ∃ k : Nat, k ≤ 256 ∧ i = .int .i64 k ∧ RowRel w wr k) (fun i _ => 256 - (intOf i).toNat)
  case atStart => exact ⟨0, by omega, rfl, rowRel_start w⟩
  case round =>
    obtain ⟨k, hk, rfl, HR⟩ := hrel
    by_cases hlt : k < 256
    · go_wp2
      go_loop [10, 3] (fun i r => ∃ j : Nat, j ≤ 8 ∧ i = .int .i64 j ∧ r = .int .u32 (Crc.it j k : Nat)) (fun i _ => 8 - (intOf i).toNat)
      case atStart => exact ⟨0, by omega, rfl, rfl⟩
      case round =>
        obtain ⟨j, hj, rfl, rfl⟩ := hrel
        have hx := Crc.it_lt j k (by omega)
        by_cases hj8 : j < 8
        · go_wp2
          all_goals
            go_round
            case rel => exact ⟨j + 1, by omega, by go_num, by first | rw [it_succ, ← bit_odd _ hx ‹_›] | rw [it_succ, ← bit_even _ hx ‹_›]⟩
            case measure => simp [intOf]; omega
        · obtain rfl : j = 8 := by omega
          have hc : ∃ v, wr.cell? ⟨w.heap.size + 1, k, none⟩ = some v := by
            rw [cell_of_row _ _ _ _ _ _ HR.2.1]; exact ⟨_, by simp [rowArr, hlt]; rfl⟩
          obtain ⟨v, hc⟩ := hc
          have hf : wr.frozen? ⟨w.heap.size + 1, k, none⟩ = false := frozen_of_row _ _ _ _ _ HR.2.1
          have HC : Hid (k < 256) := hlt
          go_wp2
          go_roundw
          case rel => exact ⟨k + 1, by omega, by go_num, rowRel_store HR⟩
          case measure => simp [intOf]; omega
    · obtain rfl : k = 256 := by omega
      have HT : wr.there w.heap.size 0 (rowArr 256).size := there_of_row HR.2.2.1 (by simp [rowArr, zeros])
      have HE := rowRel_end HR
      go_wp2_with (first | (refine wpList_load_row rfl 72 (.tmp 1) rfl (w.heap.size + 1) rfl 72 (rowArr 256) (0, 0) _ HR.2.1 Try.underlying72 rfl (by kernel_rfl) ?_) | (refine wpList_store_mid rfl 72 (.tmp 0) (.tmp 25) rfl w.heap.size 0 (rowArr 256) rfl rfl HT (by kernel_rfl) (by kernel_rfl) ?_))
      exact bodyPost_ret (v := .agg (rowArr 256)) (results_cell_row Try.results40 _ _ w.heap.size 72 (rowArr 256) (0, 0) _ rfl HE.1 Try.underlying72 rfl (by kernel_rfl)) rfl ⟨rfl, HE.2⟩
theorem not_u32 (s : Nat) (hs : s < 2 ^ 32) : bits .xor .u32 IntKind.u32.max (s : Int) = ((4294967295 - s : Nat) : Int) := by
  have hm : IntKind.u32.max = 4294967295 := by decide
  rw [hm, u32_xor _ _ (by omega) (by omega) (by omega) (by omega)]
  have e1 : (4294967295 : Int).toNat = 4294967295 := rfl
  rw [e1, Int.toNat_natCast, Crc.not_eq _ hs]
theorem row_get (x : Nat) (hx : x < 256) : (rowArr 256)[x]? = some (.int .u32 (Crc.it 8 x : Nat)) := by
  simp [rowArr, hx]
theorem step_byte (r : Nat) (c : UInt8) (hr : r < 2 ^ 32) : ∃ x : Nat, x < 256 ∧ bits .xor .u8 ((r : Int) % 256) (c.toNat : Int) = (x : Int) ∧ bits .xor .u32 (Crc.it 8 x : Nat) ((r : Int) / 256) = ((Crc.beh r c.toNat : Nat) : Int) := by
  have hc := Crc.byte_lt c
  have h1 : r % 2 ^ 8 < 2 ^ 8 := Nat.mod_lt _ (by decide)
  have h2 : r % 2 ^ 8 ^^^ c.toNat < 2 ^ 8 := Nat.xor_lt_two_pow h1 hc
  refine ⟨r % 2 ^ 8 ^^^ c.toNat, h2, ?_, ?_⟩
  · rw [u8_xor _ _ (by omega) (by omega) (by omega) (by omega)]
    have e : ((r : Int) % 256).toNat = r % 2 ^ 8 := by omega
    rw [e, Int.toNat_natCast]
  · have h3 := Crc.it_lt 8 (r % 2 ^ 8 ^^^ c.toNat) (by omega)
    rw [u32_xor _ _ (by omega) (by omega) (by omega) (by omega), ← Crc.beh_row]
    have e : ((r : Int) / 256).toNat = r / 2 ^ 8 := by omega
    rw [e, Int.toNat_natCast]
set_option maxRecDepth 100000 in
set_option maxHeartbeats 400000 in
theorem more_nat (s : Nat) (hs : s < 2 ^ 32) (A : Option Addr) (cap : Nat) (l : List UInt8) (hn : l.length ≤ 140737488355328) (w : World) (hr : Rd w w.heap.size A (l.map bv)) :
    Calls Try.prog 18 #[.int .u32 s, .slice A l.length cap] w fun e w' => e = .returned (.int .u32 (Crc.more s l : Nat)) ∧ Below w.heap.size w w' := by
  by_cases h0 : l.length = 0
  · obtain rfl : l = [] := List.eq_nil_of_length_eq_zero h0
    go_enter Try.func18, Try.ntmps18
    go_wp2
    go_ret
    exact ⟨by rw [Crc.more_nil s hs]; rfl, Below.refl _ _⟩
  · have he : ((l.length : Int) == 0) = false := beq_eq_false_iff_ne.2 (by omega)
    obtain ⟨b, off, rfl, hb, hc⟩ := hr (by intro e; apply h0; simpa using congrArg List.length e)
    have HC := Lib.hid hc; clear hc
    go_enter Try.func18, Try.ntmps18
    go_wp2_with fail
    refine (row_any _).mono ?_
    rintro e w1 ⟨rfl, hb1⟩
    have HT : (w1.alloc (.cells zeros 72)).there w1.heap.size 0 (rowArr 256).size := there_of_row (heap_alloc_new w1 _) (by simp [rowArr, zeros])
    dsimp only
    go_step
    refine wpList_alloc rfl 72 rfl (.cells zeros 72) allocRow ?_
    go_frame
    refine wpList_store_mid rfl 72 (.tmp 5) (.tmp 13) rfl w1.heap.size 0 (rowArr 256) rfl rfl HT (by kernel_rfl) (by kernel_rfl) ?_
    obtain ⟨W, hW, hG, hB⟩ : ∃ W : World, W = (w1.alloc (Obj.cells zeros 72)).setCells w1.heap.size 0 (rowArr 256).toList ∧ W.heap[w1.heap.size]? = some (.cells (rowArr 256) 72 (0, 0)) ∧ Below w.heap.size w W :=
      ⟨_, rfl, by rw [setCells_row _ _ _ _ _ _ (heap_alloc_new _ _), setAll_whole _ _ (by simp [rowArr, zeros])], setCells_below _ _ _ (hb1.alloc hb1.size _) hb1.size⟩
    rw [← hW]
    clear hW HT
    go_wp2
    rw [not_u32 s hs]
    go_loop [18, 6] (fun i r => ∃ k : Nat, k ≤ l.length ∧ i = .int .i64 k ∧ r = .int .u32 (Crc.fold (4294967295 - s) (l.take k) : Nat)) (fun i _ => l.length - (intOf i).toNat)
    case atStart => exact ⟨0, by omega, rfl, rfl⟩
    case round =>
      obtain ⟨k, hk, rfl, rfl⟩ := hrel
      have hr32 := Crc.fold_lt (4294967295 - s) (l.take k) (by omega)
      by_cases hlt : k < l.length
      · have hc : W.cell? ⟨b, off + k, none⟩ = some (.int .u8 (l[k].toNat : Int)) := by
          rw [hB.cell (p := ⟨b, off + k, none⟩) hb]; exact HC.out k _ (by simp [hlt, bv])
        have hlt' : (k : Int) < (l.length : Int) := by omega
        have HS := Lib.hid (Crc.fold_snoc (4294967295 - s) (l.take k) l[k])
        rw [← take_snoc l k hlt] at HS
        generalize Crc.fold (4294967295 - s) (l.take k) = r at hr32 HS
        generalize l[k] = c at hc HS
        obtain ⟨x, hx, hx1, hx2⟩ := step_byte r c hr32
        have hcell : W.cell? ⟨w1.heap.size, x, none⟩ = some (.int .u32 (Crc.it 8 x : Nat)) := by rw [cell_of_row _ _ _ _ _ _ hG]; exact row_get x hx
        clear HC hr hb hb1 hG
        go_wp2
        go_round
        case rel => exact ⟨k + 1, by omega, by go_num, by rw [HS.out]⟩
        case measure => simp [intOf]; omega
      · obtain rfl : k = l.length := by omega
        go_wp2
        go_ret
        refine ⟨?_, hB⟩
        rw [List.take_length] at hr32
        have e := not_u32 _ hr32
        simp [Crc.more, e]

theorem more_any (s : Int) (h0 : 0 ≤ s) (hs : s < 4294967296) (A : Option Addr) (cap : Nat) (l : List UInt8) (hn : l.length ≤ 140737488355328) (w : World) (hr : Rd w w.heap.size A (l.map bv)) :
    Calls Try.prog 18 #[.int .u32 s, .slice A l.length cap] w fun e w' => e = .returned (.int .u32 (Crc.more s.toNat l : Nat)) ∧ Below w.heap.size w w' := by
  obtain ⟨n, rfl⟩ := Int.eq_ofNat_of_zero_le h0
  exact more_nat n (by omega) A cap l hn w hr
theorem sum_any (A : Option Addr) (cap : Nat) (l : List UInt8) (hn : l.length ≤ 140737488355328) (w : World) (hr : Rd w w.heap.size A (l.map bv)) :
    Calls Try.prog 16 #[.slice A l.length cap] w fun e w' => e = .returned (.int .u32 (Crc.sum l : Nat)) ∧ Below w.heap.size w w' := by
  go_enter Try.func16, Try.ntmps16
  go_wp2_with (go_at_call 18; refine (more_any _ (by omega) (by omega) _ _ _ hn _ hr).mono ?_; rintro e w' ⟨rfl, hb⟩)
  go_ret
  exact ⟨rfl, hb⟩
theorem bit_odd2 (x : Nat) (hx : x < 2 ^ 32) (h : ((x : Int) % 2 == 1) = true) : bits .xor .u32 ((x : Int) / 2) 2197175160 = ((Crc.bit x : Nat) : Int) :=
  bit_odd x hx (by rw [and_one x hx]; rw [beq_iff_eq] at h ⊢; omega)
theorem bit_even2 (x : Nat) (hx : x < 2 ^ 32) (h : ((x : Int) % 2 == 1) = false) : (x : Int) / 2 = ((Crc.bit x : Nat) : Int) :=
  bit_even x hx (by rw [and_one x hx]; rw [beq_eq_false_iff_ne] at h ⊢; omega)
set_option maxHeartbeats 400000 in
theorem behind_any (r c : Nat) (w : World) (hr : r < 2 ^ 32) (hc : c < 2 ^ 8) :
    Calls Try.prog 41 #[.int .u32 r, .int .u8 c] w fun e w' => e = .returned (.int .u32 (Crc.beh r c : Nat)) ∧ w = w' := by
  have hx : bits .xor .u32 (r : Int) (c : Int) = ((r ^^^ c : Nat) : Int) := by
    rw [u32_xor _ _ (by omega) (by omega) (by omega) (by omega)]; simp
  have hlt : r ^^^ c < 2 ^ 32 := Nat.xor_lt_two_pow hr (by omega)
  have HB : Hid (Crc.beh r c = Crc.it 8 (r ^^^ c)) := rfl
  generalize Crc.beh r c = z at HB
  generalize r ^^^ c = y at hx hlt HB
  go_enter Try.func41, Try.ntmps41
  go_wp2
  go_loop [5, 0] (fun i r => ∃ j : Nat, j ≤ 8 ∧ i = .int .i64 j ∧ r = .int .u32 (Crc.it j y : Nat)) (fun i _ => 8 - (intOf i).toNat)
  case atStart => exact ⟨0, by omega, rfl, rfl⟩
  case round =>
    obtain ⟨j, hj, rfl, rfl⟩ := hrel
    have hx := Crc.it_lt j y hlt
    have HS := Lib.hid (it_succ j y)
    by_cases hj8 : j < 8
    · go_wp2
      all_goals
        go_round
        case rel => exact ⟨j + 1, by omega, by go_num, by rw [HS.out]; first | rw [bit_odd2 _ hx ‹_›] | rw [bit_even2 _ hx ‹_›]⟩
        case measure => simp [intOf]; omega
    · obtain rfl : j = 8 := by omega
      go_wp2
      go_ret
      exact ⟨by rw [HB.out]; rfl, rfl⟩
set_option maxHeartbeats 400000 in
theorem refMore_nat (s : Nat) (hs : s < 2 ^ 32) (A : Option Addr) (cap : Nat) (l : List UInt8) (hn : l.length ≤ 140737488355328) (w : World) (hr : Rd w w.heap.size A (l.map bv)) :
    Calls Try.prog 19 #[.int .u32 s, .slice A l.length cap] w fun e w' => e = .returned (.int .u32 (Crc.more s l : Nat)) ∧ w = w' := by
  have HM : Hid (Crc.more s l = 4294967295 - Crc.fold (4294967295 - s) l) := rfl
  generalize Crc.more s l = z at HM
  have HR := Lib.hid hr; clear hr
  go_enter Try.func19, Try.ntmps19
  go_wp2
  have e0 : (4294967295 : Int) - (s : Int) = ((4294967295 - s : Nat) : Int) := by omega
  rw [e0]
  clear e0
  have hs' : 4294967295 - s < 2 ^ 32 := by omega
  generalize 4294967295 - s = q at HM hs'
  go_loop [6, 5] (fun i r => ∃ k : Nat, k ≤ l.length ∧ i = .int .i64 k ∧ r = .int .u32 (Crc.fold q (l.take k) : Nat)) (fun i _ => l.length - (intOf i).toNat)
  case atStart => exact ⟨0, by omega, rfl, rfl⟩
  case round =>
    obtain ⟨k, hk, rfl, rfl⟩ := hrel
    have hr32 := Crc.fold_lt q (l.take k) hs'
    by_cases hlt : k < l.length
    · obtain ⟨b, off, rfl, hb, hc⟩ := HR.out.byte hlt
      have hlt' : (k : Int) < (l.length : Int) := by omega
      have HS := Lib.hid (Crc.fold_snoc q (l.take k) l[k])
      rw [← take_snoc l k hlt] at HS
      have hb8 := Crc.byte_lt l[k]
      generalize Crc.fold q (l.take k) = r at hr32 HS
      generalize l[k] = c at hc HS hb8
      clear HR hb
      go_wp2_with (go_at_call 41; refine (behind_any r c.toNat _ hr32 hb8).mono ?_; rintro e w' ⟨rfl, rfl⟩)
      go_round
      case rel => exact ⟨k + 1, by omega, by go_num, by rw [HS.out]⟩
      case measure => simp [intOf]; omega
    · obtain rfl : k = l.length := by omega
      go_wp2
      go_ret
      refine ⟨?_, rfl⟩
      rw [HM.out]
      rw [List.take_length] at hr32
      simp
      omega

theorem refMore_any (s : Int) (h0 : 0 ≤ s) (hs : s < 4294967296) (A : Option Addr) (cap : Nat) (l : List UInt8) (hn : l.length ≤ 140737488355328) (w : World) (hr : Rd w w.heap.size A (l.map bv)) :
    Calls Try.prog 19 #[.int .u32 s, .slice A l.length cap] w fun e w' => e = .returned (.int .u32 (Crc.more s.toNat l : Nat)) ∧ w = w' := by
  obtain ⟨n, rfl⟩ := Int.eq_ofNat_of_zero_le h0
  exact refMore_nat n (by omega) A cap l hn w hr
theorem refSum_any (A : Option Addr) (cap : Nat) (l : List UInt8) (hn : l.length ≤ 140737488355328) (w : World) (hr : Rd w w.heap.size A (l.map bv)) :
    Calls Try.prog 17 #[.slice A l.length cap] w fun e w' => e = .returned (.int .u32 (Crc.sum l : Nat)) ∧ w = w' := by
  go_enter Try.func17, Try.ntmps17
  go_wp2_with (go_at_call 19; refine (refMore_any _ (by omega) (by omega) _ _ _ hn _ hr).mono ?_; rintro e w' ⟨rfl, rfl⟩)
  go_ret
  exact ⟨rfl, rfl⟩

theorem more_at (s : Int) (h0 : 0 ≤ s) (hs : s < 4294967296) (A : Option Addr) (n cap : Nat) (l : List UInt8) (hl : l.length = n) (hn : n ≤ 140737488355328) (w : World) (hr : Rd w w.heap.size A (l.map bv)) :
    Calls Try.prog 18 #[.int .u32 s, .slice A n cap] w fun e w' => e = .returned (.int .u32 (Crc.more s.toNat l : Nat)) ∧ Below w.heap.size w w' := by
  subst hl; exact more_any s h0 hs A cap l hn w hr
theorem sum_at (A : Option Addr) (n cap : Nat) (l : List UInt8) (hl : l.length = n) (hn : n ≤ 140737488355328) (w : World) (hr : Rd w w.heap.size A (l.map bv)) :
    Calls Try.prog 16 #[.slice A n cap] w fun e w' => e = .returned (.int .u32 (Crc.sum l : Nat)) ∧ Below w.heap.size w w' := by
  subst hl; exact sum_any A cap l hn w hr
end Go.Proofs.Ytefdedjnkmpkjaa
