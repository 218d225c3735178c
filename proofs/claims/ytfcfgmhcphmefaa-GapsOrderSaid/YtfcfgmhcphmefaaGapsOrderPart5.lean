/- What the law leans on, part 5. No conditions. -/
import Derived.Test.YtfcfgmhcphmefaaProg
import Derived.KernelRfl
import Derived.Sort.AssemblyPlain
import Derived.Sort.LotD5
import Derived.Test.YtfcfgmhcphmefaaGapsOrderPart4
set_option linter.unusedVariables false
set_option linter.unusedSimpArgs false
namespace Go.Proofs.Ytfcfgmhcphmefaa
instance : CT Try.prog 3 none := ⟨by kernel_rfl⟩
instance : SZ Try.prog 3 1 := ⟨by kernel_rfl⟩
theorem un3 : Try.prog.underlying 3 = some (.int .i64) := by kernel_rfl
instance : AL Try.prog 3 [.int .i64 0] := ⟨by kernel_rfl⟩
theorem un5 : Try.prog.underlying 5 = some (.int .u8) := by kernel_rfl
instance : CT Try.prog 22 none := ⟨by kernel_rfl⟩
instance : SZ Try.prog 22 1 := ⟨by kernel_rfl⟩
theorem un22 : Try.prog.underlying 22 = some (.int .u32) := by kernel_rfl
instance : CT Try.prog 29 none := ⟨by kernel_rfl⟩
instance : SZ Try.prog 29 1 := ⟨by kernel_rfl⟩
instance : EL Try.prog 29 (none, 1) := ⟨by kernel_rfl⟩
instance : UN Try.prog 29 (.slice 22) := ⟨by kernel_rfl⟩
instance : BS Try.prog 29 22 1 (.int .u32 0) := .of (by kernel_rfl) (by kernel_rfl) (by kernel_rfl) (by kernel_rfl) (by kernel_rfl)
instance : AP Try.prog 29 29 22 1 4 := .of (inf := Try.t22) (z := .int .u32 0) (e₂ := 22) (by kernel_rfl) (by kernel_rfl) (by kernel_rfl) (by kernel_rfl) (by kernel_rfl) (by kernel_rfl) (by decide) (by kernel_rfl) (by kernel_rfl)
instance : EL Try.prog 40 (none, 2) := ⟨by kernel_rfl⟩
instance : UN Try.prog 40 (.slice 49) := ⟨by kernel_rfl⟩
instance : BS Try.prog 40 49 2 (.agg #[.int .u16 0, .int .u16 0]) := .of (by kernel_rfl) (by kernel_rfl) (by kernel_rfl) (by kernel_rfl) (by kernel_rfl)
instance : AP Try.prog 40 40 49 2 4 := .of (inf := Try.t49) (z := .agg #[.int .u16 0, .int .u16 0]) (e₂ := 49) (by kernel_rfl) (by kernel_rfl) (by kernel_rfl) (by kernel_rfl) (by kernel_rfl) (by kernel_rfl) (by decide) (by kernel_rfl) (by kernel_rfl)
instance : EL Try.prog 45 (none, 1) := ⟨by kernel_rfl⟩
instance : UN Try.prog 45 (.slice 46) := ⟨by kernel_rfl⟩
instance : BS Try.prog 45 46 1 (.int .u16 0) := .of (by kernel_rfl) (by kernel_rfl) (by kernel_rfl) (by kernel_rfl) (by kernel_rfl)
instance : AP Try.prog 45 45 46 1 2 := .of (inf := Try.t46) (z := .int .u16 0) (e₂ := 46) (by kernel_rfl) (by kernel_rfl) (by kernel_rfl) (by kernel_rfl) (by kernel_rfl) (by kernel_rfl) (by decide) (by kernel_rfl) (by kernel_rfl)
instance : CT Try.prog 46 none := ⟨by kernel_rfl⟩
instance : SZ Try.prog 46 1 := ⟨by kernel_rfl⟩
theorem un46 : Try.prog.underlying 46 = some (.int .u16) := by kernel_rfl
instance : CT Try.prog 49 (some 2) := ⟨by kernel_rfl⟩
instance : SZ Try.prog 49 2 := ⟨by kernel_rfl⟩
instance : FO Try.prog 49 0 0 := ⟨by kernel_rfl⟩
instance : FO Try.prog 49 1 1 := ⟨by kernel_rfl⟩
instance : ST Try.prog 49 [.int .u16 0, .int .u16 0] [(0, 1), (1, 1)] := .of (z := .agg #[.int .u16 0, .int .u16 0]) (fs := (match Try.prog.underlying 49 with | some (.struct fs) => fs | _ => #[])) (by kernel_rfl) (by kernel_rfl) (by kernel_rfl) (by kernel_rfl) (by kernel_rfl)
instance : AL Try.prog 49 [.int .u16 0, .int .u16 0] := ⟨by kernel_rfl⟩
theorem un57 : Try.prog.underlying 57 = some (.int .u64) := by kernel_rfl
instance : CT Try.prog 81 none := ⟨by kernel_rfl⟩
instance : SZ Try.prog 83 3 := ⟨by kernel_rfl⟩
instance : FO Try.prog 83 0 0 := ⟨by kernel_rfl⟩
instance : FO Try.prog 83 1 1 := ⟨by kernel_rfl⟩
instance : FO Try.prog 83 2 2 := ⟨by kernel_rfl⟩
instance : ST Try.prog 83 [.int .u32 0, .map none, .slice none 0 0] [(0, 1), (1, 1), (2, 1)] := .of (z := .agg #[.int .u32 0, .map none, .slice none 0 0]) (fs := (match Try.prog.underlying 83 with | some (.struct fs) => fs | _ => #[])) (by kernel_rfl) (by kernel_rfl) (by kernel_rfl) (by kernel_rfl) (by kernel_rfl)
instance : SZ Try.prog 85 0 := ⟨by kernel_rfl⟩
instance : ST Try.prog 85 [] [] := .of (z := .agg #[]) (fs := (match Try.prog.underlying 85 with | some (.struct fs) => fs | _ => #[])) (by kernel_rfl) (by kernel_rfl) (by kernel_rfl) (by kernel_rfl) (by kernel_rfl)
instance : AL Try.prog 85 [] := ⟨by kernel_rfl⟩
theorem un113 : Try.prog.underlying 113 = some (.int .u64) := by kernel_rfl
instance : CT Try.prog 140 none := ⟨by kernel_rfl⟩
instance : SZ Try.prog 140 1 := ⟨by kernel_rfl⟩
theorem un140 : Try.prog.underlying 140 = some (.int .u64) := by kernel_rfl
instance : AL Try.prog 140 [.int .u64 0] := ⟨by kernel_rfl⟩
instance : IC Try.prog 3 22 .u32 := .of un3 un22
instance : IC Try.prog 3 113 .u64 := .of un3 un113
instance : IC Try.prog 3 140 .u64 := .of un3 un140
instance : IC Try.prog 5 3 .i64 := .of un5 un3
instance : IC Try.prog 22 3 .i64 := .of un22 un3
instance : IC Try.prog 22 46 .u16 := .of un22 un46
instance : IC Try.prog 46 3 .i64 := .of un46 un3
instance : IC Try.prog 46 22 .u32 := .of un46 un22
instance : IC Try.prog 57 5 .u8 := .of un57 un5
instance : IC Try.prog 113 3 .i64 := .of un113 un3
theorem noGlobals : Try.prog.globals.size = 0 := by kernel_rfl
end Go.Proofs.Ytfcfgmhcphmefaa
namespace Go.Proofs.Ytfcfgmhcphmefaa
open Go.Sort
theorem Keeps.rf (wr : List Nat) (h : AHeap) : Keeps wr h h := ⟨Nat.le_refl _, fun _ _ _ => Eq.refl _⟩
theorem Keeps.tr {wr : List Nat} {a b c : AHeap} (h : Keeps wr a b) (k : Keeps wr b c) : Keeps wr a c := ⟨Nat.le_trans h.1 k.1, fun i hi hn => (k.2 i (by have := h.1; omega) hn).trans (h.2 i hi hn)⟩
theorem Keeps.pt {wr : List Nat} {h h' : AHeap} (k : Keeps wr h h') {b : Nat} (hb : b ∈ wr ∨ h.n ≤ b) (o : Option AObj) : Keeps wr h (h'.put b o) := ⟨k.1, fun i hi hn => by rw [AHeap.get_put_ne _ _ (fun e => by rcases hb with hb | hb; exact hn (by rw [← e]; exact hb); omega)]; exact k.2 i hi hn⟩
theorem Keeps.sm {wr : List Nat} {a b c : AHeap} (h : Keeps wr a b) (k : Same b c) : Keeps wr a c := ⟨Nat.le_trans h.1 k.1, fun i hi hn => (k.2 i (by have := h.1; omega)).trans (h.2 i hi hn)⟩
theorem Keeps.ofSame {wr : List Nat} {a b : AHeap} (k : Same a b) : Keeps wr a b := ⟨k.1, fun i hi _ => k.2 i hi⟩
theorem swp_size (d : Array Int) (i j : Nat) : (swp d i j).size = d.size := by simp [swp]
theorem scanUp_ge (p : Int → Bool) (d : Array Int) (j i : Nat) : i ≤ scanUp p d j i ∧ scanUp p d j i ≤ max i (j + 1) := by
  have key : ∀ n i, j + 1 - i ≤ n → i ≤ scanUp p d j i ∧ scanUp p d j i ≤ max i (j + 1) := by
    intro n
    induction n with
    | zero =>
      intro i h
      rw [scanUp, show decide (i ≤ j) = false from decide_eq_false (by omega), Bool.false_and, if_neg (by decide)]
      omega
    | succ n ih =>
      intro i h
      rw [scanUp]
      split
      · rename_i hc
        have hij : i ≤ j := by simp only [Bool.and_eq_true, decide_eq_true_eq] at hc; exact hc.1
        have := ih (i + 1) (by omega)
        omega
      · omega
  exact key _ i (Nat.le_refl _)
theorem scanDown_le (p : Int → Bool) (d : Array Int) (i : Nat) : ∀ j, scanDown p d i j ≤ j ∧ (1 ≤ i → min j (i - 1) ≤ scanDown p d i j)
  | 0 => by rw [scanDown]; omega
  | j + 1 => by
    rw [scanDown]
    split
    · rename_i hc
      have hij : i ≤ j + 1 := by simp only [Bool.and_eq_true, decide_eq_true_eq] at hc; exact hc.1
      have := scanDown_le p d i j
      omega
    · omega
theorem scanUp_stop {p : Int → Bool} {d : Array Int} {j i : Nat} (h : j < i ∨ p d[i]! = false) : scanUp p d j i = i := by
  rw [scanUp, if_neg]
  rcases h with h | h
  · simp; omega
  · simp [h]
theorem scanUp_more {p : Int → Bool} {d : Array Int} {j i : Nat} (h : i ≤ j) (hp : p d[i]! = true) : scanUp p d j i = scanUp p d j (i + 1) := by
  rw [scanUp, if_pos]
  simp [h, hp]
theorem scanDown_stop {p : Int → Bool} {d : Array Int} {j i : Nat} (h1 : 1 ≤ i) (h : j < i ∨ p d[j]! = false) : scanDown p d i j = j := by
  cases j with
  | zero => rw [scanDown]
  | succ j =>
    rw [scanDown, if_neg]
    rcases h with h | h
    · simp; omega
    · simp [h]
theorem scanDown_more {p : Int → Bool} {d : Array Int} {j i : Nat} (h1 : 1 ≤ i) (h : i ≤ j) (hp : p d[j]! = true) : scanDown p d i j = scanDown p d i (j - 1) := by
  cases j with
  | zero => omega
  | succ j => rw [scanDown, if_pos (by simp [h, hp])]; rfl
theorem scanSorted_stop {d : Array Int} {b i : Nat} (h : b ≤ i ∨ ltInt d[i]! d[i - 1]! = true) : scanSorted ltInt d b i = i := by
  rw [scanSorted, if_neg]
  rcases h with h | h
  · simp; omega
  · simp [h]
theorem scanSorted_more {d : Array Int} {b i : Nat} (h : i < b) (hp : ltInt d[i]! d[i - 1]! = false) : scanSorted ltInt d b i = scanSorted ltInt d b (i + 1) := by
  rw [scanSorted, if_pos]
  simp [h, hp]
theorem scanSorted_ge (d : Array Int) (b i : Nat) : i ≤ scanSorted ltInt d b i ∧ scanSorted ltInt d b i ≤ max i b := by
  have key : ∀ n i, b - i ≤ n → i ≤ scanSorted ltInt d b i ∧ scanSorted ltInt d b i ≤ max i b := by
    intro n
    induction n with
    | zero =>
      intro i h
      rw [scanSorted_stop (.inl (by omega))]
      omega
    | succ n ih =>
      intro i h
      rw [scanSorted]
      split
      · rename_i hc
        have hij : i < b := by simp only [Bool.and_eq_true, decide_eq_true_eq] at hc; exact hc.1
        have := ih (i + 1) (by omega)
        omega
      · omega
  exact key _ i (Nat.le_refl _)
theorem shiftDown_stop {d : Array Int} {j : Nat} (h : j = 0 ∨ ltInt d[j]! d[j - 1]! = false) : shiftDown ltInt j d = d := by
  cases j with
  | zero => rfl
  | succ j =>
    rcases h with h | h
    · omega
    · rw [shiftDown, show ltInt d[j + 1]! d[j]! = false from h]; rfl
theorem shiftDown_more {d : Array Int} {j : Nat} (h0 : 0 < j) (h : ltInt d[j]! d[j - 1]! = true) : shiftDown ltInt j d = shiftDown ltInt (j - 1) (swp d j (j - 1)) := by
  cases j with
  | zero => omega
  | succ j => rw [shiftDown, show ltInt d[j + 1]! d[j]! = true from h]; rfl
theorem shiftUp_stop {d : Array Int} {b j : Nat} (h : b ≤ j ∨ ltInt d[j]! d[j - 1]! = false) : shiftUp ltInt b j d = d := by
  rw [shiftUp]
  split
  · rename_i hj
    rcases h with h | h
    · omega
    · rw [h]; rfl
  · rfl
theorem shiftUp_more {d : Array Int} {b j : Nat} (h0 : j < b) (h : ltInt d[j]! d[j - 1]! = true) : shiftUp ltInt b j d = shiftUp ltInt b (j + 1) (swp d j (j - 1)) := by
  rw [shiftUp, if_pos h0, h]; rfl
end Go.Proofs.Ytfcfgmhcphmefaa
namespace Go.Proofs.Ytfcfgmhcphmefaa
open Go.Sort
set_option maxRecDepth 100000
attribute [local irreducible] Go GoR GoL
abbrev ksU (d : Array Int) : List Value := d.toList.map (Value.int .u16)
theorem ksU_len (d : Array Int) : (ksU d).length = d.size := by simp
theorem ksU_get {d : Array Int} {i : Nat} (hi : i < d.size) : (ksU d)[i]? = some (.int .u16 d[i]!) := by
  simp [getElem!_pos, hi]
theorem ksU_swp (d : Array Int) (i j : Nat) : ((ksU d).set i (.int .u16 d[j]!)).set j (.int .u16 d[i]!) = ksU (swp d i j) := by
  unfold ksU
  simp [swp, List.map_set]
set_option maxHeartbeats 4000000 in
theorem nanU_spec (x : Int) (h : AHeap) : CallS Try.prog [] 94 [.int .u16 x] h fun v h' => v = .bool false ∧ h' = h := by
  (refine CallS.of1 Try.func94 rfl Try.ntmps94 Try.results94 rfl ?_)
  (refine Go.run (g:=?_))
  (first|refine Go.finT (by first|exact .inr rfl|exact .inl rfl) rfl ?_|refine Go.fin1 (by first|exact .inr rfl|exact .inl rfl) rfl (hq:=?_))
  simp [retV]
set_option maxHeartbeats 4000000 in
theorem lessU_spec (x y : Int) (h : AHeap) : CallS Try.prog [] 73 [.int .u16 x, .int .u16 y] h fun v h' => v = .bool (decide (x < y)) ∧ h' = h := by
  (refine CallS.of2 Try.func73 rfl Try.ntmps73 Try.results73 rfl ?_)
  (refine Go.run (g:=?_))
  refine GoR.call rfl rfl rfl rfl rfl rfl rfl (((nanU_spec x _).argA).mono ?_)
  rintro _ h2 ⟨rfl, rfl⟩ -
  (refine Go.run (g:=?_))
  (first|refine Go.finT (by first|exact .inr rfl|exact .inl rfl) rfl ?_|refine Go.fin1 (by first|exact .inr rfl|exact .inl rfl) rfl (hq:=?_))
  simp [retV]
abbrev KvU (h : AHeap) (a : Option Addr) (cap : Nat) (d : Array Int) : Prop := Sv h 46 1 a d.size cap (ksU d)
abbrev SortsU (f : FuncId) (a : Option Addr) (cap : Nat) (d : Array Int) (args : List Value) (h : AHeap) (d' : Array Int) : Prop := CallS Try.prog (blk a) f (.slice a d.size cap :: args) h fun v h' => v = .tuple #[] ∧ d'.size = d.size ∧ Sv h' 46 1 a d.size cap (ksU d')
set_option maxHeartbeats 16000000 in
theorem insU_spec (a : Option Addr) (cap : Nat) (d : Array Int) (x y : Nat) (hxy : x ≤ y) (hy : y ≤ d.size) (hn : d.size ≤ 1000000) (h : AHeap) (hS : KvU h a cap d) : SortsU 67 a cap d [.int .i64 x, .int .i64 y] h (insertionSort ltInt d x y) := by
  unfold SortsU insertionSort
  unfold KvU at hS
  generalize hL : d.size = L at *
  have hW : ∀ i ∈ blk a, i ∈ blk a ∨ h.n ≤ i := fun i hi => .inl hi
  (refine CallS.of3 Try.func67 rfl Try.ntmps67 Try.results67 rfl ?_)
  (refine Go.run (g:=?_))
  refine Go.loop (α := Nat × Array Int × AHeap) (fun s => [(6, .int .i64 s.1), (0, .slice a L cap), (1, .int .i64 x), (2, .int .i64 y)]) (fun _ => []) (fun s => s.2.2) (fun s => s.1 ≤ max y (x + 1) ∧ x < s.1 ∧ s.2.1.size = L ∧ Keeps (blk a) h s.2.2 ∧ Sv s.2.2 46 1 a L cap (ksU s.2.1) ∧ insOuter ltInt x y s.1 s.2.1 = insOuter ltInt x y (x + 1) d) (fun s => y - s.1) (x + 1, d, h) ?_ ?_ rfl rfl ?_
  · exact ⟨by simp only; omega, by simp only; omega, hL, Keeps.rf _ _, hS, rfl⟩
  · exact ⟨rfl, rfl, rfl, rfl, trivial⟩
  rintro ⟨i, e, H⟩ ⟨hi1, hi2, he, kp, sv, eq⟩
  simp only at hi1 hi2 he kp sv eq ⊢
  rcases Nat.lt_or_ge i y with i0 | i0
  case inr =>
    rw [insOuter, if_neg (by omega)] at eq
    (refine Go.run (g:=?_))
    (first|refine Go.finT (by first|exact .inr rfl|exact .inl rfl) rfl ?_|refine Go.fin1 (by first|exact .inr rfl|exact .inl rfl) rfl (hq:=?_))
    exact ⟨rfl, by rw [← eq]; exact he, by rw [← eq]; exact sv⟩
  rw [insOuter, if_pos i0] at eq
  (refine Go.run (g:=?_))
  refine Go.loop (α := Nat × Array Int × AHeap) (fun s => [(7, .int .i64 s.1), (6, .int .i64 i), (0, .slice a L cap), (1, .int .i64 x), (2, .int .i64 y)]) (fun _ => []) (fun s => s.2.2) (fun s => s.1 ≤ i ∧ x ≤ s.1 ∧ s.2.1.size = L ∧ Keeps (blk a) h s.2.2 ∧ Sv s.2.2 46 1 a L cap (ksU s.2.1) ∧ insInner ltInt x s.1 s.2.1 = insInner ltInt x i e) (fun s => s.1) (i, e, H) ?_ ?_ rfl rfl ?_
  · exact ⟨Nat.le_refl _, by simp only; omega, he, kp, sv, rfl⟩
  · exact ⟨rfl, rfl, rfl, rfl, rfl, trivial⟩
  rintro ⟨j, g, H1⟩ ⟨hj1, hj2, hg, kp1, sv1, eq1⟩
  simp only at hj1 hj2 hg kp1 sv1 eq1 ⊢
  have done : insInner ltInt x j g = g → insOuter ltInt x y (i + 1) g = insOuter ltInt x y (x + 1) d := fun e0 => by rw [← eq, ← eq1, e0]
  rcases Nat.lt_or_ge x j with j0 | j0
  case inr =>
    have e0 : insInner ltInt x j g = g := by
      cases j with
      | zero => rfl
      | succ j => unfold insInner; rw [if_neg]; simp; omega
    (refine Go.run (g:=?_))
    refine Go.again (i + 1, g, H1) ⟨by simp only; omega, by simp only; omega, hg, kp1, sv1, done e0⟩ (by simp only; omega) ⟨rfl, rfl, rfl, rfl, trivial⟩ rfl rfl
  have c1 : (ksU g)[j]? = some (.int .u16 g[j]!) := ksU_get (by omega)
  have c2 : (ksU g)[j - 1]? = some (.int .u16 g[j - 1]!) := ksU_get (by omega)
  have hl := ksU_len g
  (refine Go.run (g:=?_))
  refine GoR.call rfl rfl rfl rfl rfl rfl rfl (((lessU_spec _ _ _).argA).mono ?_)
  rintro _ H2 ⟨rfl, rfl⟩ -
  have un : insInner ltInt x j g = if decide (g[j]! < g[j - 1]!) = true then insInner ltInt x (j - 1) (swp g j (j - 1)) else g := by
    obtain ⟨k, rfl⟩ : ∃ k, j = k + 1 := ⟨j - 1, by omega⟩
    rw [insInner, show decide (k + 1 > x) = true from decide_eq_true (by omega), Bool.true_and]
    rfl
  cases hq : decide (g[j]! < g[j - 1]!) with
  | false =>
    rw [hq, if_neg (by decide)] at un
    (refine Go.run (g:=?_))
    refine Go.again (i + 1, g, H2) ⟨by simp only; omega, by simp only; omega, hg, kp1, sv1, done un⟩ (by simp only; omega) ⟨rfl, rfl, rfl, rfl, trivial⟩ rfl rfl
  | true =>
    rw [hq, if_pos rfl] at un
    (repeat (first|refine GoR.end ?_|(refine GoR.gd rfl ?_;first|refine GoR.wanted' rfl rfl rfl rfl (g:=?_)|refine GoR.unwanted' rfl rfl rfl rfl (hd:=rfl) (hN:=rfl) (g:=?_)|refine GoR.unwantedU rfl rfl rfl rfl rfl rfl ?_)|(refine GoR.kk 0 rfl ?_;first|refine GoR.move rfl rfl rfl rfl rfl ?_|refine GoR.assign rfl rfl rfl rfl rfl ?_)|(refine GoR.kk 1 rfl ?_;first|refine GoR.load' rfl rfl rfl rfl rfl (g:=?_)|refine GoR.loadA' rfl rfl rfl rfl rfl (hv:=rfl) (g:=?_)|refine GoR.loadV' rfl rfl rfl rfl rfl (g:=?_)|refine GoR.loadVN' rfl rfl rfl rfl rfl (g:=?_))|(refine GoR.kk 2 rfl ?_;first|refine GoR.store' rfl rfl rfl rfl rfl (hl:=rfl) (h1:=rfl) (h3:=rfl) (g:=?_))|(refine GoR.kk 3 rfl ?_;first|refine GoR.fieldAddr rfl rfl rfl rfl rfl ?_|refine GoR.indexN' rfl rfl rfl rfl rfl rfl (g:=?_)|refine GoR.indexNs' rfl rfl rfl rfl rfl rfl (g:=?_)|refine GoR.indexV' rfl rfl rfl rfl rfl rfl (g:=?_)|refine GoR.indexA' rfl rfl rfl rfl rfl rfl (g:=?_)|refine GoR.fieldV' rfl rfl rfl rfl rfl (g:=?_))|(refine GoR.kk 4 rfl ?_;first|refine GoR.eq rfl rfl rfl rfl rfl rfl ?_|refine GoR.ne rfl rfl rfl rfl rfl rfl ?_|refine GoR.lt rfl rfl rfl rfl rfl rfl ?_|refine GoR.le rfl rfl rfl rfl rfl rfl ?_|refine GoR.gt rfl rfl rfl rfl rfl rfl ?_|refine GoR.ge rfl rfl rfl rfl rfl rfl ?_|refine GoR.addN' rfl rfl rfl rfl rfl rfl (g:=?_)|refine GoR.subN' rfl rfl rfl rfl rfl rfl (g:=?_)|refine GoR.add' rfl rfl rfl rfl rfl rfl (g:=?_)|refine GoR.sub' rfl rfl rfl rfl rfl rfl (g:=?_)|refine GoR.addM' rfl rfl rfl rfl rfl rfl (g:=?_)|refine GoR.subM' rfl rfl rfl rfl rfl rfl (g:=?_)|refine GoR.mulM' rfl rfl rfl rfl rfl rfl (g:=?_)|refine GoR.shrN rfl rfl rfl rfl rfl rfl rfl ?_|refine GoR.structEq rfl rfl rfl rfl rfl rfl (by rfl) (by rfl) ?_|refine GoR.structNe rfl rfl rfl rfl rfl rfl (by rfl) (by rfl) ?_|refine GoR.strEq rfl rfl rfl rfl rfl rfl ?_|refine GoR.strNe rfl rfl rfl rfl rfl rfl ?_|refine GoR.remN' rfl rfl rfl rfl rfl rfl (g:=?_)|refine GoR.quoN' rfl rfl rfl rfl rfl rfl (g:=?_)|refine GoR.shlN' rfl rfl rfl rfl rfl rfl rfl (g:=?_)|refine GoR.orN' rfl rfl rfl rfl rfl rfl (g:=?_))|(refine GoR.kk 5 rfl ?_;first|refine GoR.len rfl rfl rfl rfl rfl ?_|refine GoR.lenStr rfl rfl rfl rfl rfl ?_|refine GoR.capB rfl rfl rfl rfl rfl ?_)|(refine GoR.kk 7 rfl ?_;first|refine GoR.pickE' rfl rfl rfl rfl rfl (hx:=rfl) (hy:=rfl) (g:=?_)|refine GoR.pickN' rfl rfl rfl rfl rfl (hx:=rfl) (hy:=rfl) (g:=?_)|refine GoR.pickB rfl rfl rfl rfl rfl rfl rfl ?_)|(refine GoR.kk 8 rfl ?_;first|refine GoR.boxA rfl rfl rfl rfl rfl ?_|refine GoR.boxS rfl rfl rfl rfl rfl rfl ?_|refine GoR.alloc rfl rfl rfl rfl ?_)|(refine GoR.kk 9 rfl ?_;first|refine GoR.strV' rfl rfl rfl rfl rfl (g:=?_)|refine GoR.conv_u8 rfl rfl rfl rfl rfl ?_|refine GoR.convW' rfl rfl rfl rfl rfl (g:=?_)|refine GoR.conv_u16 rfl rfl rfl rfl rfl ?_|refine GoR.conv_u32 rfl rfl rfl rfl rfl ?_)|(refine GoR.kk 10 rfl ?_;first|refine GoR.build' rfl rfl rfl rfl rfl rfl (g:=?_))|(refine GoR.kk 11 rfl ?_;first|refine GoR.extract rfl rfl rfl rfl rfl rfl ?_|refine GoR.not rfl rfl rfl rfl rfl ?_|refine GoR.nilCheck rfl rfl rfl rfl rfl ?_|refine GoR.nilCheckF rfl rfl rfl rfl rfl ?_|refine GoR.makeFunc rfl rfl rfl rfl rfl rfl ?_)|(refine Go.kk 0 rfl ?_;refine Go.seq ?_)|(refine Go.kk 1 rfl ?_;refine Go.region (by kernel_rfl) rfl ?_)|(refine Go.kk 3 rfl ?_;first|refine Go.cond_t' rfl (g:=?_)|refine Go.cond_f' rfl (g:=?_))|(refine Go.kk 4 rfl ?_;refine Go.block ?_)|(refine Go.kk 5 rfl ?_;first|refine Go.skip ?_|refine Go.ret ?_|refine Go.exit ?_|refine Go.scope ?_)|refine Go.leave_normal ?_|refine Go.leave_same ?_|refine Go.leave_ret ?_|refine Go.ret_code ?_|refine Go.exit_code ?_|refine Go.leave_other rfl ?_|refine Go.sc_normal ?_|refine Go.sc_ret ?_|refine Go.sc_exit ?_|refine Go.exit_back ?_|refine Go.ret_back ?_))
    refine Go.loud (by kernel_rfl) rfl ?_
    (refine Go.runL (g:=?_))
    refine GoL.store1' rfl rfl rfl rfl rfl rfl (hS := sv1) (hw := hW) (g:=?_)
    intro H3 sv3 k3 n3
    (refine Go.runL (g:=?_))
    refine GoL.store1' rfl rfl rfl rfl rfl rfl (hS := sv3) (hw := hW) (g:=?_)
    intro H4 sv4 k4 n4
    (refine Go.runL (g:=?_))
    (refine GoL.end_ (g:=?_))
    rw [ksU_swp] at sv4
    (refine Go.run (g:=?_))
    refine Go.again (j - 1, swp g j (j - 1), H4) ⟨by simp only; omega, by simp only; omega, by simp only [swp_size]; exact hg, (kp1.tr k3).tr k4, sv4, by simp only; rw [← un]; exact eq1⟩ (by simp only; omega) ⟨rfl, rfl, rfl, rfl, rfl, trivial⟩ rfl rfl
end Go.Proofs.Ytfcfgmhcphmefaa
namespace Go.Proofs.Ytfcfgmhcphmefaa
open Go.Sort
set_option maxRecDepth 100000
attribute [local irreducible] Go GoR GoL
set_option maxHeartbeats 16000000 in
theorem siftU_spec (a : Option Addr) (cap : Nat) (d : Array Int) (lo hi first : Nat) (hf : first + hi ≤ d.size) (hlo : lo ≤ 1000000) (hn : d.size ≤ 1000000) (h : AHeap) (hS : KvU h a cap d) : SortsU 89 a cap d [.int .i64 lo, .int .i64 hi, .int .i64 first] h (siftDown ltInt hi first lo d) := by
  unfold SortsU
  unfold KvU at hS
  generalize hL : d.size = L at *
  have hW : ∀ i ∈ blk a, i ∈ blk a ∨ h.n ≤ i := fun i hi => .inl hi
  (refine CallS.of4 Try.func89 rfl Try.ntmps89 Try.results89 rfl ?_)
  (refine Go.run (g:=?_))
  refine Go.loop (α := Nat × Array Int × AHeap) (fun s => [(8, .int .i64 s.1), (0, .slice a L cap), (2, .int .i64 hi), (3, .int .i64 first)]) (fun _ => []) (fun s => s.2.2) (fun s => s.1 ≤ 1000000 ∧ s.2.1.size = L ∧ Keeps (blk a) h s.2.2 ∧ Sv s.2.2 46 1 a L cap (ksU s.2.1) ∧ siftDown ltInt hi first s.1 s.2.1 = siftDown ltInt hi first lo d) (fun s => hi - s.1) (lo, d, h) ?_ ?_ rfl rfl ?_
  · exact ⟨hlo, hL, Keeps.rf _ _, hS, rfl⟩
  · exact ⟨rfl, rfl, rfl, rfl, trivial⟩
  rintro ⟨root, g, H⟩ ⟨hr, he, kp, sv, eq⟩
  simp only at hr he kp sv eq ⊢
  have hl := ksU_len g
  rw [siftDown] at eq
  rcases Nat.lt_or_ge (2 * root + 1) hi with i0 | i0
  case inr =>
    rw [dif_pos i0] at eq
    (refine Go.run (g:=?_))
    (first|refine Go.finT (by first|exact .inr rfl|exact .inl rfl) rfl ?_|refine Go.fin1 (by first|exact .inr rfl|exact .inl rfl) rfl (hq:=?_))
    exact ⟨rfl, by rw [← eq]; exact he, by rw [← eq]; exact sv⟩
  rw [dif_neg (by omega)] at eq
  rcases Nat.lt_or_ge (2 * root + 2) hi with i1 | i1
  case inr =>
    rw [show decide (2 * root + 1 + 1 < hi) = false from decide_eq_false (by omega), Bool.false_and, if_neg (by decide)] at eq
    have c1 : (ksU g)[first + root]? = some (.int .u16 g[first + root]!) := ksU_get (by omega)
    have c2 : (ksU g)[first + (2 * root + 1)]? = some (.int .u16 g[first + (2 * root + 1)]!) := ksU_get (by omega)
    (refine Go.run (g:=?_))
    refine GoR.call rfl rfl rfl rfl rfl rfl rfl (((lessU_spec _ _ _).argA).mono ?_)
    rintro _ H2 ⟨rfl, rfl⟩ -
    cases hq : decide (g[first + root]! < g[first + (2 * root + 1)]!) with
    | false =>
      rw [show ltInt g[first + root]! g[first + (2 * root + 1)]! = false from hq] at eq
      have eq : g = siftDown ltInt hi first lo d := by simpa using eq
      (refine Go.run (g:=?_))
      (first|refine Go.finT (by first|exact .inr rfl|exact .inl rfl) rfl ?_|refine Go.fin1 (by first|exact .inr rfl|exact .inl rfl) rfl (hq:=?_))
      exact ⟨rfl, by rw [← eq]; exact he, by rw [← eq]; exact sv⟩
    | true =>
      rw [show ltInt g[first + root]! g[first + (2 * root + 1)]! = true from hq] at eq
      have eq : siftDown ltInt hi first (2 * root + 1) (swp g (first + root) (first + (2 * root + 1))) = siftDown ltInt hi first lo d := by
        simpa (disch := omega) [show (2 * root + 1) < hi from by omega] using eq
      (repeat (first|refine GoR.end ?_|(refine GoR.gd rfl ?_;first|refine GoR.wanted' rfl rfl rfl rfl (g:=?_)|refine GoR.unwanted' rfl rfl rfl rfl (hd:=rfl) (hN:=rfl) (g:=?_)|refine GoR.unwantedU rfl rfl rfl rfl rfl rfl ?_)|(refine GoR.kk 0 rfl ?_;first|refine GoR.move rfl rfl rfl rfl rfl ?_|refine GoR.assign rfl rfl rfl rfl rfl ?_)|(refine GoR.kk 1 rfl ?_;first|refine GoR.load' rfl rfl rfl rfl rfl (g:=?_)|refine GoR.loadA' rfl rfl rfl rfl rfl (hv:=rfl) (g:=?_)|refine GoR.loadV' rfl rfl rfl rfl rfl (g:=?_)|refine GoR.loadVN' rfl rfl rfl rfl rfl (g:=?_))|(refine GoR.kk 2 rfl ?_;first|refine GoR.store' rfl rfl rfl rfl rfl (hl:=rfl) (h1:=rfl) (h3:=rfl) (g:=?_))|(refine GoR.kk 3 rfl ?_;first|refine GoR.fieldAddr rfl rfl rfl rfl rfl ?_|refine GoR.indexN' rfl rfl rfl rfl rfl rfl (g:=?_)|refine GoR.indexNs' rfl rfl rfl rfl rfl rfl (g:=?_)|refine GoR.indexV' rfl rfl rfl rfl rfl rfl (g:=?_)|refine GoR.indexA' rfl rfl rfl rfl rfl rfl (g:=?_)|refine GoR.fieldV' rfl rfl rfl rfl rfl (g:=?_))|(refine GoR.kk 4 rfl ?_;first|refine GoR.eq rfl rfl rfl rfl rfl rfl ?_|refine GoR.ne rfl rfl rfl rfl rfl rfl ?_|refine GoR.lt rfl rfl rfl rfl rfl rfl ?_|refine GoR.le rfl rfl rfl rfl rfl rfl ?_|refine GoR.gt rfl rfl rfl rfl rfl rfl ?_|refine GoR.ge rfl rfl rfl rfl rfl rfl ?_|refine GoR.addN' rfl rfl rfl rfl rfl rfl (g:=?_)|refine GoR.subN' rfl rfl rfl rfl rfl rfl (g:=?_)|refine GoR.add' rfl rfl rfl rfl rfl rfl (g:=?_)|refine GoR.sub' rfl rfl rfl rfl rfl rfl (g:=?_)|refine GoR.addM' rfl rfl rfl rfl rfl rfl (g:=?_)|refine GoR.subM' rfl rfl rfl rfl rfl rfl (g:=?_)|refine GoR.mulM' rfl rfl rfl rfl rfl rfl (g:=?_)|refine GoR.shrN rfl rfl rfl rfl rfl rfl rfl ?_|refine GoR.structEq rfl rfl rfl rfl rfl rfl (by rfl) (by rfl) ?_|refine GoR.structNe rfl rfl rfl rfl rfl rfl (by rfl) (by rfl) ?_|refine GoR.strEq rfl rfl rfl rfl rfl rfl ?_|refine GoR.strNe rfl rfl rfl rfl rfl rfl ?_|refine GoR.remN' rfl rfl rfl rfl rfl rfl (g:=?_)|refine GoR.quoN' rfl rfl rfl rfl rfl rfl (g:=?_)|refine GoR.shlN' rfl rfl rfl rfl rfl rfl rfl (g:=?_)|refine GoR.orN' rfl rfl rfl rfl rfl rfl (g:=?_))|(refine GoR.kk 5 rfl ?_;first|refine GoR.len rfl rfl rfl rfl rfl ?_|refine GoR.lenStr rfl rfl rfl rfl rfl ?_|refine GoR.capB rfl rfl rfl rfl rfl ?_)|(refine GoR.kk 7 rfl ?_;first|refine GoR.pickE' rfl rfl rfl rfl rfl (hx:=rfl) (hy:=rfl) (g:=?_)|refine GoR.pickN' rfl rfl rfl rfl rfl (hx:=rfl) (hy:=rfl) (g:=?_)|refine GoR.pickB rfl rfl rfl rfl rfl rfl rfl ?_)|(refine GoR.kk 8 rfl ?_;first|refine GoR.boxA rfl rfl rfl rfl rfl ?_|refine GoR.boxS rfl rfl rfl rfl rfl rfl ?_|refine GoR.alloc rfl rfl rfl rfl ?_)|(refine GoR.kk 9 rfl ?_;first|refine GoR.strV' rfl rfl rfl rfl rfl (g:=?_)|refine GoR.conv_u8 rfl rfl rfl rfl rfl ?_|refine GoR.convW' rfl rfl rfl rfl rfl (g:=?_)|refine GoR.conv_u16 rfl rfl rfl rfl rfl ?_|refine GoR.conv_u32 rfl rfl rfl rfl rfl ?_)|(refine GoR.kk 10 rfl ?_;first|refine GoR.build' rfl rfl rfl rfl rfl rfl (g:=?_))|(refine GoR.kk 11 rfl ?_;first|refine GoR.extract rfl rfl rfl rfl rfl rfl ?_|refine GoR.not rfl rfl rfl rfl rfl ?_|refine GoR.nilCheck rfl rfl rfl rfl rfl ?_|refine GoR.nilCheckF rfl rfl rfl rfl rfl ?_|refine GoR.makeFunc rfl rfl rfl rfl rfl rfl ?_)|(refine Go.kk 0 rfl ?_;refine Go.seq ?_)|(refine Go.kk 1 rfl ?_;refine Go.region (by kernel_rfl) rfl ?_)|(refine Go.kk 3 rfl ?_;first|refine Go.cond_t' rfl (g:=?_)|refine Go.cond_f' rfl (g:=?_))|(refine Go.kk 4 rfl ?_;refine Go.block ?_)|(refine Go.kk 5 rfl ?_;first|refine Go.skip ?_|refine Go.ret ?_|refine Go.exit ?_|refine Go.scope ?_)|refine Go.leave_normal ?_|refine Go.leave_same ?_|refine Go.leave_ret ?_|refine Go.ret_code ?_|refine Go.exit_code ?_|refine Go.leave_other rfl ?_|refine Go.sc_normal ?_|refine Go.sc_ret ?_|refine Go.sc_exit ?_|refine Go.exit_back ?_|refine Go.ret_back ?_))
      refine Go.loud (by kernel_rfl) rfl ?_
      (refine Go.runL (g:=?_))
      refine GoL.store1' rfl rfl rfl rfl rfl rfl (hS := sv) (hw := hW) (g:=?_)
      intro H3 sv3 k3 n3
      (refine Go.runL (g:=?_))
      refine GoL.store1' rfl rfl rfl rfl rfl rfl (hS := sv3) (hw := hW) (g:=?_)
      intro H4 sv4 k4 n4
      (refine Go.runL (g:=?_))
      (refine GoL.end_ (g:=?_))
      rw [ksU_swp] at sv4
      (refine Go.run (g:=?_))
      refine Go.again (2 * root + 1, swp g (first + root) (first + (2 * root + 1)), H4) ⟨by simp only; omega, by simp only [swp_size]; exact he, (kp.tr k3).tr k4, sv4, eq⟩ (by simp only; omega) ⟨rfl, rfl, rfl, rfl, trivial⟩ rfl rfl
  have c3 : (ksU g)[first + (2 * root + 1)]? = some (.int .u16 g[first + (2 * root + 1)]!) := ksU_get (by omega)
  have c4 : (ksU g)[first + (2 * root + 1) + 1]? = some (.int .u16 g[first + (2 * root + 1) + 1]!) := ksU_get (by omega)
  rw [show decide (2 * root + 1 + 1 < hi) = true from decide_eq_true (by omega), Bool.true_and] at eq
  (refine Go.run (g:=?_))
  refine GoR.call rfl rfl rfl rfl rfl rfl rfl (((lessU_spec _ _ _).argA).mono ?_)
  rintro _ H1 ⟨rfl, rfl⟩ -
  cases hc : decide (g[first + (2 * root + 1)]! < g[first + (2 * root + 1) + 1]!) with
  | false =>
    rw [show ltInt g[first + (2 * root + 1)]! g[first + (2 * root + 1) + 1]! = false from hc, if_neg (by decide)] at eq
    clear c3 c4
    have c1 : (ksU g)[first + root]? = some (.int .u16 g[first + root]!) := ksU_get (by omega)
    have c2 : (ksU g)[first + (2 * root + 1)]? = some (.int .u16 g[first + (2 * root + 1)]!) := ksU_get (by omega)
    (refine Go.run (g:=?_))
    refine GoR.call rfl rfl rfl rfl rfl rfl rfl (((lessU_spec _ _ _).argA).mono ?_)
    rintro _ H2 ⟨rfl, rfl⟩ -
    cases hq : decide (g[first + root]! < g[first + (2 * root + 1)]!) with
    | false =>
      rw [show ltInt g[first + root]! g[first + (2 * root + 1)]! = false from hq] at eq
      have eq : g = siftDown ltInt hi first lo d := by simpa using eq
      (refine Go.run (g:=?_))
      (first|refine Go.finT (by first|exact .inr rfl|exact .inl rfl) rfl ?_|refine Go.fin1 (by first|exact .inr rfl|exact .inl rfl) rfl (hq:=?_))
      exact ⟨rfl, by rw [← eq]; exact he, by rw [← eq]; exact sv⟩
    | true =>
      rw [show ltInt g[first + root]! g[first + (2 * root + 1)]! = true from hq] at eq
      have eq : siftDown ltInt hi first (2 * root + 1) (swp g (first + root) (first + (2 * root + 1))) = siftDown ltInt hi first lo d := by
        simpa (disch := omega) [show (2 * root + 1) < hi from by omega] using eq
      (repeat (first|refine GoR.end ?_|(refine GoR.gd rfl ?_;first|refine GoR.wanted' rfl rfl rfl rfl (g:=?_)|refine GoR.unwanted' rfl rfl rfl rfl (hd:=rfl) (hN:=rfl) (g:=?_)|refine GoR.unwantedU rfl rfl rfl rfl rfl rfl ?_)|(refine GoR.kk 0 rfl ?_;first|refine GoR.move rfl rfl rfl rfl rfl ?_|refine GoR.assign rfl rfl rfl rfl rfl ?_)|(refine GoR.kk 1 rfl ?_;first|refine GoR.load' rfl rfl rfl rfl rfl (g:=?_)|refine GoR.loadA' rfl rfl rfl rfl rfl (hv:=rfl) (g:=?_)|refine GoR.loadV' rfl rfl rfl rfl rfl (g:=?_)|refine GoR.loadVN' rfl rfl rfl rfl rfl (g:=?_))|(refine GoR.kk 2 rfl ?_;first|refine GoR.store' rfl rfl rfl rfl rfl (hl:=rfl) (h1:=rfl) (h3:=rfl) (g:=?_))|(refine GoR.kk 3 rfl ?_;first|refine GoR.fieldAddr rfl rfl rfl rfl rfl ?_|refine GoR.indexN' rfl rfl rfl rfl rfl rfl (g:=?_)|refine GoR.indexNs' rfl rfl rfl rfl rfl rfl (g:=?_)|refine GoR.indexV' rfl rfl rfl rfl rfl rfl (g:=?_)|refine GoR.indexA' rfl rfl rfl rfl rfl rfl (g:=?_)|refine GoR.fieldV' rfl rfl rfl rfl rfl (g:=?_))|(refine GoR.kk 4 rfl ?_;first|refine GoR.eq rfl rfl rfl rfl rfl rfl ?_|refine GoR.ne rfl rfl rfl rfl rfl rfl ?_|refine GoR.lt rfl rfl rfl rfl rfl rfl ?_|refine GoR.le rfl rfl rfl rfl rfl rfl ?_|refine GoR.gt rfl rfl rfl rfl rfl rfl ?_|refine GoR.ge rfl rfl rfl rfl rfl rfl ?_|refine GoR.addN' rfl rfl rfl rfl rfl rfl (g:=?_)|refine GoR.subN' rfl rfl rfl rfl rfl rfl (g:=?_)|refine GoR.add' rfl rfl rfl rfl rfl rfl (g:=?_)|refine GoR.sub' rfl rfl rfl rfl rfl rfl (g:=?_)|refine GoR.addM' rfl rfl rfl rfl rfl rfl (g:=?_)|refine GoR.subM' rfl rfl rfl rfl rfl rfl (g:=?_)|refine GoR.mulM' rfl rfl rfl rfl rfl rfl (g:=?_)|refine GoR.shrN rfl rfl rfl rfl rfl rfl rfl ?_|refine GoR.structEq rfl rfl rfl rfl rfl rfl (by rfl) (by rfl) ?_|refine GoR.structNe rfl rfl rfl rfl rfl rfl (by rfl) (by rfl) ?_|refine GoR.strEq rfl rfl rfl rfl rfl rfl ?_|refine GoR.strNe rfl rfl rfl rfl rfl rfl ?_|refine GoR.remN' rfl rfl rfl rfl rfl rfl (g:=?_)|refine GoR.quoN' rfl rfl rfl rfl rfl rfl (g:=?_)|refine GoR.shlN' rfl rfl rfl rfl rfl rfl rfl (g:=?_)|refine GoR.orN' rfl rfl rfl rfl rfl rfl (g:=?_))|(refine GoR.kk 5 rfl ?_;first|refine GoR.len rfl rfl rfl rfl rfl ?_|refine GoR.lenStr rfl rfl rfl rfl rfl ?_|refine GoR.capB rfl rfl rfl rfl rfl ?_)|(refine GoR.kk 7 rfl ?_;first|refine GoR.pickE' rfl rfl rfl rfl rfl (hx:=rfl) (hy:=rfl) (g:=?_)|refine GoR.pickN' rfl rfl rfl rfl rfl (hx:=rfl) (hy:=rfl) (g:=?_)|refine GoR.pickB rfl rfl rfl rfl rfl rfl rfl ?_)|(refine GoR.kk 8 rfl ?_;first|refine GoR.boxA rfl rfl rfl rfl rfl ?_|refine GoR.boxS rfl rfl rfl rfl rfl rfl ?_|refine GoR.alloc rfl rfl rfl rfl ?_)|(refine GoR.kk 9 rfl ?_;first|refine GoR.strV' rfl rfl rfl rfl rfl (g:=?_)|refine GoR.conv_u8 rfl rfl rfl rfl rfl ?_|refine GoR.convW' rfl rfl rfl rfl rfl (g:=?_)|refine GoR.conv_u16 rfl rfl rfl rfl rfl ?_|refine GoR.conv_u32 rfl rfl rfl rfl rfl ?_)|(refine GoR.kk 10 rfl ?_;first|refine GoR.build' rfl rfl rfl rfl rfl rfl (g:=?_))|(refine GoR.kk 11 rfl ?_;first|refine GoR.extract rfl rfl rfl rfl rfl rfl ?_|refine GoR.not rfl rfl rfl rfl rfl ?_|refine GoR.nilCheck rfl rfl rfl rfl rfl ?_|refine GoR.nilCheckF rfl rfl rfl rfl rfl ?_|refine GoR.makeFunc rfl rfl rfl rfl rfl rfl ?_)|(refine Go.kk 0 rfl ?_;refine Go.seq ?_)|(refine Go.kk 1 rfl ?_;refine Go.region (by kernel_rfl) rfl ?_)|(refine Go.kk 3 rfl ?_;first|refine Go.cond_t' rfl (g:=?_)|refine Go.cond_f' rfl (g:=?_))|(refine Go.kk 4 rfl ?_;refine Go.block ?_)|(refine Go.kk 5 rfl ?_;first|refine Go.skip ?_|refine Go.ret ?_|refine Go.exit ?_|refine Go.scope ?_)|refine Go.leave_normal ?_|refine Go.leave_same ?_|refine Go.leave_ret ?_|refine Go.ret_code ?_|refine Go.exit_code ?_|refine Go.leave_other rfl ?_|refine Go.sc_normal ?_|refine Go.sc_ret ?_|refine Go.sc_exit ?_|refine Go.exit_back ?_|refine Go.ret_back ?_))
      refine Go.loud (by kernel_rfl) rfl ?_
      (refine Go.runL (g:=?_))
      refine GoL.store1' rfl rfl rfl rfl rfl rfl (hS := sv) (hw := hW) (g:=?_)
      intro H3 sv3 k3 n3
      (refine Go.runL (g:=?_))
      refine GoL.store1' rfl rfl rfl rfl rfl rfl (hS := sv3) (hw := hW) (g:=?_)
      intro H4 sv4 k4 n4
      (refine Go.runL (g:=?_))
      (refine GoL.end_ (g:=?_))
      rw [ksU_swp] at sv4
      (refine Go.run (g:=?_))
      refine Go.again (2 * root + 1, swp g (first + root) (first + (2 * root + 1)), H4) ⟨by simp only; omega, by simp only [swp_size]; exact he, (kp.tr k3).tr k4, sv4, eq⟩ (by simp only; omega) ⟨rfl, rfl, rfl, rfl, trivial⟩ rfl rfl
  | true =>
    rw [show ltInt g[first + (2 * root + 1)]! g[first + (2 * root + 1) + 1]! = true from hc, if_pos rfl] at eq
    simp only [show 2 * root + 2 = 2 * root + 1 + 1 from rfl] at eq
    clear c3 c4
    have c1 : (ksU g)[first + root]? = some (.int .u16 g[first + root]!) := ksU_get (by omega)
    have c2 : (ksU g)[first + (2 * root + 1 + 1)]? = some (.int .u16 g[first + (2 * root + 1 + 1)]!) := ksU_get (by omega)
    (refine Go.run (g:=?_))
    refine GoR.call rfl rfl rfl rfl rfl rfl rfl (((lessU_spec _ _ _).argA).mono ?_)
    rintro _ H2 ⟨rfl, rfl⟩ -
    cases hq : decide (g[first + root]! < g[first + (2 * root + 1 + 1)]!) with
    | false =>
      rw [show ltInt g[first + root]! g[first + (2 * root + 1 + 1)]! = false from hq] at eq
      have eq : g = siftDown ltInt hi first lo d := by simpa using eq
      (refine Go.run (g:=?_))
      (first|refine Go.finT (by first|exact .inr rfl|exact .inl rfl) rfl ?_|refine Go.fin1 (by first|exact .inr rfl|exact .inl rfl) rfl (hq:=?_))
      exact ⟨rfl, by rw [← eq]; exact he, by rw [← eq]; exact sv⟩
    | true =>
      rw [show ltInt g[first + root]! g[first + (2 * root + 1 + 1)]! = true from hq] at eq
      have eq : siftDown ltInt hi first (2 * root + 1 + 1) (swp g (first + root) (first + (2 * root + 1 + 1))) = siftDown ltInt hi first lo d := by
        simpa (disch := omega) [show (2 * root + 1 + 1) < hi from by omega] using eq
      (repeat (first|refine GoR.end ?_|(refine GoR.gd rfl ?_;first|refine GoR.wanted' rfl rfl rfl rfl (g:=?_)|refine GoR.unwanted' rfl rfl rfl rfl (hd:=rfl) (hN:=rfl) (g:=?_)|refine GoR.unwantedU rfl rfl rfl rfl rfl rfl ?_)|(refine GoR.kk 0 rfl ?_;first|refine GoR.move rfl rfl rfl rfl rfl ?_|refine GoR.assign rfl rfl rfl rfl rfl ?_)|(refine GoR.kk 1 rfl ?_;first|refine GoR.load' rfl rfl rfl rfl rfl (g:=?_)|refine GoR.loadA' rfl rfl rfl rfl rfl (hv:=rfl) (g:=?_)|refine GoR.loadV' rfl rfl rfl rfl rfl (g:=?_)|refine GoR.loadVN' rfl rfl rfl rfl rfl (g:=?_))|(refine GoR.kk 2 rfl ?_;first|refine GoR.store' rfl rfl rfl rfl rfl (hl:=rfl) (h1:=rfl) (h3:=rfl) (g:=?_))|(refine GoR.kk 3 rfl ?_;first|refine GoR.fieldAddr rfl rfl rfl rfl rfl ?_|refine GoR.indexN' rfl rfl rfl rfl rfl rfl (g:=?_)|refine GoR.indexNs' rfl rfl rfl rfl rfl rfl (g:=?_)|refine GoR.indexV' rfl rfl rfl rfl rfl rfl (g:=?_)|refine GoR.indexA' rfl rfl rfl rfl rfl rfl (g:=?_)|refine GoR.fieldV' rfl rfl rfl rfl rfl (g:=?_))|(refine GoR.kk 4 rfl ?_;first|refine GoR.eq rfl rfl rfl rfl rfl rfl ?_|refine GoR.ne rfl rfl rfl rfl rfl rfl ?_|refine GoR.lt rfl rfl rfl rfl rfl rfl ?_|refine GoR.le rfl rfl rfl rfl rfl rfl ?_|refine GoR.gt rfl rfl rfl rfl rfl rfl ?_|refine GoR.ge rfl rfl rfl rfl rfl rfl ?_|refine GoR.addN' rfl rfl rfl rfl rfl rfl (g:=?_)|refine GoR.subN' rfl rfl rfl rfl rfl rfl (g:=?_)|refine GoR.add' rfl rfl rfl rfl rfl rfl (g:=?_)|refine GoR.sub' rfl rfl rfl rfl rfl rfl (g:=?_)|refine GoR.addM' rfl rfl rfl rfl rfl rfl (g:=?_)|refine GoR.subM' rfl rfl rfl rfl rfl rfl (g:=?_)|refine GoR.mulM' rfl rfl rfl rfl rfl rfl (g:=?_)|refine GoR.shrN rfl rfl rfl rfl rfl rfl rfl ?_|refine GoR.structEq rfl rfl rfl rfl rfl rfl (by rfl) (by rfl) ?_|refine GoR.structNe rfl rfl rfl rfl rfl rfl (by rfl) (by rfl) ?_|refine GoR.strEq rfl rfl rfl rfl rfl rfl ?_|refine GoR.strNe rfl rfl rfl rfl rfl rfl ?_|refine GoR.remN' rfl rfl rfl rfl rfl rfl (g:=?_)|refine GoR.quoN' rfl rfl rfl rfl rfl rfl (g:=?_)|refine GoR.shlN' rfl rfl rfl rfl rfl rfl rfl (g:=?_)|refine GoR.orN' rfl rfl rfl rfl rfl rfl (g:=?_))|(refine GoR.kk 5 rfl ?_;first|refine GoR.len rfl rfl rfl rfl rfl ?_|refine GoR.lenStr rfl rfl rfl rfl rfl ?_|refine GoR.capB rfl rfl rfl rfl rfl ?_)|(refine GoR.kk 7 rfl ?_;first|refine GoR.pickE' rfl rfl rfl rfl rfl (hx:=rfl) (hy:=rfl) (g:=?_)|refine GoR.pickN' rfl rfl rfl rfl rfl (hx:=rfl) (hy:=rfl) (g:=?_)|refine GoR.pickB rfl rfl rfl rfl rfl rfl rfl ?_)|(refine GoR.kk 8 rfl ?_;first|refine GoR.boxA rfl rfl rfl rfl rfl ?_|refine GoR.boxS rfl rfl rfl rfl rfl rfl ?_|refine GoR.alloc rfl rfl rfl rfl ?_)|(refine GoR.kk 9 rfl ?_;first|refine GoR.strV' rfl rfl rfl rfl rfl (g:=?_)|refine GoR.conv_u8 rfl rfl rfl rfl rfl ?_|refine GoR.convW' rfl rfl rfl rfl rfl (g:=?_)|refine GoR.conv_u16 rfl rfl rfl rfl rfl ?_|refine GoR.conv_u32 rfl rfl rfl rfl rfl ?_)|(refine GoR.kk 10 rfl ?_;first|refine GoR.build' rfl rfl rfl rfl rfl rfl (g:=?_))|(refine GoR.kk 11 rfl ?_;first|refine GoR.extract rfl rfl rfl rfl rfl rfl ?_|refine GoR.not rfl rfl rfl rfl rfl ?_|refine GoR.nilCheck rfl rfl rfl rfl rfl ?_|refine GoR.nilCheckF rfl rfl rfl rfl rfl ?_|refine GoR.makeFunc rfl rfl rfl rfl rfl rfl ?_)|(refine Go.kk 0 rfl ?_;refine Go.seq ?_)|(refine Go.kk 1 rfl ?_;refine Go.region (by kernel_rfl) rfl ?_)|(refine Go.kk 3 rfl ?_;first|refine Go.cond_t' rfl (g:=?_)|refine Go.cond_f' rfl (g:=?_))|(refine Go.kk 4 rfl ?_;refine Go.block ?_)|(refine Go.kk 5 rfl ?_;first|refine Go.skip ?_|refine Go.ret ?_|refine Go.exit ?_|refine Go.scope ?_)|refine Go.leave_normal ?_|refine Go.leave_same ?_|refine Go.leave_ret ?_|refine Go.ret_code ?_|refine Go.exit_code ?_|refine Go.leave_other rfl ?_|refine Go.sc_normal ?_|refine Go.sc_ret ?_|refine Go.sc_exit ?_|refine Go.exit_back ?_|refine Go.ret_back ?_))
      refine Go.loud (by kernel_rfl) rfl ?_
      (refine Go.runL (g:=?_))
      refine GoL.store1' rfl rfl rfl rfl rfl rfl (hS := sv) (hw := hW) (g:=?_)
      intro H3 sv3 k3 n3
      (refine Go.runL (g:=?_))
      refine GoL.store1' rfl rfl rfl rfl rfl rfl (hS := sv3) (hw := hW) (g:=?_)
      intro H4 sv4 k4 n4
      (refine Go.runL (g:=?_))
      (refine GoL.end_ (g:=?_))
      rw [ksU_swp] at sv4
      (refine Go.run (g:=?_))
      refine Go.again (2 * root + 1 + 1, swp g (first + root) (first + (2 * root + 1 + 1)), H4) ⟨by simp only; omega, by simp only [swp_size]; exact he, (kp.tr k3).tr k4, sv4, eq⟩ (by simp only; omega) ⟨rfl, rfl, rfl, rfl, trivial⟩ rfl rfl
set_option maxHeartbeats 16000000 in
theorem heapU_spec (a : Option Addr) (cap : Nat) (d : Array Int) (x y : Nat) (hxy : x < y) (hy : y ≤ d.size) (hn : d.size ≤ 1000000) (h : AHeap) (hS : KvU h a cap d) : SortsU 68 a cap d [.int .i64 x, .int .i64 y] h (heapSort ltInt d x y) := by
  unfold SortsU heapSort
  unfold KvU at hS
  generalize hL : d.size = L at *
  have hW : ∀ i ∈ blk a, i ∈ blk a ∨ h.n ≤ i := fun i hi => .inl hi
  obtain ⟨n, hyn⟩ : ∃ n, n = y - x := ⟨_, rfl⟩
  have hn1 : 1 ≤ n := by omega
  have hnx : x + n ≤ L := by omega
  rw [← hyn]
  (refine CallS.of3 Try.func68 rfl Try.ntmps68 Try.results68 rfl ?_)
  (refine Go.run (g:=?_))
  rw [← hyn]
  (refine Go.run (g:=?_))
  refine Go.loop (α := Int × Array Int × AHeap) (fun s => [(9, .int .i64 s.1), (8, .int .i64 n), (7, .int .i64 0), (6, .int .i64 x), (0, .slice a L cap)]) (fun _ => []) (fun s => s.2.2) (fun s => -1 ≤ s.1 ∧ s.1 < n ∧ s.2.1.size = L ∧ Keeps (blk a) h s.2.2 ∧ Sv s.2.2 46 1 a L cap (ksU s.2.1) ∧ heapBuild ltInt n x (s.1 + 1).toNat s.2.1 = heapBuild ltInt n x ((n - 1) / 2 + 1) d) (fun s => (s.1 + 1).toNat) (((n - 1) / 2 : Nat), d, h) ?_ ?_ rfl rfl ?_
  · exact ⟨by simp only; omega, by simp only; omega, hL, Keeps.rf _ _, hS, rfl⟩
  · exact ⟨rfl, rfl, rfl, rfl, rfl, trivial⟩
  rintro ⟨i, g, H⟩ ⟨hi0, hi1, he, kp, sv, eq⟩
  simp only at hi0 hi1 he kp sv eq ⊢
  rcases Int.lt_or_le i 0 with i0 | i0
  case inr =>
    obtain ⟨m, rfl⟩ : ∃ m : Nat, i = m := ⟨i.toNat, by omega⟩
    rw [show ((m : Int) + 1).toNat = m + 1 from by omega, heapBuild] at eq
    subst he
    (refine Go.run (g:=?_))
    refine GoR.callW rfl rfl rfl rfl rfl rfl rfl (((siftU_spec a cap g m n x (by omega) (by omega) (by omega) _ sv).argA).mono ?_)
    rintro _ H1 ⟨rfl, e1, sv1⟩ k1
    refine ⟨hW, ?_⟩
    (refine Go.run (g:=?_))
    refine Go.again ((m : Int) - 1, siftDown ltInt n x m g, H1) ⟨by simp only; omega, by simp only; omega, e1, kp.tr k1, sv1, by simp only; rw [← eq]; congr 1; omega⟩ (by simp only; omega) ⟨rfl, rfl, rfl, rfl, rfl, trivial⟩ rfl rfl
  obtain rfl : i = -1 := by omega
  have eq : g = heapBuild ltInt n x ((n - 1) / 2 + 1) d := by rw [← eq]; rfl
  rw [← eq]
  clear eq
  (refine Go.run (g:=?_))
  refine Go.loop (α := Int × Array Int × AHeap) (fun s => [(10, .int .i64 s.1), (8, .int .i64 n), (7, .int .i64 0), (6, .int .i64 x), (0, .slice a L cap)]) (fun _ => []) (fun s => s.2.2) (fun s => -1 ≤ s.1 ∧ s.1 < n ∧ s.2.1.size = L ∧ Keeps (blk a) h s.2.2 ∧ Sv s.2.2 46 1 a L cap (ksU s.2.1) ∧ heapPop ltInt x (s.1 + 1).toNat s.2.1 = heapPop ltInt x n g) (fun s => (s.1 + 1).toNat) ((n - 1 : Nat), g, H) ?_ ?_ rfl rfl ?_
  · exact ⟨by simp only; omega, by simp only; omega, he, kp, sv, by simp only; rw [show (((n - 1 : Nat) : Int) + 1).toNat = n from by omega]⟩
  · exact ⟨rfl, rfl, rfl, rfl, rfl, trivial⟩
  clear he kp sv
  rintro ⟨i, e, H0⟩ ⟨hi0, hi1, he, kp, sv, eq⟩
  simp only at hi0 hi1 he kp sv eq ⊢
  rcases Int.lt_or_le i 0 with i0 | i0
  case inl =>
    obtain rfl : i = -1 := by omega
    have eq : e = heapPop ltInt x n g := by rw [← eq]; rfl
    (refine Go.run (g:=?_))
    (first|refine Go.finT (by first|exact .inr rfl|exact .inl rfl) rfl ?_|refine Go.fin1 (by first|exact .inr rfl|exact .inl rfl) rfl (hq:=?_))
    exact ⟨rfl, by rw [← eq]; exact he, by rw [← eq]; exact sv⟩
  obtain ⟨m, rfl⟩ : ∃ m : Nat, i = m := ⟨i.toNat, by omega⟩
  rw [show ((m : Int) + 1).toNat = m + 1 from by omega, heapPop] at eq
  have hl := ksU_len e
  have c1 : (ksU e)[x]? = some (.int .u16 e[x]!) := ksU_get (by omega)
  have c2 : (ksU e)[x + m]? = some (.int .u16 e[x + m]!) := ksU_get (by omega)
  (repeat (first|refine GoR.end ?_|(refine GoR.gd rfl ?_;first|refine GoR.wanted' rfl rfl rfl rfl (g:=?_)|refine GoR.unwanted' rfl rfl rfl rfl (hd:=rfl) (hN:=rfl) (g:=?_)|refine GoR.unwantedU rfl rfl rfl rfl rfl rfl ?_)|(refine GoR.kk 0 rfl ?_;first|refine GoR.move rfl rfl rfl rfl rfl ?_|refine GoR.assign rfl rfl rfl rfl rfl ?_)|(refine GoR.kk 1 rfl ?_;first|refine GoR.load' rfl rfl rfl rfl rfl (g:=?_)|refine GoR.loadA' rfl rfl rfl rfl rfl (hv:=rfl) (g:=?_)|refine GoR.loadV' rfl rfl rfl rfl rfl (g:=?_)|refine GoR.loadVN' rfl rfl rfl rfl rfl (g:=?_))|(refine GoR.kk 2 rfl ?_;first|refine GoR.store' rfl rfl rfl rfl rfl (hl:=rfl) (h1:=rfl) (h3:=rfl) (g:=?_))|(refine GoR.kk 3 rfl ?_;first|refine GoR.fieldAddr rfl rfl rfl rfl rfl ?_|refine GoR.indexN' rfl rfl rfl rfl rfl rfl (g:=?_)|refine GoR.indexNs' rfl rfl rfl rfl rfl rfl (g:=?_)|refine GoR.indexV' rfl rfl rfl rfl rfl rfl (g:=?_)|refine GoR.indexA' rfl rfl rfl rfl rfl rfl (g:=?_)|refine GoR.fieldV' rfl rfl rfl rfl rfl (g:=?_))|(refine GoR.kk 4 rfl ?_;first|refine GoR.eq rfl rfl rfl rfl rfl rfl ?_|refine GoR.ne rfl rfl rfl rfl rfl rfl ?_|refine GoR.lt rfl rfl rfl rfl rfl rfl ?_|refine GoR.le rfl rfl rfl rfl rfl rfl ?_|refine GoR.gt rfl rfl rfl rfl rfl rfl ?_|refine GoR.ge rfl rfl rfl rfl rfl rfl ?_|refine GoR.addN' rfl rfl rfl rfl rfl rfl (g:=?_)|refine GoR.subN' rfl rfl rfl rfl rfl rfl (g:=?_)|refine GoR.add' rfl rfl rfl rfl rfl rfl (g:=?_)|refine GoR.sub' rfl rfl rfl rfl rfl rfl (g:=?_)|refine GoR.addM' rfl rfl rfl rfl rfl rfl (g:=?_)|refine GoR.subM' rfl rfl rfl rfl rfl rfl (g:=?_)|refine GoR.mulM' rfl rfl rfl rfl rfl rfl (g:=?_)|refine GoR.shrN rfl rfl rfl rfl rfl rfl rfl ?_|refine GoR.structEq rfl rfl rfl rfl rfl rfl (by rfl) (by rfl) ?_|refine GoR.structNe rfl rfl rfl rfl rfl rfl (by rfl) (by rfl) ?_|refine GoR.strEq rfl rfl rfl rfl rfl rfl ?_|refine GoR.strNe rfl rfl rfl rfl rfl rfl ?_|refine GoR.remN' rfl rfl rfl rfl rfl rfl (g:=?_)|refine GoR.quoN' rfl rfl rfl rfl rfl rfl (g:=?_)|refine GoR.shlN' rfl rfl rfl rfl rfl rfl rfl (g:=?_)|refine GoR.orN' rfl rfl rfl rfl rfl rfl (g:=?_))|(refine GoR.kk 5 rfl ?_;first|refine GoR.len rfl rfl rfl rfl rfl ?_|refine GoR.lenStr rfl rfl rfl rfl rfl ?_|refine GoR.capB rfl rfl rfl rfl rfl ?_)|(refine GoR.kk 7 rfl ?_;first|refine GoR.pickE' rfl rfl rfl rfl rfl (hx:=rfl) (hy:=rfl) (g:=?_)|refine GoR.pickN' rfl rfl rfl rfl rfl (hx:=rfl) (hy:=rfl) (g:=?_)|refine GoR.pickB rfl rfl rfl rfl rfl rfl rfl ?_)|(refine GoR.kk 8 rfl ?_;first|refine GoR.boxA rfl rfl rfl rfl rfl ?_|refine GoR.boxS rfl rfl rfl rfl rfl rfl ?_|refine GoR.alloc rfl rfl rfl rfl ?_)|(refine GoR.kk 9 rfl ?_;first|refine GoR.strV' rfl rfl rfl rfl rfl (g:=?_)|refine GoR.conv_u8 rfl rfl rfl rfl rfl ?_|refine GoR.convW' rfl rfl rfl rfl rfl (g:=?_)|refine GoR.conv_u16 rfl rfl rfl rfl rfl ?_|refine GoR.conv_u32 rfl rfl rfl rfl rfl ?_)|(refine GoR.kk 10 rfl ?_;first|refine GoR.build' rfl rfl rfl rfl rfl rfl (g:=?_))|(refine GoR.kk 11 rfl ?_;first|refine GoR.extract rfl rfl rfl rfl rfl rfl ?_|refine GoR.not rfl rfl rfl rfl rfl ?_|refine GoR.nilCheck rfl rfl rfl rfl rfl ?_|refine GoR.nilCheckF rfl rfl rfl rfl rfl ?_|refine GoR.makeFunc rfl rfl rfl rfl rfl rfl ?_)|(refine Go.kk 0 rfl ?_;refine Go.seq ?_)|(refine Go.kk 1 rfl ?_;refine Go.region (by kernel_rfl) rfl ?_)|(refine Go.kk 3 rfl ?_;first|refine Go.cond_t' rfl (g:=?_)|refine Go.cond_f' rfl (g:=?_))|(refine Go.kk 4 rfl ?_;refine Go.block ?_)|(refine Go.kk 5 rfl ?_;first|refine Go.skip ?_|refine Go.ret ?_|refine Go.exit ?_|refine Go.scope ?_)|refine Go.leave_normal ?_|refine Go.leave_same ?_|refine Go.leave_ret ?_|refine Go.ret_code ?_|refine Go.exit_code ?_|refine Go.leave_other rfl ?_|refine Go.sc_normal ?_|refine Go.sc_ret ?_|refine Go.sc_exit ?_|refine Go.exit_back ?_|refine Go.ret_back ?_))
  refine Go.loud (by kernel_rfl) rfl ?_
  (refine Go.runL (g:=?_))
  refine GoL.store1' rfl rfl rfl rfl rfl rfl (hS := sv) (hw := hW) (g:=?_)
  intro H3 sv3 k3 n3
  (refine Go.runL (g:=?_))
  refine GoL.store1' rfl rfl rfl rfl rfl rfl (hS := sv3) (hw := hW) (g:=?_)
  intro H4 sv4 k4 n4
  (refine Go.runL (g:=?_))
  (refine GoL.end_ (g:=?_))
  rw [ksU_swp] at sv4
  have hz : (swp e x (x + m)).size = L := by rw [swp_size]; exact he
  rw [← hz] at sv4
  (refine Go.run (g:=?_))
  have ssp := siftU_spec a cap (swp e x (x + m)) 0 m x (by omega) (by omega) (by omega) _ sv4
  unfold SortsU at ssp
  rw [hz] at ssp
  refine GoR.callW rfl rfl rfl rfl rfl rfl rfl (((ssp).argA).mono ?_)
  rintro _ H5 ⟨rfl, e5, sv5⟩ k5
  refine ⟨hW, ?_⟩
  (refine Go.run (g:=?_))
  refine Go.again ((m : Int) - 1, siftDown ltInt m x 0 (swp e x (x + m)), H5) ⟨by simp only; omega, by simp only; omega, e5, ((kp.tr k3).tr k4).tr k5, sv5, by simp only; rw [← eq]; congr 1; omega⟩ (by simp only; omega) ⟨rfl, rfl, rfl, rfl, rfl, trivial⟩ rfl rfl
end Go.Proofs.Ytfcfgmhcphmefaa
namespace Go.Proofs.Ytfcfgmhcphmefaa
open Go.Sort
set_option maxRecDepth 100000
attribute [local irreducible] Go GoR GoL
abbrev Cell1 (h : AHeap) (sb : Nat) (s : Nat) : Prop := h.get sb = some (.cells [.int .i64 s] 3)
set_option maxHeartbeats 8000000 in
theorem ordU_spec (a : Option Addr) (cap : Nat) (d : Array Int) (x y sb s : Nat) (hx : x < d.size) (hy : y < d.size) (hn : d.size ≤ 1000000) (hs : s ≤ 100) (h : AHeap) (hS : KvU h a cap d) (hc : Cell1 h sb s) : CallS Try.prog [sb] 100 [.slice a d.size cap, .int .i64 x, .int .i64 y, .pointer (some ⟨sb, 0, none⟩)] h fun v h' => v = .tuple #[.int .i64 (order2 ltInt d x y s).1, .int .i64 (order2 ltInt d x y s).2.1] ∧ Cell1 h' sb (order2 ltInt d x y s).2.2 := by
  unfold KvU at hS
  have c1 : (ksU d)[x]? = some (.int .u16 d[x]!) := ksU_get (by omega)
  have c2 : (ksU d)[y]? = some (.int .u16 d[y]!) := ksU_get (by omega)
  generalize hL : d.size = L at *
  have hl := ksU_len d
  (refine CallS.of4 Try.func100 rfl Try.ntmps100 Try.results100 rfl ?_)
  (refine Go.run (g:=?_))
  refine GoR.call rfl rfl rfl rfl rfl rfl rfl (((lessU_spec _ _ _).argA).mono ?_)
  rintro _ H2 ⟨rfl, rfl⟩ -
  unfold order2
  cases hq : decide (d[y]! < d[x]!) with
  | false =>
    rw [show ltInt d[y]! d[x]! = false from hq, if_neg (by decide)]
    (refine Go.run (g:=?_))
    refine Go.fin (.inr rfl) (.tmp rfl (.tmp rfl .nil)) ?_
    exact ⟨rfl, hc⟩
  | true =>
    rw [show ltInt d[y]! d[x]! = true from hq, if_pos rfl]
    (refine Go.run (g:=?_))
    refine Go.fin (.inr rfl) (.tmp rfl (.tmp rfl .nil)) ?_
    exact ⟨rfl, get_put_self hc⟩
theorem ordU_fst (d : Array Int) (x y s : Nat) : ((order2 ltInt d x y s).1 = x ∧ (order2 ltInt d x y s).2.1 = y ∨ (order2 ltInt d x y s).1 = y ∧ (order2 ltInt d x y s).2.1 = x) ∧ s ≤ (order2 ltInt d x y s).2.2 ∧ (order2 ltInt d x y s).2.2 ≤ s + 1 := by
  unfold order2
  split
  · exact ⟨.inr ⟨rfl, rfl⟩, by simp, by simp⟩
  · exact ⟨.inl ⟨rfl, rfl⟩, by simp, by simp⟩
set_option maxHeartbeats 8000000 in
theorem medU_spec (a : Option Addr) (cap : Nat) (d : Array Int) (x y z sb s : Nat) (hx : x < d.size) (hy : y < d.size) (hz : z < d.size) (hn : d.size ≤ 1000000) (hs : s ≤ 50) (h : AHeap) (hS : KvU h a cap d) (hc : Cell1 h sb s) (hne : sb ∉ blk a) : CallS Try.prog [sb] 93 [.slice a d.size cap, .int .i64 x, .int .i64 y, .int .i64 z, .pointer (some ⟨sb, 0, none⟩)] h fun v h' => v = .int .i64 (median ltInt d x y z s).1 ∧ (median ltInt d x y z s).1 < d.size ∧ (median ltInt d x y z s).2 ≤ s + 3 ∧ Cell1 h' sb (median ltInt d x y z s).2 := by
  have sub : ∀ {H H' : AHeap}, Sv H 46 1 a d.size cap (ksU d) → Keeps [sb] H H' → Sv H' 46 1 a d.size cap (ksU d) := fun k kp => k.keeps kp (fun i hi hm => by simp only [List.mem_singleton] at hm; subst hm; exact hne hi)
  have hsb := AHeap.lt hc
  unfold median
  obtain ⟨f1, f2, f3⟩ := ordU_fst d x y s
  have sp1 := ordU_spec a cap d x y sb s hx hy hn (by omega) h hS hc
  generalize order2 ltInt d x y s = r1 at *
  obtain ⟨p1, q1, s1⟩ := r1
  simp only at f1 f2 f3 sp1 ⊢
  have sp2 := ordU_spec a cap d q1 z sb s1 (by omega) hz hn (by omega)
  obtain ⟨g1, g2, g3⟩ := ordU_fst d q1 z s1
  generalize order2 ltInt d q1 z s1 = r2 at *
  obtain ⟨p2, q2, s2⟩ := r2
  simp only at g1 g2 g3 sp2 ⊢
  have sp3 := ordU_spec a cap d p1 p2 sb s2 (by omega) (by omega) hn (by omega)
  obtain ⟨k1, k2, k3⟩ := ordU_fst d p1 p2 s2
  generalize order2 ltInt d p1 p2 s2 = r3 at *
  obtain ⟨p3, q3, s3⟩ := r3
  simp only at k1 k2 k3 sp3 ⊢
  (refine CallS.of5 Try.func93 rfl Try.ntmps93 Try.results93 rfl ?_)
  (refine Go.run (g:=?_))
  refine GoR.callW rfl rfl rfl rfl rfl rfl rfl (((sp1).argA).mono ?_)
  rintro _ h1 ⟨rfl, hc1⟩ kp1
  refine ⟨fun i hi => .inl hi, ?_⟩
  have hS1 := sub hS kp1
  (refine Go.run (g:=?_))
  refine GoR.callW rfl rfl rfl rfl rfl rfl rfl (((sp2 h1 hS1 hc1).argA).mono ?_)
  rintro _ h2 ⟨rfl, hc2⟩ kp2
  refine ⟨fun i hi => .inl hi, ?_⟩
  have hS2 := sub hS1 kp2
  (refine Go.run (g:=?_))
  refine GoR.callW rfl rfl rfl rfl rfl rfl rfl (((sp3 h2 hS2 hc2).argA).mono ?_)
  rintro _ h3 ⟨rfl, hc3⟩ kp3
  refine ⟨fun i hi => .inl hi, ?_⟩
  (refine Go.run (g:=?_))
  (first|refine Go.finT (by first|exact .inr rfl|exact .inl rfl) rfl ?_|refine Go.fin1 (by first|exact .inr rfl|exact .inl rfl) rfl (hq:=?_))
  exact ⟨rfl, by omega, by omega, hc3⟩
set_option maxHeartbeats 8000000 in
theorem adjU_spec (a : Option Addr) (cap : Nat) (d : Array Int) (x sb s : Nat) (h1x : 1 ≤ x) (hx : x + 1 < d.size) (hn : d.size ≤ 1000000) (hs : s ≤ 50) (h : AHeap) (hS : KvU h a cap d) (hc : Cell1 h sb s) (hne : sb ∉ blk a) : CallS Try.prog [sb] 92 [.slice a d.size cap, .int .i64 x, .pointer (some ⟨sb, 0, none⟩)] h fun v h' => v = .int .i64 (medianAdjacent ltInt d x s).1 ∧ (medianAdjacent ltInt d x s).1 < d.size ∧ (medianAdjacent ltInt d x s).2 ≤ s + 3 ∧ Cell1 h' sb (medianAdjacent ltInt d x s).2 := by
  unfold medianAdjacent
  have sp := medU_spec a cap d (x - 1) x (x + 1) sb s (by omega) (by omega) hx hn hs h hS hc hne
  (refine CallS.of3 Try.func92 rfl Try.ntmps92 Try.results92 rfl ?_)
  (refine Go.run (g:=?_))
  refine GoR.callW rfl rfl rfl rfl rfl rfl rfl (((sp).argA).mono ?_)
  rintro _ h1 ⟨rfl, k1, k2, k3⟩ kp1
  refine ⟨fun i hi => .inl hi, ?_⟩
  (refine Go.run (g:=?_))
  (first|refine Go.finT (by first|exact .inr rfl|exact .inl rfl) rfl ?_|refine Go.fin1 (by first|exact .inr rfl|exact .inl rfl) rfl (hq:=?_))
  exact ⟨rfl, k1, k2, k3⟩
def hintN : Hint → Nat
  | .unknown => 0
  | .increasing => 1
  | .decreasing => 2
set_option maxHeartbeats 16000000 in
theorem pivU_spec (a : Option Addr) (cap : Nat) (d : Array Int) (x y : Nat) (hxy : x + 12 < y) (hy : y ≤ d.size) (hn : d.size ≤ 1000000) (h : AHeap) (hS : KvU h a cap d) : CallS Try.prog [] 70 [.slice a d.size cap, .int .i64 x, .int .i64 y] h fun v h' => v = .tuple #[.int .i64 (choosePivot ltInt d x y).1, .int .i64 (hintN (choosePivot ltInt d x y).2)] ∧ (choosePivot ltInt d x y).1 < d.size := by
  have sub : ∀ {H H' : AHeap}, Sv H 46 1 a d.size cap (ksU d) → Keeps [h.n] H H' → Sv H' 46 1 a d.size cap (ksU d) := fun k kp => k.keeps kp (fun i hi hm => by simp only [List.mem_singleton] at hm; subst hm; have := hS.lt _ hi; omega)
  have hne : h.n ∉ blk a := fun hi => by have := hS.lt _ hi; omega
  unfold choosePivot
  obtain ⟨n, hyn⟩ : ∃ n, n = y - x := ⟨_, rfl⟩
  rw [← hyn]
  simp only
  (refine CallS.of3 Try.func70 rfl Try.ntmps70 Try.results70 rfl ?_)
  (refine Go.run (g:=?_))
  rw [← hyn]
  rw [if_pos (show n ≥ 8 from by omega)]
  have w9 : ∀ i ∈ [h.n], i ∈ ([] : List Nat) ∨ h.n ≤ i := fun i hi => by simp only [List.mem_singleton] at hi; omega
  rcases Nat.lt_or_ge n 50 with n0 | n0
  · rw [if_neg (by omega)]
    (refine Go.run (g:=?_))
    refine GoR.name ?_
    intro h2 e2
    have s2 : Same h h2 := by subst e2; exact (Same.refl h).push _
    have cl2 : Cell1 h2 h.n 0 := by subst e2; exact AHeap.get_push_same h _
    clear e2
    have msp := medU_spec a cap d (x + n / 4 * 1) (x + n / 4 * 2) (x + n / 4 * 3) h.n 0 (by omega) (by omega) (by omega) hn (by omega) h2 (hS.same s2) cl2 hne
    generalize median ltInt d (x + n / 4 * 1) (x + n / 4 * 2) (x + n / 4 * 3) 0 = r at *
    obtain ⟨mi, sw⟩ := r
    simp only at msp ⊢
    refine GoR.callW rfl rfl rfl rfl rfl rfl rfl (((msp).argA).mono ?_)
    rintro _ h3 ⟨rfl, fb, b3, cl3⟩ kp3
    refine ⟨w9, ?_⟩
    unfold Cell1 at cl3
    clear b3
    (refine Go.run (g:=?_))
    rcases Nat.lt_or_ge 0 sw with z0 | z0
    case inr =>
      obtain rfl : sw = 0 := by omega
      (refine Go.run (g:=?_))
      refine Go.fin (.inr rfl) (.tmp rfl (.tmp rfl .nil)) ?_
      exact ⟨rfl, fb⟩
    by_cases z1 : sw = 12
    · subst z1
      (refine Go.run (g:=?_))
      refine Go.fin (.inr rfl) (.tmp rfl (.tmp rfl .nil)) ?_
      exact ⟨rfl, fb⟩
    · rw [if_neg (by omega), if_neg z1]
      (refine Go.run (g:=?_))
      refine Go.fin (.inr rfl) (.tmp rfl (.tmp rfl .nil)) ?_
      exact ⟨rfl, fb⟩
  · rw [if_pos (by omega)]
    (refine Go.run (g:=?_))
    refine GoR.name ?_
    intro h2 e2
    have s2 : Same h h2 := by subst e2; exact (Same.refl h).push _
    have cl2 : Cell1 h2 h.n 0 := by subst e2; exact AHeap.get_push_same h _
    clear e2
    have hS2 := hS.same s2
    have asp1 := adjU_spec a cap d (x + n / 4 * 1) h.n 0 (by omega) (by omega) hn (by omega) h2 hS2 cl2 hne
    have asp2 := fun s => adjU_spec a cap d (x + n / 4 * 2) h.n s (by omega) (by omega) hn
    have asp3 := fun s => adjU_spec a cap d (x + n / 4 * 3) h.n s (by omega) (by omega) hn
    generalize medianAdjacent ltInt d (x + n / 4 * 1) 0 = r1 at *
    obtain ⟨m1, t1⟩ := r1
    simp only at asp1 ⊢
    have asp2 := asp2 t1
    generalize medianAdjacent ltInt d (x + n / 4 * 2) t1 = r2 at *
    obtain ⟨m2, t2⟩ := r2
    simp only at asp2 ⊢
    have asp3 := asp3 t2
    generalize medianAdjacent ltInt d (x + n / 4 * 3) t2 = r3 at *
    obtain ⟨m3, t3⟩ := r3
    simp only at asp3 ⊢
    refine GoR.callW rfl rfl rfl rfl rfl rfl rfl (((asp1).argA).mono ?_)
    rintro _ h3 ⟨rfl, fb1, b3, cl3⟩ kp3
    refine ⟨w9, ?_⟩
    have hS3 := sub hS2 kp3
    (refine Go.run (g:=?_))
    refine GoR.callW rfl rfl rfl rfl rfl rfl rfl (((asp2 (by omega) h3 hS3 cl3 hne).argA).mono ?_)
    rintro _ h4 ⟨rfl, fb2, b4, cl4⟩ kp4
    refine ⟨w9, ?_⟩
    have hS4 := sub hS3 kp4
    (refine Go.run (g:=?_))
    refine GoR.callW rfl rfl rfl rfl rfl rfl rfl (((asp3 (by omega) h4 hS4 cl4 hne).argA).mono ?_)
    rintro _ h5 ⟨rfl, fb3, b5, cl5⟩ kp5
    refine ⟨w9, ?_⟩
    have hS5 := sub hS4 kp5
    have msp := medU_spec a cap d m1 m2 m3 h.n t3 (by omega) (by omega) (by omega) hn (by omega) h5 hS5 cl5 hne
    generalize median ltInt d m1 m2 m3 t3 = r at *
    obtain ⟨mi, sw⟩ := r
    simp only at msp ⊢
    clear cl3 cl4 cl2
    (refine Go.run (g:=?_))
    refine GoR.callW rfl rfl rfl rfl rfl rfl rfl (((msp).argA).mono ?_)
    rintro _ h6 ⟨rfl, fb, b6, cl6⟩ kp6
    refine ⟨w9, ?_⟩
    unfold Cell1 at cl6
    clear cl5
    (refine Go.run (g:=?_))
    rcases Nat.lt_or_ge 0 sw with z0 | z0
    case inr =>
      obtain rfl : sw = 0 := by omega
      (refine Go.run (g:=?_))
      refine Go.fin (.inr rfl) (.tmp rfl (.tmp rfl .nil)) ?_
      exact ⟨rfl, fb⟩
    by_cases z1 : sw = 12
    · subst z1
      (refine Go.run (g:=?_))
      refine Go.fin (.inr rfl) (.tmp rfl (.tmp rfl .nil)) ?_
      exact ⟨rfl, fb⟩
    · rw [if_neg (by omega), if_neg z1]
      (refine Go.run (g:=?_))
      refine Go.fin (.inr rfl) (.tmp rfl (.tmp rfl .nil)) ?_
      exact ⟨rfl, fb⟩
set_option maxHeartbeats 16000000 in
theorem revU_spec (a : Option Addr) (cap : Nat) (d : Array Int) (x y : Nat) (hxy : x < y) (hy : y ≤ d.size) (hn : d.size ≤ 1000000) (h : AHeap) (hS : KvU h a cap d) : SortsU 71 a cap d [.int .i64 x, .int .i64 y] h (reverseRange d x y) := by
  unfold SortsU reverseRange
  unfold KvU at hS
  generalize hL : d.size = L at *
  have hW : ∀ i ∈ blk a, i ∈ blk a ∨ h.n ≤ i := fun i hi => .inl hi
  (refine CallS.of3 Try.func71 rfl Try.ntmps71 Try.results71 rfl ?_)
  (refine Go.run (g:=?_))
  refine Go.loop (α := Nat × Nat × Array Int × AHeap) (fun s => [(6, .int .i64 s.1), (7, .int .i64 s.2.1), (0, .slice a L cap)]) (fun _ => []) (fun s => s.2.2.2) (fun s => s.1 ≤ s.2.1 + 1 ∧ s.2.1 < L ∧ s.2.2.1.size = L ∧ Keeps (blk a) h s.2.2.2 ∧ Sv s.2.2.2 46 1 a L cap (ksU s.2.2.1) ∧ reverseLoop s.1 s.2.1 s.2.2.1 = reverseLoop x (y - 1) d) (fun s => s.2.1 + 1 - s.1) (x, y - 1, d, h) ?_ ?_ rfl rfl ?_
  · exact ⟨by simp only; omega, by simp only; omega, hL, Keeps.rf _ _, hS, rfl⟩
  · exact ⟨rfl, rfl, rfl, trivial⟩
  rintro ⟨i, j, e, H⟩ ⟨hi, hj, he, kp, sv, eq⟩
  simp only at hi hj he kp sv eq ⊢
  rw [reverseLoop] at eq
  rcases Nat.lt_or_ge i j with i0 | i0
  case inr =>
    rw [if_neg (by omega)] at eq
    (refine Go.run (g:=?_))
    (first|refine Go.finT (by first|exact .inr rfl|exact .inl rfl) rfl ?_|refine Go.fin1 (by first|exact .inr rfl|exact .inl rfl) rfl (hq:=?_))
    exact ⟨rfl, by rw [← eq]; exact he, by rw [← eq]; exact sv⟩
  rw [if_pos i0] at eq
  have hl := ksU_len e
  have c1 : (ksU e)[i]? = some (.int .u16 e[i]!) := ksU_get (by omega)
  have c2 : (ksU e)[j]? = some (.int .u16 e[j]!) := ksU_get (by omega)
  (repeat (first|refine GoR.end ?_|(refine GoR.gd rfl ?_;first|refine GoR.wanted' rfl rfl rfl rfl (g:=?_)|refine GoR.unwanted' rfl rfl rfl rfl (hd:=rfl) (hN:=rfl) (g:=?_)|refine GoR.unwantedU rfl rfl rfl rfl rfl rfl ?_)|(refine GoR.kk 0 rfl ?_;first|refine GoR.move rfl rfl rfl rfl rfl ?_|refine GoR.assign rfl rfl rfl rfl rfl ?_)|(refine GoR.kk 1 rfl ?_;first|refine GoR.load' rfl rfl rfl rfl rfl (g:=?_)|refine GoR.loadA' rfl rfl rfl rfl rfl (hv:=rfl) (g:=?_)|refine GoR.loadV' rfl rfl rfl rfl rfl (g:=?_)|refine GoR.loadVN' rfl rfl rfl rfl rfl (g:=?_))|(refine GoR.kk 2 rfl ?_;first|refine GoR.store' rfl rfl rfl rfl rfl (hl:=rfl) (h1:=rfl) (h3:=rfl) (g:=?_))|(refine GoR.kk 3 rfl ?_;first|refine GoR.fieldAddr rfl rfl rfl rfl rfl ?_|refine GoR.indexN' rfl rfl rfl rfl rfl rfl (g:=?_)|refine GoR.indexNs' rfl rfl rfl rfl rfl rfl (g:=?_)|refine GoR.indexV' rfl rfl rfl rfl rfl rfl (g:=?_)|refine GoR.indexA' rfl rfl rfl rfl rfl rfl (g:=?_)|refine GoR.fieldV' rfl rfl rfl rfl rfl (g:=?_))|(refine GoR.kk 4 rfl ?_;first|refine GoR.eq rfl rfl rfl rfl rfl rfl ?_|refine GoR.ne rfl rfl rfl rfl rfl rfl ?_|refine GoR.lt rfl rfl rfl rfl rfl rfl ?_|refine GoR.le rfl rfl rfl rfl rfl rfl ?_|refine GoR.gt rfl rfl rfl rfl rfl rfl ?_|refine GoR.ge rfl rfl rfl rfl rfl rfl ?_|refine GoR.addN' rfl rfl rfl rfl rfl rfl (g:=?_)|refine GoR.subN' rfl rfl rfl rfl rfl rfl (g:=?_)|refine GoR.add' rfl rfl rfl rfl rfl rfl (g:=?_)|refine GoR.sub' rfl rfl rfl rfl rfl rfl (g:=?_)|refine GoR.addM' rfl rfl rfl rfl rfl rfl (g:=?_)|refine GoR.subM' rfl rfl rfl rfl rfl rfl (g:=?_)|refine GoR.mulM' rfl rfl rfl rfl rfl rfl (g:=?_)|refine GoR.shrN rfl rfl rfl rfl rfl rfl rfl ?_|refine GoR.structEq rfl rfl rfl rfl rfl rfl (by rfl) (by rfl) ?_|refine GoR.structNe rfl rfl rfl rfl rfl rfl (by rfl) (by rfl) ?_|refine GoR.strEq rfl rfl rfl rfl rfl rfl ?_|refine GoR.strNe rfl rfl rfl rfl rfl rfl ?_|refine GoR.remN' rfl rfl rfl rfl rfl rfl (g:=?_)|refine GoR.quoN' rfl rfl rfl rfl rfl rfl (g:=?_)|refine GoR.shlN' rfl rfl rfl rfl rfl rfl rfl (g:=?_)|refine GoR.orN' rfl rfl rfl rfl rfl rfl (g:=?_))|(refine GoR.kk 5 rfl ?_;first|refine GoR.len rfl rfl rfl rfl rfl ?_|refine GoR.lenStr rfl rfl rfl rfl rfl ?_|refine GoR.capB rfl rfl rfl rfl rfl ?_)|(refine GoR.kk 7 rfl ?_;first|refine GoR.pickE' rfl rfl rfl rfl rfl (hx:=rfl) (hy:=rfl) (g:=?_)|refine GoR.pickN' rfl rfl rfl rfl rfl (hx:=rfl) (hy:=rfl) (g:=?_)|refine GoR.pickB rfl rfl rfl rfl rfl rfl rfl ?_)|(refine GoR.kk 8 rfl ?_;first|refine GoR.boxA rfl rfl rfl rfl rfl ?_|refine GoR.boxS rfl rfl rfl rfl rfl rfl ?_|refine GoR.alloc rfl rfl rfl rfl ?_)|(refine GoR.kk 9 rfl ?_;first|refine GoR.strV' rfl rfl rfl rfl rfl (g:=?_)|refine GoR.conv_u8 rfl rfl rfl rfl rfl ?_|refine GoR.convW' rfl rfl rfl rfl rfl (g:=?_)|refine GoR.conv_u16 rfl rfl rfl rfl rfl ?_|refine GoR.conv_u32 rfl rfl rfl rfl rfl ?_)|(refine GoR.kk 10 rfl ?_;first|refine GoR.build' rfl rfl rfl rfl rfl rfl (g:=?_))|(refine GoR.kk 11 rfl ?_;first|refine GoR.extract rfl rfl rfl rfl rfl rfl ?_|refine GoR.not rfl rfl rfl rfl rfl ?_|refine GoR.nilCheck rfl rfl rfl rfl rfl ?_|refine GoR.nilCheckF rfl rfl rfl rfl rfl ?_|refine GoR.makeFunc rfl rfl rfl rfl rfl rfl ?_)|(refine Go.kk 0 rfl ?_;refine Go.seq ?_)|(refine Go.kk 1 rfl ?_;refine Go.region (by kernel_rfl) rfl ?_)|(refine Go.kk 3 rfl ?_;first|refine Go.cond_t' rfl (g:=?_)|refine Go.cond_f' rfl (g:=?_))|(refine Go.kk 4 rfl ?_;refine Go.block ?_)|(refine Go.kk 5 rfl ?_;first|refine Go.skip ?_|refine Go.ret ?_|refine Go.exit ?_|refine Go.scope ?_)|refine Go.leave_normal ?_|refine Go.leave_same ?_|refine Go.leave_ret ?_|refine Go.ret_code ?_|refine Go.exit_code ?_|refine Go.leave_other rfl ?_|refine Go.sc_normal ?_|refine Go.sc_ret ?_|refine Go.sc_exit ?_|refine Go.exit_back ?_|refine Go.ret_back ?_))
  refine Go.loud (by kernel_rfl) rfl ?_
  (refine Go.runL (g:=?_))
  refine GoL.store1' rfl rfl rfl rfl rfl rfl (hS := sv) (hw := hW) (g:=?_)
  intro H3 sv3 k3 n3
  (refine Go.runL (g:=?_))
  refine GoL.store1' rfl rfl rfl rfl rfl rfl (hS := sv3) (hw := hW) (g:=?_)
  intro H4 sv4 k4 n4
  (refine Go.runL (g:=?_))
  (refine GoL.end_ (g:=?_))
  rw [ksU_swp] at sv4
  (refine Go.run (g:=?_))
  refine Go.again (i + 1, j - 1, swp e i j, H4) ⟨by simp only; omega, by simp only; omega, by simp only [swp_size]; exact he, (kp.tr k3).tr k4, sv4, eq⟩ (by simp only; omega) ⟨rfl, rfl, rfl, trivial⟩ rfl rfl
end Go.Proofs.Ytfcfgmhcphmefaa
namespace Go.Proofs.Ytfcfgmhcphmefaa
open Go.Sort
set_option maxRecDepth 100000
attribute [local irreducible] Go GoR GoL
set_option maxHeartbeats 32000000 in
theorem partU_spec (a : Option Addr) (cap : Nat) (d : Array Int) (x y pv : Nat) (hx : x ≤ pv) (hp : pv < y) (hxy : x + 2 ≤ y) (hy : y ≤ d.size) (hn : d.size ≤ 1000000) (h : AHeap) (hS : KvU h a cap d) : CallS Try.prog (blk a) 75 [.slice a d.size cap, .int .i64 x, .int .i64 y, .int .i64 pv] h fun v h' => v = .tuple #[.int .i64 (partition ltInt d x y pv).1, .bool (partition ltInt d x y pv).2.1] ∧ (partition ltInt d x y pv).2.2.size = d.size ∧ Sv h' 46 1 a d.size cap (ksU (partition ltInt d x y pv).2.2) := by
  unfold partition
  unfold KvU at hS
  generalize hL : d.size = L at *
  have hW : ∀ i ∈ blk a, i ∈ blk a ∨ h.n ≤ i := fun i hi => .inl hi
  have c1 : (ksU d)[x]? = some (.int .u16 d[x]!) := ksU_get (by omega)
  have c2 : (ksU d)[pv]? = some (.int .u16 d[pv]!) := ksU_get (by omega)
  have hl0 := ksU_len d
  have sv := hS
  (refine CallS.of4 Try.func75 rfl Try.ntmps75 Try.results75 rfl ?_)
  (repeat (first|refine GoR.end ?_|(refine GoR.gd rfl ?_;first|refine GoR.wanted' rfl rfl rfl rfl (g:=?_)|refine GoR.unwanted' rfl rfl rfl rfl (hd:=rfl) (hN:=rfl) (g:=?_)|refine GoR.unwantedU rfl rfl rfl rfl rfl rfl ?_)|(refine GoR.kk 0 rfl ?_;first|refine GoR.move rfl rfl rfl rfl rfl ?_|refine GoR.assign rfl rfl rfl rfl rfl ?_)|(refine GoR.kk 1 rfl ?_;first|refine GoR.load' rfl rfl rfl rfl rfl (g:=?_)|refine GoR.loadA' rfl rfl rfl rfl rfl (hv:=rfl) (g:=?_)|refine GoR.loadV' rfl rfl rfl rfl rfl (g:=?_)|refine GoR.loadVN' rfl rfl rfl rfl rfl (g:=?_))|(refine GoR.kk 2 rfl ?_;first|refine GoR.store' rfl rfl rfl rfl rfl (hl:=rfl) (h1:=rfl) (h3:=rfl) (g:=?_))|(refine GoR.kk 3 rfl ?_;first|refine GoR.fieldAddr rfl rfl rfl rfl rfl ?_|refine GoR.indexN' rfl rfl rfl rfl rfl rfl (g:=?_)|refine GoR.indexNs' rfl rfl rfl rfl rfl rfl (g:=?_)|refine GoR.indexV' rfl rfl rfl rfl rfl rfl (g:=?_)|refine GoR.indexA' rfl rfl rfl rfl rfl rfl (g:=?_)|refine GoR.fieldV' rfl rfl rfl rfl rfl (g:=?_))|(refine GoR.kk 4 rfl ?_;first|refine GoR.eq rfl rfl rfl rfl rfl rfl ?_|refine GoR.ne rfl rfl rfl rfl rfl rfl ?_|refine GoR.lt rfl rfl rfl rfl rfl rfl ?_|refine GoR.le rfl rfl rfl rfl rfl rfl ?_|refine GoR.gt rfl rfl rfl rfl rfl rfl ?_|refine GoR.ge rfl rfl rfl rfl rfl rfl ?_|refine GoR.addN' rfl rfl rfl rfl rfl rfl (g:=?_)|refine GoR.subN' rfl rfl rfl rfl rfl rfl (g:=?_)|refine GoR.add' rfl rfl rfl rfl rfl rfl (g:=?_)|refine GoR.sub' rfl rfl rfl rfl rfl rfl (g:=?_)|refine GoR.addM' rfl rfl rfl rfl rfl rfl (g:=?_)|refine GoR.subM' rfl rfl rfl rfl rfl rfl (g:=?_)|refine GoR.mulM' rfl rfl rfl rfl rfl rfl (g:=?_)|refine GoR.shrN rfl rfl rfl rfl rfl rfl rfl ?_|refine GoR.structEq rfl rfl rfl rfl rfl rfl (by rfl) (by rfl) ?_|refine GoR.structNe rfl rfl rfl rfl rfl rfl (by rfl) (by rfl) ?_|refine GoR.strEq rfl rfl rfl rfl rfl rfl ?_|refine GoR.strNe rfl rfl rfl rfl rfl rfl ?_|refine GoR.remN' rfl rfl rfl rfl rfl rfl (g:=?_)|refine GoR.quoN' rfl rfl rfl rfl rfl rfl (g:=?_)|refine GoR.shlN' rfl rfl rfl rfl rfl rfl rfl (g:=?_)|refine GoR.orN' rfl rfl rfl rfl rfl rfl (g:=?_))|(refine GoR.kk 5 rfl ?_;first|refine GoR.len rfl rfl rfl rfl rfl ?_|refine GoR.lenStr rfl rfl rfl rfl rfl ?_|refine GoR.capB rfl rfl rfl rfl rfl ?_)|(refine GoR.kk 7 rfl ?_;first|refine GoR.pickE' rfl rfl rfl rfl rfl (hx:=rfl) (hy:=rfl) (g:=?_)|refine GoR.pickN' rfl rfl rfl rfl rfl (hx:=rfl) (hy:=rfl) (g:=?_)|refine GoR.pickB rfl rfl rfl rfl rfl rfl rfl ?_)|(refine GoR.kk 8 rfl ?_;first|refine GoR.boxA rfl rfl rfl rfl rfl ?_|refine GoR.boxS rfl rfl rfl rfl rfl rfl ?_|refine GoR.alloc rfl rfl rfl rfl ?_)|(refine GoR.kk 9 rfl ?_;first|refine GoR.strV' rfl rfl rfl rfl rfl (g:=?_)|refine GoR.conv_u8 rfl rfl rfl rfl rfl ?_|refine GoR.convW' rfl rfl rfl rfl rfl (g:=?_)|refine GoR.conv_u16 rfl rfl rfl rfl rfl ?_|refine GoR.conv_u32 rfl rfl rfl rfl rfl ?_)|(refine GoR.kk 10 rfl ?_;first|refine GoR.build' rfl rfl rfl rfl rfl rfl (g:=?_))|(refine GoR.kk 11 rfl ?_;first|refine GoR.extract rfl rfl rfl rfl rfl rfl ?_|refine GoR.not rfl rfl rfl rfl rfl ?_|refine GoR.nilCheck rfl rfl rfl rfl rfl ?_|refine GoR.nilCheckF rfl rfl rfl rfl rfl ?_|refine GoR.makeFunc rfl rfl rfl rfl rfl rfl ?_)|(refine Go.kk 0 rfl ?_;refine Go.seq ?_)|(refine Go.kk 1 rfl ?_;refine Go.region (by kernel_rfl) rfl ?_)|(refine Go.kk 3 rfl ?_;first|refine Go.cond_t' rfl (g:=?_)|refine Go.cond_f' rfl (g:=?_))|(refine Go.kk 4 rfl ?_;refine Go.block ?_)|(refine Go.kk 5 rfl ?_;first|refine Go.skip ?_|refine Go.ret ?_|refine Go.exit ?_|refine Go.scope ?_)|refine Go.leave_normal ?_|refine Go.leave_same ?_|refine Go.leave_ret ?_|refine Go.ret_code ?_|refine Go.exit_code ?_|refine Go.leave_other rfl ?_|refine Go.sc_normal ?_|refine Go.sc_ret ?_|refine Go.sc_exit ?_|refine Go.exit_back ?_|refine Go.ret_back ?_))
  refine Go.loud (by kernel_rfl) rfl ?_
  (refine Go.runL (g:=?_))
  refine GoL.store1' rfl rfl rfl rfl rfl rfl (hS := sv) (hw := hW) (g:=?_)
  intro H3 sv3 k3 n3
  (refine Go.runL (g:=?_))
  refine GoL.store1' rfl rfl rfl rfl rfl rfl (hS := sv3) (hw := hW) (g:=?_)
  intro H4 sv4 k4 n4
  (refine Go.runL (g:=?_))
  (refine GoL.end_ (g:=?_))
  rw [ksU_swp] at sv4
  have he : (swp d x pv).size = L := by rw [swp_size]; exact hL
  generalize swp d x pv = e at *
  have kp := k3.tr k4
  clear sv sv3 k3 k4 n3 n4 c1 c2 hl0
  have sv := sv4
  clear sv4
  simp only
  (refine Go.run (g:=?_))
  obtain ⟨H, hH⟩ : ∃ H, H = H4 := ⟨_, rfl⟩
  subst hH
  obtain ⟨i, hi⟩ : ∃ i, i = x + 1 := ⟨_, rfl⟩
  obtain ⟨j, hj⟩ : ∃ j, j = y - 1 := ⟨_, rfl⟩
  rw [← hi, ← hj]
  have hl := ksU_len e
  obtain ⟨I, hI⟩ : ∃ I, I = scanUp (fun v => ltInt v e[x]!) e j i := ⟨_, rfl⟩
  have bI := scanUp_ge (fun v => ltInt v e[x]!) e j i
  rw [← hI] at bI
  refine Go.join2 (α := Unit) (fun _ => [(10, .int .i64 I), (11, .int .i64 j), (0, .slice a L cap), (1, .int .i64 x)]) (fun _ => []) (fun _ => H) (fun _ => True) ?_ ?_
  · refine Go.loop (α := Nat) (fun s => [(10, .int .i64 s), (11, .int .i64 j), (0, .slice a L cap), (1, .int .i64 x)]) (fun _ => []) (fun _ => H) (fun s => i ≤ s ∧ s ≤ max i (j + 1) ∧ I = scanUp (fun v => ltInt v e[x]!) e j s) (fun s => j + 1 - s) i ?_ ?_ rfl rfl ?_
    · exact ⟨Nat.le_refl _, by omega, hI⟩
    · exact ⟨rfl, rfl, rfl, rfl, trivial⟩
    rintro i2 ⟨hi2, hi3, eq2⟩
    rcases Nat.lt_or_ge j i2 with z | z
    · rw [scanUp_stop (.inl z)] at eq2
      subst eq2
      (refine Go.run (g:=?_))
      exact Go.joined () trivial ⟨rfl, rfl, rfl, rfl, trivial⟩ rfl rfl
    have c1 : (ksU e)[i2]? = some (.int .u16 e[i2]!) := ksU_get (by omega)
    have c2 : (ksU e)[x]? = some (.int .u16 e[x]!) := ksU_get (by omega)
    (refine Go.run (g:=?_))
    refine GoR.call rfl rfl rfl rfl rfl rfl rfl (((lessU_spec _ _ _).argA).mono ?_)
    rintro _ H2 ⟨rfl, rfl⟩ -
    cases hq : decide (e[i2]! < e[x]!) with
    | false =>
      rw [scanUp_stop (.inr (by show decide (e[i2]! < e[x]!) = false; rw [hq]; try rfl))] at eq2
      subst eq2
      (refine Go.run (g:=?_))
      exact Go.joined () trivial ⟨rfl, rfl, rfl, rfl, trivial⟩ rfl rfl
    | true =>
      rw [scanUp_more z (by show decide (e[i2]! < e[x]!) = true; rw [hq]; try rfl)] at eq2
      (refine Go.run (g:=?_))
      exact Go.again (i2 + 1) ⟨by omega, by omega, eq2⟩ (by omega) ⟨rfl, rfl, rfl, rfl, trivial⟩ rfl rfl
  intro _ _
  rw [← hI]
  (refine Go.run (g:=?_))
  obtain ⟨J, hJ⟩ : ∃ J, J = scanDown (fun v => !ltInt v e[x]!) e I j := ⟨_, rfl⟩
  have bJ := scanDown_le (fun v => !ltInt v e[x]!) e I j
  rw [← hJ] at bJ
  refine Go.join2 (α := Unit) (fun _ => [(10, .int .i64 I), (11, .int .i64 J), (0, .slice a L cap), (1, .int .i64 x)]) (fun _ => []) (fun _ => H) (fun _ => True) ?_ ?_
  · refine Go.loop (α := Nat) (fun s => [(10, .int .i64 I), (11, .int .i64 s), (0, .slice a L cap), (1, .int .i64 x)]) (fun _ => []) (fun _ => H) (fun s => s ≤ j ∧ J = scanDown (fun v => !ltInt v e[x]!) e I s) (fun s => s) j ?_ ?_ rfl rfl ?_
    · exact ⟨Nat.le_refl _, hJ⟩
    · exact ⟨rfl, rfl, rfl, rfl, trivial⟩
    rintro j2 ⟨hi2, eq2⟩
    rcases Nat.lt_or_ge j2 I with z | z
    · rw [scanDown_stop (by omega) (.inl z)] at eq2
      subst eq2
      (refine Go.run (g:=?_))
      exact Go.joined () trivial ⟨rfl, rfl, rfl, rfl, trivial⟩ rfl rfl
    have c1 : (ksU e)[j2]? = some (.int .u16 e[j2]!) := ksU_get (by omega)
    have c2 : (ksU e)[x]? = some (.int .u16 e[x]!) := ksU_get (by omega)
    (refine Go.run (g:=?_))
    refine GoR.call rfl rfl rfl rfl rfl rfl rfl (((lessU_spec _ _ _).argA).mono ?_)
    rintro _ H2 ⟨rfl, rfl⟩ -
    cases hq : decide (e[j2]! < e[x]!) with
    | true =>
      rw [scanDown_stop (by omega) (.inr (by show (!decide (e[j2]! < e[x]!)) = false; rw [hq]; try rfl))] at eq2
      subst eq2
      (refine Go.run (g:=?_))
      exact Go.joined () trivial ⟨rfl, rfl, rfl, rfl, trivial⟩ rfl rfl
    | false =>
      rw [scanDown_more (by omega) z (by show (!decide (e[j2]! < e[x]!)) = true; rw [hq]; try rfl)] at eq2
      (refine Go.run (g:=?_))
      exact Go.again (j2 - 1) ⟨by omega, eq2⟩ (by omega) ⟨rfl, rfl, rfl, rfl, trivial⟩ rfl rfl
  intro _ _
  rw [← hJ]
  clear hI
  have c1 : (ksU e)[x]? = some (.int .u16 e[x]!) := ksU_get (by omega)
  rcases Nat.lt_or_ge J I with z | z
  · have c2 : (ksU e)[J]? = some (.int .u16 e[J]!) := ksU_get (by omega)
    rw [if_pos z]
    (repeat (first|refine GoR.end ?_|(refine GoR.gd rfl ?_;first|refine GoR.wanted' rfl rfl rfl rfl (g:=?_)|refine GoR.unwanted' rfl rfl rfl rfl (hd:=rfl) (hN:=rfl) (g:=?_)|refine GoR.unwantedU rfl rfl rfl rfl rfl rfl ?_)|(refine GoR.kk 0 rfl ?_;first|refine GoR.move rfl rfl rfl rfl rfl ?_|refine GoR.assign rfl rfl rfl rfl rfl ?_)|(refine GoR.kk 1 rfl ?_;first|refine GoR.load' rfl rfl rfl rfl rfl (g:=?_)|refine GoR.loadA' rfl rfl rfl rfl rfl (hv:=rfl) (g:=?_)|refine GoR.loadV' rfl rfl rfl rfl rfl (g:=?_)|refine GoR.loadVN' rfl rfl rfl rfl rfl (g:=?_))|(refine GoR.kk 2 rfl ?_;first|refine GoR.store' rfl rfl rfl rfl rfl (hl:=rfl) (h1:=rfl) (h3:=rfl) (g:=?_))|(refine GoR.kk 3 rfl ?_;first|refine GoR.fieldAddr rfl rfl rfl rfl rfl ?_|refine GoR.indexN' rfl rfl rfl rfl rfl rfl (g:=?_)|refine GoR.indexNs' rfl rfl rfl rfl rfl rfl (g:=?_)|refine GoR.indexV' rfl rfl rfl rfl rfl rfl (g:=?_)|refine GoR.indexA' rfl rfl rfl rfl rfl rfl (g:=?_)|refine GoR.fieldV' rfl rfl rfl rfl rfl (g:=?_))|(refine GoR.kk 4 rfl ?_;first|refine GoR.eq rfl rfl rfl rfl rfl rfl ?_|refine GoR.ne rfl rfl rfl rfl rfl rfl ?_|refine GoR.lt rfl rfl rfl rfl rfl rfl ?_|refine GoR.le rfl rfl rfl rfl rfl rfl ?_|refine GoR.gt rfl rfl rfl rfl rfl rfl ?_|refine GoR.ge rfl rfl rfl rfl rfl rfl ?_|refine GoR.addN' rfl rfl rfl rfl rfl rfl (g:=?_)|refine GoR.subN' rfl rfl rfl rfl rfl rfl (g:=?_)|refine GoR.add' rfl rfl rfl rfl rfl rfl (g:=?_)|refine GoR.sub' rfl rfl rfl rfl rfl rfl (g:=?_)|refine GoR.addM' rfl rfl rfl rfl rfl rfl (g:=?_)|refine GoR.subM' rfl rfl rfl rfl rfl rfl (g:=?_)|refine GoR.mulM' rfl rfl rfl rfl rfl rfl (g:=?_)|refine GoR.shrN rfl rfl rfl rfl rfl rfl rfl ?_|refine GoR.structEq rfl rfl rfl rfl rfl rfl (by rfl) (by rfl) ?_|refine GoR.structNe rfl rfl rfl rfl rfl rfl (by rfl) (by rfl) ?_|refine GoR.strEq rfl rfl rfl rfl rfl rfl ?_|refine GoR.strNe rfl rfl rfl rfl rfl rfl ?_|refine GoR.remN' rfl rfl rfl rfl rfl rfl (g:=?_)|refine GoR.quoN' rfl rfl rfl rfl rfl rfl (g:=?_)|refine GoR.shlN' rfl rfl rfl rfl rfl rfl rfl (g:=?_)|refine GoR.orN' rfl rfl rfl rfl rfl rfl (g:=?_))|(refine GoR.kk 5 rfl ?_;first|refine GoR.len rfl rfl rfl rfl rfl ?_|refine GoR.lenStr rfl rfl rfl rfl rfl ?_|refine GoR.capB rfl rfl rfl rfl rfl ?_)|(refine GoR.kk 7 rfl ?_;first|refine GoR.pickE' rfl rfl rfl rfl rfl (hx:=rfl) (hy:=rfl) (g:=?_)|refine GoR.pickN' rfl rfl rfl rfl rfl (hx:=rfl) (hy:=rfl) (g:=?_)|refine GoR.pickB rfl rfl rfl rfl rfl rfl rfl ?_)|(refine GoR.kk 8 rfl ?_;first|refine GoR.boxA rfl rfl rfl rfl rfl ?_|refine GoR.boxS rfl rfl rfl rfl rfl rfl ?_|refine GoR.alloc rfl rfl rfl rfl ?_)|(refine GoR.kk 9 rfl ?_;first|refine GoR.strV' rfl rfl rfl rfl rfl (g:=?_)|refine GoR.conv_u8 rfl rfl rfl rfl rfl ?_|refine GoR.convW' rfl rfl rfl rfl rfl (g:=?_)|refine GoR.conv_u16 rfl rfl rfl rfl rfl ?_|refine GoR.conv_u32 rfl rfl rfl rfl rfl ?_)|(refine GoR.kk 10 rfl ?_;first|refine GoR.build' rfl rfl rfl rfl rfl rfl (g:=?_))|(refine GoR.kk 11 rfl ?_;first|refine GoR.extract rfl rfl rfl rfl rfl rfl ?_|refine GoR.not rfl rfl rfl rfl rfl ?_|refine GoR.nilCheck rfl rfl rfl rfl rfl ?_|refine GoR.nilCheckF rfl rfl rfl rfl rfl ?_|refine GoR.makeFunc rfl rfl rfl rfl rfl rfl ?_)|(refine Go.kk 0 rfl ?_;refine Go.seq ?_)|(refine Go.kk 1 rfl ?_;refine Go.region (by kernel_rfl) rfl ?_)|(refine Go.kk 3 rfl ?_;first|refine Go.cond_t' rfl (g:=?_)|refine Go.cond_f' rfl (g:=?_))|(refine Go.kk 4 rfl ?_;refine Go.block ?_)|(refine Go.kk 5 rfl ?_;first|refine Go.skip ?_|refine Go.ret ?_|refine Go.exit ?_|refine Go.scope ?_)|refine Go.leave_normal ?_|refine Go.leave_same ?_|refine Go.leave_ret ?_|refine Go.ret_code ?_|refine Go.exit_code ?_|refine Go.leave_other rfl ?_|refine Go.sc_normal ?_|refine Go.sc_ret ?_|refine Go.sc_exit ?_|refine Go.exit_back ?_|refine Go.ret_back ?_))
    refine Go.loud (by kernel_rfl) rfl ?_
    (refine Go.runL (g:=?_))
    refine GoL.store1' rfl rfl rfl rfl rfl rfl (hS := sv) (hw := hW) (g:=?_)
    intro H3 sv3 k3 n3
    (refine Go.runL (g:=?_))
    refine GoL.store1' rfl rfl rfl rfl rfl rfl (hS := sv3) (hw := hW) (g:=?_)
    intro H4 sv4 k4 n4
    (refine Go.runL (g:=?_))
    (refine GoL.end_ (g:=?_))
    rw [ksU_swp] at sv4
    (refine Go.run (g:=?_))
    refine Go.fin (.inr rfl) (.tmp rfl (.tmp rfl .nil)) ?_
    exact ⟨rfl, by rw [swp_size]; exact he, sv4⟩
  rw [if_neg (by omega)]
  have c2 : (ksU e)[J]? = some (.int .u16 e[J]!) := ksU_get (by omega)
  have c3 : (ksU e)[I]? = some (.int .u16 e[I]!) := ksU_get (by omega)
  (repeat (first|refine GoR.end ?_|(refine GoR.gd rfl ?_;first|refine GoR.wanted' rfl rfl rfl rfl (g:=?_)|refine GoR.unwanted' rfl rfl rfl rfl (hd:=rfl) (hN:=rfl) (g:=?_)|refine GoR.unwantedU rfl rfl rfl rfl rfl rfl ?_)|(refine GoR.kk 0 rfl ?_;first|refine GoR.move rfl rfl rfl rfl rfl ?_|refine GoR.assign rfl rfl rfl rfl rfl ?_)|(refine GoR.kk 1 rfl ?_;first|refine GoR.load' rfl rfl rfl rfl rfl (g:=?_)|refine GoR.loadA' rfl rfl rfl rfl rfl (hv:=rfl) (g:=?_)|refine GoR.loadV' rfl rfl rfl rfl rfl (g:=?_)|refine GoR.loadVN' rfl rfl rfl rfl rfl (g:=?_))|(refine GoR.kk 2 rfl ?_;first|refine GoR.store' rfl rfl rfl rfl rfl (hl:=rfl) (h1:=rfl) (h3:=rfl) (g:=?_))|(refine GoR.kk 3 rfl ?_;first|refine GoR.fieldAddr rfl rfl rfl rfl rfl ?_|refine GoR.indexN' rfl rfl rfl rfl rfl rfl (g:=?_)|refine GoR.indexNs' rfl rfl rfl rfl rfl rfl (g:=?_)|refine GoR.indexV' rfl rfl rfl rfl rfl rfl (g:=?_)|refine GoR.indexA' rfl rfl rfl rfl rfl rfl (g:=?_)|refine GoR.fieldV' rfl rfl rfl rfl rfl (g:=?_))|(refine GoR.kk 4 rfl ?_;first|refine GoR.eq rfl rfl rfl rfl rfl rfl ?_|refine GoR.ne rfl rfl rfl rfl rfl rfl ?_|refine GoR.lt rfl rfl rfl rfl rfl rfl ?_|refine GoR.le rfl rfl rfl rfl rfl rfl ?_|refine GoR.gt rfl rfl rfl rfl rfl rfl ?_|refine GoR.ge rfl rfl rfl rfl rfl rfl ?_|refine GoR.addN' rfl rfl rfl rfl rfl rfl (g:=?_)|refine GoR.subN' rfl rfl rfl rfl rfl rfl (g:=?_)|refine GoR.add' rfl rfl rfl rfl rfl rfl (g:=?_)|refine GoR.sub' rfl rfl rfl rfl rfl rfl (g:=?_)|refine GoR.addM' rfl rfl rfl rfl rfl rfl (g:=?_)|refine GoR.subM' rfl rfl rfl rfl rfl rfl (g:=?_)|refine GoR.mulM' rfl rfl rfl rfl rfl rfl (g:=?_)|refine GoR.shrN rfl rfl rfl rfl rfl rfl rfl ?_|refine GoR.structEq rfl rfl rfl rfl rfl rfl (by rfl) (by rfl) ?_|refine GoR.structNe rfl rfl rfl rfl rfl rfl (by rfl) (by rfl) ?_|refine GoR.strEq rfl rfl rfl rfl rfl rfl ?_|refine GoR.strNe rfl rfl rfl rfl rfl rfl ?_|refine GoR.remN' rfl rfl rfl rfl rfl rfl (g:=?_)|refine GoR.quoN' rfl rfl rfl rfl rfl rfl (g:=?_)|refine GoR.shlN' rfl rfl rfl rfl rfl rfl rfl (g:=?_)|refine GoR.orN' rfl rfl rfl rfl rfl rfl (g:=?_))|(refine GoR.kk 5 rfl ?_;first|refine GoR.len rfl rfl rfl rfl rfl ?_|refine GoR.lenStr rfl rfl rfl rfl rfl ?_|refine GoR.capB rfl rfl rfl rfl rfl ?_)|(refine GoR.kk 7 rfl ?_;first|refine GoR.pickE' rfl rfl rfl rfl rfl (hx:=rfl) (hy:=rfl) (g:=?_)|refine GoR.pickN' rfl rfl rfl rfl rfl (hx:=rfl) (hy:=rfl) (g:=?_)|refine GoR.pickB rfl rfl rfl rfl rfl rfl rfl ?_)|(refine GoR.kk 8 rfl ?_;first|refine GoR.boxA rfl rfl rfl rfl rfl ?_|refine GoR.boxS rfl rfl rfl rfl rfl rfl ?_|refine GoR.alloc rfl rfl rfl rfl ?_)|(refine GoR.kk 9 rfl ?_;first|refine GoR.strV' rfl rfl rfl rfl rfl (g:=?_)|refine GoR.conv_u8 rfl rfl rfl rfl rfl ?_|refine GoR.convW' rfl rfl rfl rfl rfl (g:=?_)|refine GoR.conv_u16 rfl rfl rfl rfl rfl ?_|refine GoR.conv_u32 rfl rfl rfl rfl rfl ?_)|(refine GoR.kk 10 rfl ?_;first|refine GoR.build' rfl rfl rfl rfl rfl rfl (g:=?_))|(refine GoR.kk 11 rfl ?_;first|refine GoR.extract rfl rfl rfl rfl rfl rfl ?_|refine GoR.not rfl rfl rfl rfl rfl ?_|refine GoR.nilCheck rfl rfl rfl rfl rfl ?_|refine GoR.nilCheckF rfl rfl rfl rfl rfl ?_|refine GoR.makeFunc rfl rfl rfl rfl rfl rfl ?_)|(refine Go.kk 0 rfl ?_;refine Go.seq ?_)|(refine Go.kk 1 rfl ?_;refine Go.region (by kernel_rfl) rfl ?_)|(refine Go.kk 3 rfl ?_;first|refine Go.cond_t' rfl (g:=?_)|refine Go.cond_f' rfl (g:=?_))|(refine Go.kk 4 rfl ?_;refine Go.block ?_)|(refine Go.kk 5 rfl ?_;first|refine Go.skip ?_|refine Go.ret ?_|refine Go.exit ?_|refine Go.scope ?_)|refine Go.leave_normal ?_|refine Go.leave_same ?_|refine Go.leave_ret ?_|refine Go.ret_code ?_|refine Go.exit_code ?_|refine Go.leave_other rfl ?_|refine Go.sc_normal ?_|refine Go.sc_ret ?_|refine Go.sc_exit ?_|refine Go.exit_back ?_|refine Go.ret_back ?_))
  refine Go.loud (by kernel_rfl) rfl ?_
  (refine Go.runL (g:=?_))
  refine GoL.store1' rfl rfl rfl rfl rfl rfl (hS := sv) (hw := hW) (g:=?_)
  intro H3 sv3 k3 n3
  (refine Go.runL (g:=?_))
  refine GoL.store1' rfl rfl rfl rfl rfl rfl (hS := sv3) (hw := hW) (g:=?_)
  intro H4 sv4 k4 n4
  (refine Go.runL (g:=?_))
  (refine GoL.end_ (g:=?_))
  rw [ksU_swp] at sv4
  (refine Go.run (g:=?_))
  obtain ⟨F, hF⟩ : ∃ F, F = partLoop ltInt x (I + 1) (J - 1) (swp e I J) := ⟨_, rfl⟩
  rw [← hF]
  refine Go.loop (α := Nat × Nat × Array Int × AHeap) (fun s => [(10, .int .i64 s.1), (11, .int .i64 s.2.1), (0, .slice a L cap), (1, .int .i64 x)]) (fun _ => []) (fun s => s.2.2.2) (fun s => x < s.1 ∧ s.1 ≤ s.2.1 + 2 ∧ x ≤ s.2.1 ∧ s.2.1 < L ∧ s.2.2.1.size = L ∧ Keeps (blk a) h s.2.2.2 ∧ Sv s.2.2.2 46 1 a L cap (ksU s.2.2.1) ∧ F = partLoop ltInt x s.1 s.2.1 s.2.2.1) (fun s => s.2.1 + 1 - s.1) (I + 1, J - 1, swp e I J, H4) ?_ ?_ rfl rfl ?_
  · exact ⟨by simp only; omega, by simp only; omega, by simp only; omega, by simp only; omega, by simp only [swp_size]; exact he, (kp.tr k3).tr k4, sv4, hF⟩
  · exact ⟨rfl, rfl, rfl, rfl, trivial⟩
  clear hF hJ c1 c2 c3 z bI bJ hi hj hl he kp sv sv3 sv4 k3 k4 n3 n4
  clear I J i j e
  rintro ⟨i, j, e, H⟩ ⟨q1, q2, q3, q4, he, kp, sv, eq⟩
  simp only at q1 q2 q3 q4 he kp sv eq ⊢
  have hl := ksU_len e
  rw [partLoop] at eq
  try simp only at eq
  (refine Go.run (g:=?_))
  obtain ⟨I, hI⟩ : ∃ I, I = scanUp (fun v => ltInt v e[x]!) e j i := ⟨_, rfl⟩
  have bI := scanUp_ge (fun v => ltInt v e[x]!) e j i
  rw [← hI] at bI
  refine Go.join2 (α := Unit) (fun _ => [(10, .int .i64 I), (11, .int .i64 j), (0, .slice a L cap), (1, .int .i64 x)]) (fun _ => []) (fun _ => H) (fun _ => True) ?_ ?_
  · refine Go.loop (α := Nat) (fun s => [(10, .int .i64 s), (11, .int .i64 j), (0, .slice a L cap), (1, .int .i64 x)]) (fun _ => []) (fun _ => H) (fun s => i ≤ s ∧ s ≤ max i (j + 1) ∧ I = scanUp (fun v => ltInt v e[x]!) e j s) (fun s => j + 1 - s) i ?_ ?_ rfl rfl ?_
    · exact ⟨Nat.le_refl _, by omega, hI⟩
    · exact ⟨rfl, rfl, rfl, rfl, trivial⟩
    rintro i2 ⟨hi2, hi3, eq2⟩
    rcases Nat.lt_or_ge j i2 with z | z
    · rw [scanUp_stop (.inl z)] at eq2
      subst eq2
      (refine Go.run (g:=?_))
      exact Go.joined () trivial ⟨rfl, rfl, rfl, rfl, trivial⟩ rfl rfl
    have c1 : (ksU e)[i2]? = some (.int .u16 e[i2]!) := ksU_get (by omega)
    have c2 : (ksU e)[x]? = some (.int .u16 e[x]!) := ksU_get (by omega)
    (refine Go.run (g:=?_))
    refine GoR.call rfl rfl rfl rfl rfl rfl rfl (((lessU_spec _ _ _).argA).mono ?_)
    rintro _ H2 ⟨rfl, rfl⟩ -
    cases hq : decide (e[i2]! < e[x]!) with
    | false =>
      rw [scanUp_stop (.inr (by show decide (e[i2]! < e[x]!) = false; rw [hq]; try rfl))] at eq2
      subst eq2
      (refine Go.run (g:=?_))
      exact Go.joined () trivial ⟨rfl, rfl, rfl, rfl, trivial⟩ rfl rfl
    | true =>
      rw [scanUp_more z (by show decide (e[i2]! < e[x]!) = true; rw [hq]; try rfl)] at eq2
      (refine Go.run (g:=?_))
      exact Go.again (i2 + 1) ⟨by omega, by omega, eq2⟩ (by omega) ⟨rfl, rfl, rfl, rfl, trivial⟩ rfl rfl
  intro _ _
  (refine Go.run (g:=?_))
  rw [← hI] at eq
  clear hI
  obtain ⟨J, hJ⟩ : ∃ J, J = scanDown (fun v => !ltInt v e[x]!) e I j := ⟨_, rfl⟩
  have bJ := scanDown_le (fun v => !ltInt v e[x]!) e I j
  rw [← hJ] at bJ
  refine Go.join2 (α := Unit) (fun _ => [(10, .int .i64 I), (11, .int .i64 J), (0, .slice a L cap), (1, .int .i64 x)]) (fun _ => []) (fun _ => H) (fun _ => True) ?_ ?_
  · refine Go.loop (α := Nat) (fun s => [(10, .int .i64 I), (11, .int .i64 s), (0, .slice a L cap), (1, .int .i64 x)]) (fun _ => []) (fun _ => H) (fun s => s ≤ j ∧ J = scanDown (fun v => !ltInt v e[x]!) e I s) (fun s => s) j ?_ ?_ rfl rfl ?_
    · exact ⟨Nat.le_refl _, hJ⟩
    · exact ⟨rfl, rfl, rfl, rfl, trivial⟩
    rintro j2 ⟨hi2, eq2⟩
    rcases Nat.lt_or_ge j2 I with z | z
    · rw [scanDown_stop (by omega) (.inl z)] at eq2
      subst eq2
      (refine Go.run (g:=?_))
      exact Go.joined () trivial ⟨rfl, rfl, rfl, rfl, trivial⟩ rfl rfl
    have c1 : (ksU e)[j2]? = some (.int .u16 e[j2]!) := ksU_get (by omega)
    have c2 : (ksU e)[x]? = some (.int .u16 e[x]!) := ksU_get (by omega)
    (refine Go.run (g:=?_))
    refine GoR.call rfl rfl rfl rfl rfl rfl rfl (((lessU_spec _ _ _).argA).mono ?_)
    rintro _ H2 ⟨rfl, rfl⟩ -
    cases hq : decide (e[j2]! < e[x]!) with
    | true =>
      rw [scanDown_stop (by omega) (.inr (by show (!decide (e[j2]! < e[x]!)) = false; rw [hq]; try rfl))] at eq2
      subst eq2
      (refine Go.run (g:=?_))
      exact Go.joined () trivial ⟨rfl, rfl, rfl, rfl, trivial⟩ rfl rfl
    | false =>
      rw [scanDown_more (by omega) z (by show (!decide (e[j2]! < e[x]!)) = true; rw [hq]; try rfl)] at eq2
      (refine Go.run (g:=?_))
      exact Go.again (j2 - 1) ⟨by omega, eq2⟩ (by omega) ⟨rfl, rfl, rfl, rfl, trivial⟩ rfl rfl
  intro _ _
  rw [← hJ] at eq
  have c1 : (ksU e)[x]? = some (.int .u16 e[x]!) := ksU_get (by omega)
  have c2 : (ksU e)[J]? = some (.int .u16 e[J]!) := ksU_get (by omega)
  rcases Nat.lt_or_ge J I with z | z
  · rw [if_pos z] at eq
    subst eq
    (repeat (first|refine GoR.end ?_|(refine GoR.gd rfl ?_;first|refine GoR.wanted' rfl rfl rfl rfl (g:=?_)|refine GoR.unwanted' rfl rfl rfl rfl (hd:=rfl) (hN:=rfl) (g:=?_)|refine GoR.unwantedU rfl rfl rfl rfl rfl rfl ?_)|(refine GoR.kk 0 rfl ?_;first|refine GoR.move rfl rfl rfl rfl rfl ?_|refine GoR.assign rfl rfl rfl rfl rfl ?_)|(refine GoR.kk 1 rfl ?_;first|refine GoR.load' rfl rfl rfl rfl rfl (g:=?_)|refine GoR.loadA' rfl rfl rfl rfl rfl (hv:=rfl) (g:=?_)|refine GoR.loadV' rfl rfl rfl rfl rfl (g:=?_)|refine GoR.loadVN' rfl rfl rfl rfl rfl (g:=?_))|(refine GoR.kk 2 rfl ?_;first|refine GoR.store' rfl rfl rfl rfl rfl (hl:=rfl) (h1:=rfl) (h3:=rfl) (g:=?_))|(refine GoR.kk 3 rfl ?_;first|refine GoR.fieldAddr rfl rfl rfl rfl rfl ?_|refine GoR.indexN' rfl rfl rfl rfl rfl rfl (g:=?_)|refine GoR.indexNs' rfl rfl rfl rfl rfl rfl (g:=?_)|refine GoR.indexV' rfl rfl rfl rfl rfl rfl (g:=?_)|refine GoR.indexA' rfl rfl rfl rfl rfl rfl (g:=?_)|refine GoR.fieldV' rfl rfl rfl rfl rfl (g:=?_))|(refine GoR.kk 4 rfl ?_;first|refine GoR.eq rfl rfl rfl rfl rfl rfl ?_|refine GoR.ne rfl rfl rfl rfl rfl rfl ?_|refine GoR.lt rfl rfl rfl rfl rfl rfl ?_|refine GoR.le rfl rfl rfl rfl rfl rfl ?_|refine GoR.gt rfl rfl rfl rfl rfl rfl ?_|refine GoR.ge rfl rfl rfl rfl rfl rfl ?_|refine GoR.addN' rfl rfl rfl rfl rfl rfl (g:=?_)|refine GoR.subN' rfl rfl rfl rfl rfl rfl (g:=?_)|refine GoR.add' rfl rfl rfl rfl rfl rfl (g:=?_)|refine GoR.sub' rfl rfl rfl rfl rfl rfl (g:=?_)|refine GoR.addM' rfl rfl rfl rfl rfl rfl (g:=?_)|refine GoR.subM' rfl rfl rfl rfl rfl rfl (g:=?_)|refine GoR.mulM' rfl rfl rfl rfl rfl rfl (g:=?_)|refine GoR.shrN rfl rfl rfl rfl rfl rfl rfl ?_|refine GoR.structEq rfl rfl rfl rfl rfl rfl (by rfl) (by rfl) ?_|refine GoR.structNe rfl rfl rfl rfl rfl rfl (by rfl) (by rfl) ?_|refine GoR.strEq rfl rfl rfl rfl rfl rfl ?_|refine GoR.strNe rfl rfl rfl rfl rfl rfl ?_|refine GoR.remN' rfl rfl rfl rfl rfl rfl (g:=?_)|refine GoR.quoN' rfl rfl rfl rfl rfl rfl (g:=?_)|refine GoR.shlN' rfl rfl rfl rfl rfl rfl rfl (g:=?_)|refine GoR.orN' rfl rfl rfl rfl rfl rfl (g:=?_))|(refine GoR.kk 5 rfl ?_;first|refine GoR.len rfl rfl rfl rfl rfl ?_|refine GoR.lenStr rfl rfl rfl rfl rfl ?_|refine GoR.capB rfl rfl rfl rfl rfl ?_)|(refine GoR.kk 7 rfl ?_;first|refine GoR.pickE' rfl rfl rfl rfl rfl (hx:=rfl) (hy:=rfl) (g:=?_)|refine GoR.pickN' rfl rfl rfl rfl rfl (hx:=rfl) (hy:=rfl) (g:=?_)|refine GoR.pickB rfl rfl rfl rfl rfl rfl rfl ?_)|(refine GoR.kk 8 rfl ?_;first|refine GoR.boxA rfl rfl rfl rfl rfl ?_|refine GoR.boxS rfl rfl rfl rfl rfl rfl ?_|refine GoR.alloc rfl rfl rfl rfl ?_)|(refine GoR.kk 9 rfl ?_;first|refine GoR.strV' rfl rfl rfl rfl rfl (g:=?_)|refine GoR.conv_u8 rfl rfl rfl rfl rfl ?_|refine GoR.convW' rfl rfl rfl rfl rfl (g:=?_)|refine GoR.conv_u16 rfl rfl rfl rfl rfl ?_|refine GoR.conv_u32 rfl rfl rfl rfl rfl ?_)|(refine GoR.kk 10 rfl ?_;first|refine GoR.build' rfl rfl rfl rfl rfl rfl (g:=?_))|(refine GoR.kk 11 rfl ?_;first|refine GoR.extract rfl rfl rfl rfl rfl rfl ?_|refine GoR.not rfl rfl rfl rfl rfl ?_|refine GoR.nilCheck rfl rfl rfl rfl rfl ?_|refine GoR.nilCheckF rfl rfl rfl rfl rfl ?_|refine GoR.makeFunc rfl rfl rfl rfl rfl rfl ?_)|(refine Go.kk 0 rfl ?_;refine Go.seq ?_)|(refine Go.kk 1 rfl ?_;refine Go.region (by kernel_rfl) rfl ?_)|(refine Go.kk 3 rfl ?_;first|refine Go.cond_t' rfl (g:=?_)|refine Go.cond_f' rfl (g:=?_))|(refine Go.kk 4 rfl ?_;refine Go.block ?_)|(refine Go.kk 5 rfl ?_;first|refine Go.skip ?_|refine Go.ret ?_|refine Go.exit ?_|refine Go.scope ?_)|refine Go.leave_normal ?_|refine Go.leave_same ?_|refine Go.leave_ret ?_|refine Go.ret_code ?_|refine Go.exit_code ?_|refine Go.leave_other rfl ?_|refine Go.sc_normal ?_|refine Go.sc_ret ?_|refine Go.sc_exit ?_|refine Go.exit_back ?_|refine Go.ret_back ?_))
    refine Go.loud (by kernel_rfl) rfl ?_
    (refine Go.runL (g:=?_))
    refine GoL.store1' rfl rfl rfl rfl rfl rfl (hS := sv) (hw := hW) (g:=?_)
    intro H3 sv3 k3 n3
    (refine Go.runL (g:=?_))
    refine GoL.store1' rfl rfl rfl rfl rfl rfl (hS := sv3) (hw := hW) (g:=?_)
    intro H4 sv4 k4 n4
    (refine Go.runL (g:=?_))
    (refine GoL.end_ (g:=?_))
    rw [ksU_swp] at sv4
    (refine Go.run (g:=?_))
    refine Go.fin (.inr rfl) (.tmp rfl (.tmp rfl .nil)) ?_
    exact ⟨rfl, by rw [swp_size]; exact he, sv4⟩
  rw [if_neg (by omega), dif_pos (by omega)] at eq
  have c3 : (ksU e)[I]? = some (.int .u16 e[I]!) := ksU_get (by omega)
  (repeat (first|refine GoR.end ?_|(refine GoR.gd rfl ?_;first|refine GoR.wanted' rfl rfl rfl rfl (g:=?_)|refine GoR.unwanted' rfl rfl rfl rfl (hd:=rfl) (hN:=rfl) (g:=?_)|refine GoR.unwantedU rfl rfl rfl rfl rfl rfl ?_)|(refine GoR.kk 0 rfl ?_;first|refine GoR.move rfl rfl rfl rfl rfl ?_|refine GoR.assign rfl rfl rfl rfl rfl ?_)|(refine GoR.kk 1 rfl ?_;first|refine GoR.load' rfl rfl rfl rfl rfl (g:=?_)|refine GoR.loadA' rfl rfl rfl rfl rfl (hv:=rfl) (g:=?_)|refine GoR.loadV' rfl rfl rfl rfl rfl (g:=?_)|refine GoR.loadVN' rfl rfl rfl rfl rfl (g:=?_))|(refine GoR.kk 2 rfl ?_;first|refine GoR.store' rfl rfl rfl rfl rfl (hl:=rfl) (h1:=rfl) (h3:=rfl) (g:=?_))|(refine GoR.kk 3 rfl ?_;first|refine GoR.fieldAddr rfl rfl rfl rfl rfl ?_|refine GoR.indexN' rfl rfl rfl rfl rfl rfl (g:=?_)|refine GoR.indexNs' rfl rfl rfl rfl rfl rfl (g:=?_)|refine GoR.indexV' rfl rfl rfl rfl rfl rfl (g:=?_)|refine GoR.indexA' rfl rfl rfl rfl rfl rfl (g:=?_)|refine GoR.fieldV' rfl rfl rfl rfl rfl (g:=?_))|(refine GoR.kk 4 rfl ?_;first|refine GoR.eq rfl rfl rfl rfl rfl rfl ?_|refine GoR.ne rfl rfl rfl rfl rfl rfl ?_|refine GoR.lt rfl rfl rfl rfl rfl rfl ?_|refine GoR.le rfl rfl rfl rfl rfl rfl ?_|refine GoR.gt rfl rfl rfl rfl rfl rfl ?_|refine GoR.ge rfl rfl rfl rfl rfl rfl ?_|refine GoR.addN' rfl rfl rfl rfl rfl rfl (g:=?_)|refine GoR.subN' rfl rfl rfl rfl rfl rfl (g:=?_)|refine GoR.add' rfl rfl rfl rfl rfl rfl (g:=?_)|refine GoR.sub' rfl rfl rfl rfl rfl rfl (g:=?_)|refine GoR.addM' rfl rfl rfl rfl rfl rfl (g:=?_)|refine GoR.subM' rfl rfl rfl rfl rfl rfl (g:=?_)|refine GoR.mulM' rfl rfl rfl rfl rfl rfl (g:=?_)|refine GoR.shrN rfl rfl rfl rfl rfl rfl rfl ?_|refine GoR.structEq rfl rfl rfl rfl rfl rfl (by rfl) (by rfl) ?_|refine GoR.structNe rfl rfl rfl rfl rfl rfl (by rfl) (by rfl) ?_|refine GoR.strEq rfl rfl rfl rfl rfl rfl ?_|refine GoR.strNe rfl rfl rfl rfl rfl rfl ?_|refine GoR.remN' rfl rfl rfl rfl rfl rfl (g:=?_)|refine GoR.quoN' rfl rfl rfl rfl rfl rfl (g:=?_)|refine GoR.shlN' rfl rfl rfl rfl rfl rfl rfl (g:=?_)|refine GoR.orN' rfl rfl rfl rfl rfl rfl (g:=?_))|(refine GoR.kk 5 rfl ?_;first|refine GoR.len rfl rfl rfl rfl rfl ?_|refine GoR.lenStr rfl rfl rfl rfl rfl ?_|refine GoR.capB rfl rfl rfl rfl rfl ?_)|(refine GoR.kk 7 rfl ?_;first|refine GoR.pickE' rfl rfl rfl rfl rfl (hx:=rfl) (hy:=rfl) (g:=?_)|refine GoR.pickN' rfl rfl rfl rfl rfl (hx:=rfl) (hy:=rfl) (g:=?_)|refine GoR.pickB rfl rfl rfl rfl rfl rfl rfl ?_)|(refine GoR.kk 8 rfl ?_;first|refine GoR.boxA rfl rfl rfl rfl rfl ?_|refine GoR.boxS rfl rfl rfl rfl rfl rfl ?_|refine GoR.alloc rfl rfl rfl rfl ?_)|(refine GoR.kk 9 rfl ?_;first|refine GoR.strV' rfl rfl rfl rfl rfl (g:=?_)|refine GoR.conv_u8 rfl rfl rfl rfl rfl ?_|refine GoR.convW' rfl rfl rfl rfl rfl (g:=?_)|refine GoR.conv_u16 rfl rfl rfl rfl rfl ?_|refine GoR.conv_u32 rfl rfl rfl rfl rfl ?_)|(refine GoR.kk 10 rfl ?_;first|refine GoR.build' rfl rfl rfl rfl rfl rfl (g:=?_))|(refine GoR.kk 11 rfl ?_;first|refine GoR.extract rfl rfl rfl rfl rfl rfl ?_|refine GoR.not rfl rfl rfl rfl rfl ?_|refine GoR.nilCheck rfl rfl rfl rfl rfl ?_|refine GoR.nilCheckF rfl rfl rfl rfl rfl ?_|refine GoR.makeFunc rfl rfl rfl rfl rfl rfl ?_)|(refine Go.kk 0 rfl ?_;refine Go.seq ?_)|(refine Go.kk 1 rfl ?_;refine Go.region (by kernel_rfl) rfl ?_)|(refine Go.kk 3 rfl ?_;first|refine Go.cond_t' rfl (g:=?_)|refine Go.cond_f' rfl (g:=?_))|(refine Go.kk 4 rfl ?_;refine Go.block ?_)|(refine Go.kk 5 rfl ?_;first|refine Go.skip ?_|refine Go.ret ?_|refine Go.exit ?_|refine Go.scope ?_)|refine Go.leave_normal ?_|refine Go.leave_same ?_|refine Go.leave_ret ?_|refine Go.ret_code ?_|refine Go.exit_code ?_|refine Go.leave_other rfl ?_|refine Go.sc_normal ?_|refine Go.sc_ret ?_|refine Go.sc_exit ?_|refine Go.exit_back ?_|refine Go.ret_back ?_))
  refine Go.loud (by kernel_rfl) rfl ?_
  (refine Go.runL (g:=?_))
  refine GoL.store1' rfl rfl rfl rfl rfl rfl (hS := sv) (hw := hW) (g:=?_)
  intro H3 sv3 k3 n3
  (refine Go.runL (g:=?_))
  refine GoL.store1' rfl rfl rfl rfl rfl rfl (hS := sv3) (hw := hW) (g:=?_)
  intro H4 sv4 k4 n4
  (refine Go.runL (g:=?_))
  (refine GoL.end_ (g:=?_))
  rw [ksU_swp] at sv4
  (refine Go.run (g:=?_))
  exact Go.again (I + 1, J - 1, swp e I J, H4) ⟨by simp only; omega, by simp only; omega, by simp only; omega, by simp only; omega, by simp only [swp_size]; exact he, (kp.tr k3).tr k4, sv4, eq⟩ (by simp only; omega) ⟨rfl, rfl, rfl, rfl, trivial⟩ rfl rfl
end Go.Proofs.Ytfcfgmhcphmefaa
namespace Go.Proofs.Ytfcfgmhcphmefaa
open Go.Sort
set_option maxRecDepth 100000
attribute [local irreducible] Go GoR GoL
set_option maxHeartbeats 32000000 in
theorem parteqU_spec (a : Option Addr) (cap : Nat) (d : Array Int) (x y pv : Nat) (hx : x ≤ pv) (hp : pv < y) (hxy : x + 2 ≤ y) (hy : y ≤ d.size) (hn : d.size ≤ 1000000) (h : AHeap) (hS : KvU h a cap d) : CallS Try.prog (blk a) 74 [.slice a d.size cap, .int .i64 x, .int .i64 y, .int .i64 pv] h fun v h' => v = .int .i64 (partitionEqual ltInt d x y pv).1 ∧ (partitionEqual ltInt d x y pv).2.size = d.size ∧ Sv h' 46 1 a d.size cap (ksU (partitionEqual ltInt d x y pv).2) := by
  unfold partitionEqual
  unfold KvU at hS
  generalize hL : d.size = L at *
  have hW : ∀ i ∈ blk a, i ∈ blk a ∨ h.n ≤ i := fun i hi => .inl hi
  have c1 : (ksU d)[x]? = some (.int .u16 d[x]!) := ksU_get (by omega)
  have c2 : (ksU d)[pv]? = some (.int .u16 d[pv]!) := ksU_get (by omega)
  have hl0 := ksU_len d
  have sv := hS
  (refine CallS.of4 Try.func74 rfl Try.ntmps74 Try.results74 rfl ?_)
  (repeat (first|refine GoR.end ?_|(refine GoR.gd rfl ?_;first|refine GoR.wanted' rfl rfl rfl rfl (g:=?_)|refine GoR.unwanted' rfl rfl rfl rfl (hd:=rfl) (hN:=rfl) (g:=?_)|refine GoR.unwantedU rfl rfl rfl rfl rfl rfl ?_)|(refine GoR.kk 0 rfl ?_;first|refine GoR.move rfl rfl rfl rfl rfl ?_|refine GoR.assign rfl rfl rfl rfl rfl ?_)|(refine GoR.kk 1 rfl ?_;first|refine GoR.load' rfl rfl rfl rfl rfl (g:=?_)|refine GoR.loadA' rfl rfl rfl rfl rfl (hv:=rfl) (g:=?_)|refine GoR.loadV' rfl rfl rfl rfl rfl (g:=?_)|refine GoR.loadVN' rfl rfl rfl rfl rfl (g:=?_))|(refine GoR.kk 2 rfl ?_;first|refine GoR.store' rfl rfl rfl rfl rfl (hl:=rfl) (h1:=rfl) (h3:=rfl) (g:=?_))|(refine GoR.kk 3 rfl ?_;first|refine GoR.fieldAddr rfl rfl rfl rfl rfl ?_|refine GoR.indexN' rfl rfl rfl rfl rfl rfl (g:=?_)|refine GoR.indexNs' rfl rfl rfl rfl rfl rfl (g:=?_)|refine GoR.indexV' rfl rfl rfl rfl rfl rfl (g:=?_)|refine GoR.indexA' rfl rfl rfl rfl rfl rfl (g:=?_)|refine GoR.fieldV' rfl rfl rfl rfl rfl (g:=?_))|(refine GoR.kk 4 rfl ?_;first|refine GoR.eq rfl rfl rfl rfl rfl rfl ?_|refine GoR.ne rfl rfl rfl rfl rfl rfl ?_|refine GoR.lt rfl rfl rfl rfl rfl rfl ?_|refine GoR.le rfl rfl rfl rfl rfl rfl ?_|refine GoR.gt rfl rfl rfl rfl rfl rfl ?_|refine GoR.ge rfl rfl rfl rfl rfl rfl ?_|refine GoR.addN' rfl rfl rfl rfl rfl rfl (g:=?_)|refine GoR.subN' rfl rfl rfl rfl rfl rfl (g:=?_)|refine GoR.add' rfl rfl rfl rfl rfl rfl (g:=?_)|refine GoR.sub' rfl rfl rfl rfl rfl rfl (g:=?_)|refine GoR.addM' rfl rfl rfl rfl rfl rfl (g:=?_)|refine GoR.subM' rfl rfl rfl rfl rfl rfl (g:=?_)|refine GoR.mulM' rfl rfl rfl rfl rfl rfl (g:=?_)|refine GoR.shrN rfl rfl rfl rfl rfl rfl rfl ?_|refine GoR.structEq rfl rfl rfl rfl rfl rfl (by rfl) (by rfl) ?_|refine GoR.structNe rfl rfl rfl rfl rfl rfl (by rfl) (by rfl) ?_|refine GoR.strEq rfl rfl rfl rfl rfl rfl ?_|refine GoR.strNe rfl rfl rfl rfl rfl rfl ?_|refine GoR.remN' rfl rfl rfl rfl rfl rfl (g:=?_)|refine GoR.quoN' rfl rfl rfl rfl rfl rfl (g:=?_)|refine GoR.shlN' rfl rfl rfl rfl rfl rfl rfl (g:=?_)|refine GoR.orN' rfl rfl rfl rfl rfl rfl (g:=?_))|(refine GoR.kk 5 rfl ?_;first|refine GoR.len rfl rfl rfl rfl rfl ?_|refine GoR.lenStr rfl rfl rfl rfl rfl ?_|refine GoR.capB rfl rfl rfl rfl rfl ?_)|(refine GoR.kk 7 rfl ?_;first|refine GoR.pickE' rfl rfl rfl rfl rfl (hx:=rfl) (hy:=rfl) (g:=?_)|refine GoR.pickN' rfl rfl rfl rfl rfl (hx:=rfl) (hy:=rfl) (g:=?_)|refine GoR.pickB rfl rfl rfl rfl rfl rfl rfl ?_)|(refine GoR.kk 8 rfl ?_;first|refine GoR.boxA rfl rfl rfl rfl rfl ?_|refine GoR.boxS rfl rfl rfl rfl rfl rfl ?_|refine GoR.alloc rfl rfl rfl rfl ?_)|(refine GoR.kk 9 rfl ?_;first|refine GoR.strV' rfl rfl rfl rfl rfl (g:=?_)|refine GoR.conv_u8 rfl rfl rfl rfl rfl ?_|refine GoR.convW' rfl rfl rfl rfl rfl (g:=?_)|refine GoR.conv_u16 rfl rfl rfl rfl rfl ?_|refine GoR.conv_u32 rfl rfl rfl rfl rfl ?_)|(refine GoR.kk 10 rfl ?_;first|refine GoR.build' rfl rfl rfl rfl rfl rfl (g:=?_))|(refine GoR.kk 11 rfl ?_;first|refine GoR.extract rfl rfl rfl rfl rfl rfl ?_|refine GoR.not rfl rfl rfl rfl rfl ?_|refine GoR.nilCheck rfl rfl rfl rfl rfl ?_|refine GoR.nilCheckF rfl rfl rfl rfl rfl ?_|refine GoR.makeFunc rfl rfl rfl rfl rfl rfl ?_)|(refine Go.kk 0 rfl ?_;refine Go.seq ?_)|(refine Go.kk 1 rfl ?_;refine Go.region (by kernel_rfl) rfl ?_)|(refine Go.kk 3 rfl ?_;first|refine Go.cond_t' rfl (g:=?_)|refine Go.cond_f' rfl (g:=?_))|(refine Go.kk 4 rfl ?_;refine Go.block ?_)|(refine Go.kk 5 rfl ?_;first|refine Go.skip ?_|refine Go.ret ?_|refine Go.exit ?_|refine Go.scope ?_)|refine Go.leave_normal ?_|refine Go.leave_same ?_|refine Go.leave_ret ?_|refine Go.ret_code ?_|refine Go.exit_code ?_|refine Go.leave_other rfl ?_|refine Go.sc_normal ?_|refine Go.sc_ret ?_|refine Go.sc_exit ?_|refine Go.exit_back ?_|refine Go.ret_back ?_))
  refine Go.loud (by kernel_rfl) rfl ?_
  (refine Go.runL (g:=?_))
  refine GoL.store1' rfl rfl rfl rfl rfl rfl (hS := sv) (hw := hW) (g:=?_)
  intro H3 sv3 k3 n3
  (refine Go.runL (g:=?_))
  refine GoL.store1' rfl rfl rfl rfl rfl rfl (hS := sv3) (hw := hW) (g:=?_)
  intro H4 sv4 k4 n4
  (refine Go.runL (g:=?_))
  (refine GoL.end_ (g:=?_))
  rw [ksU_swp] at sv4
  have he : (swp d x pv).size = L := by rw [swp_size]; exact hL
  (refine Go.run (g:=?_))
  obtain ⟨F, hF⟩ : ∃ F, F = partEqLoop ltInt x (x + 1) (y - 1) (swp d x pv) := ⟨_, rfl⟩
  rw [← hF]
  refine Go.loop (α := Nat × Nat × Array Int × AHeap) (fun s => [(9, .int .i64 s.1), (10, .int .i64 s.2.1), (0, .slice a L cap), (1, .int .i64 x)]) (fun _ => []) (fun s => s.2.2.2) (fun s => x < s.1 ∧ s.1 ≤ s.2.1 + 2 ∧ x ≤ s.2.1 ∧ s.2.1 < L ∧ s.2.2.1.size = L ∧ Keeps (blk a) h s.2.2.2 ∧ Sv s.2.2.2 46 1 a L cap (ksU s.2.2.1) ∧ F = partEqLoop ltInt x s.1 s.2.1 s.2.2.1) (fun s => s.2.1 + 1 - s.1) (x + 1, y - 1, swp d x pv, H4) ?_ ?_ rfl rfl ?_
  · exact ⟨by simp only; omega, by simp only; omega, by simp only; omega, by simp only; omega, he, k3.tr k4, sv4, hF⟩
  · exact ⟨rfl, rfl, rfl, rfl, trivial⟩
  clear hF he sv sv3 sv4 k3 k4 n3 n4 c1 c2 hl0
  rintro ⟨i, j, e, H⟩ ⟨q1, q2, q3, q4, he, kp, sv, eq⟩
  simp only at q1 q2 q3 q4 he kp sv eq ⊢
  have hl := ksU_len e
  rw [partEqLoop] at eq
  try simp only at eq
  (refine Go.run (g:=?_))
  obtain ⟨I, hI⟩ : ∃ I, I = scanUp (fun v => !ltInt e[x]! v) e j i := ⟨_, rfl⟩
  have bI := scanUp_ge (fun v => !ltInt e[x]! v) e j i
  rw [← hI] at bI
  refine Go.join2 (α := Unit) (fun _ => [(9, .int .i64 I), (10, .int .i64 j), (0, .slice a L cap), (1, .int .i64 x)]) (fun _ => []) (fun _ => H) (fun _ => True) ?_ ?_
  · refine Go.loop (α := Nat) (fun s => [(9, .int .i64 s), (10, .int .i64 j), (0, .slice a L cap), (1, .int .i64 x)]) (fun _ => []) (fun _ => H) (fun s => i ≤ s ∧ s ≤ max i (j + 1) ∧ I = scanUp (fun v => !ltInt e[x]! v) e j s) (fun s => j + 1 - s) i ?_ ?_ rfl rfl ?_
    · exact ⟨Nat.le_refl _, by omega, hI⟩
    · exact ⟨rfl, rfl, rfl, rfl, trivial⟩
    rintro i2 ⟨hi2, hi3, eq2⟩
    rcases Nat.lt_or_ge j i2 with z | z
    · rw [scanUp_stop (.inl z)] at eq2
      subst eq2
      (refine Go.run (g:=?_))
      exact Go.joined () trivial ⟨rfl, rfl, rfl, rfl, trivial⟩ rfl rfl
    have c1 : (ksU e)[i2]? = some (.int .u16 e[i2]!) := ksU_get (by omega)
    have c2 : (ksU e)[x]? = some (.int .u16 e[x]!) := ksU_get (by omega)
    (refine Go.run (g:=?_))
    refine GoR.call rfl rfl rfl rfl rfl rfl rfl (((lessU_spec _ _ _).argA).mono ?_)
    rintro _ H2 ⟨rfl, rfl⟩ -
    cases hq : decide (e[x]! < e[i2]!) with
    | true =>
      rw [scanUp_stop (.inr (by show (!decide (e[x]! < e[i2]!)) = false; rw [hq]; try rfl))] at eq2
      subst eq2
      (refine Go.run (g:=?_))
      exact Go.joined () trivial ⟨rfl, rfl, rfl, rfl, trivial⟩ rfl rfl
    | false =>
      rw [scanUp_more z (by show (!decide (e[x]! < e[i2]!)) = true; rw [hq]; try rfl)] at eq2
      (refine Go.run (g:=?_))
      exact Go.again (i2 + 1) ⟨by omega, by omega, eq2⟩ (by omega) ⟨rfl, rfl, rfl, rfl, trivial⟩ rfl rfl
  intro _ _
  (refine Go.run (g:=?_))
  rw [← hI] at eq
  clear hI
  obtain ⟨J, hJ⟩ : ∃ J, J = scanDown (fun v => ltInt e[x]! v) e I j := ⟨_, rfl⟩
  have bJ := scanDown_le (fun v => ltInt e[x]! v) e I j
  rw [← hJ] at bJ
  refine Go.join2 (α := Unit) (fun _ => [(9, .int .i64 I), (10, .int .i64 J), (0, .slice a L cap), (1, .int .i64 x)]) (fun _ => []) (fun _ => H) (fun _ => True) ?_ ?_
  · refine Go.loop (α := Nat) (fun s => [(9, .int .i64 I), (10, .int .i64 s), (0, .slice a L cap), (1, .int .i64 x)]) (fun _ => []) (fun _ => H) (fun s => s ≤ j ∧ J = scanDown (fun v => ltInt e[x]! v) e I s) (fun s => s) j ?_ ?_ rfl rfl ?_
    · exact ⟨Nat.le_refl _, hJ⟩
    · exact ⟨rfl, rfl, rfl, rfl, trivial⟩
    rintro j2 ⟨hi2, eq2⟩
    rcases Nat.lt_or_ge j2 I with z | z
    · rw [scanDown_stop (by omega) (.inl z)] at eq2
      subst eq2
      (refine Go.run (g:=?_))
      exact Go.joined () trivial ⟨rfl, rfl, rfl, rfl, trivial⟩ rfl rfl
    have c1 : (ksU e)[j2]? = some (.int .u16 e[j2]!) := ksU_get (by omega)
    have c2 : (ksU e)[x]? = some (.int .u16 e[x]!) := ksU_get (by omega)
    (refine Go.run (g:=?_))
    refine GoR.call rfl rfl rfl rfl rfl rfl rfl (((lessU_spec _ _ _).argA).mono ?_)
    rintro _ H2 ⟨rfl, rfl⟩ -
    cases hq : decide (e[x]! < e[j2]!) with
    | false =>
      rw [scanDown_stop (by omega) (.inr (by show decide (e[x]! < e[j2]!) = false; rw [hq]; try rfl))] at eq2
      subst eq2
      (refine Go.run (g:=?_))
      exact Go.joined () trivial ⟨rfl, rfl, rfl, rfl, trivial⟩ rfl rfl
    | true =>
      rw [scanDown_more (by omega) z (by show decide (e[x]! < e[j2]!) = true; rw [hq]; try rfl)] at eq2
      (refine Go.run (g:=?_))
      exact Go.again (j2 - 1) ⟨by omega, eq2⟩ (by omega) ⟨rfl, rfl, rfl, rfl, trivial⟩ rfl rfl
  intro _ _
  rw [← hJ] at eq
  have c2 : J < L := by omega
  rcases Nat.lt_or_ge J I with z | z
  · rw [if_pos z] at eq
    subst eq
    (refine Go.run (g:=?_))
    (first|refine Go.finT (by first|exact .inr rfl|exact .inl rfl) rfl ?_|refine Go.fin1 (by first|exact .inr rfl|exact .inl rfl) rfl (hq:=?_))
    exact ⟨rfl, he, sv⟩
  rw [if_neg (by omega), dif_pos (by omega)] at eq
  have c2 : (ksU e)[J]? = some (.int .u16 e[J]!) := ksU_get (by omega)
  have c3 : (ksU e)[I]? = some (.int .u16 e[I]!) := ksU_get (by omega)
  (repeat (first|refine GoR.end ?_|(refine GoR.gd rfl ?_;first|refine GoR.wanted' rfl rfl rfl rfl (g:=?_)|refine GoR.unwanted' rfl rfl rfl rfl (hd:=rfl) (hN:=rfl) (g:=?_)|refine GoR.unwantedU rfl rfl rfl rfl rfl rfl ?_)|(refine GoR.kk 0 rfl ?_;first|refine GoR.move rfl rfl rfl rfl rfl ?_|refine GoR.assign rfl rfl rfl rfl rfl ?_)|(refine GoR.kk 1 rfl ?_;first|refine GoR.load' rfl rfl rfl rfl rfl (g:=?_)|refine GoR.loadA' rfl rfl rfl rfl rfl (hv:=rfl) (g:=?_)|refine GoR.loadV' rfl rfl rfl rfl rfl (g:=?_)|refine GoR.loadVN' rfl rfl rfl rfl rfl (g:=?_))|(refine GoR.kk 2 rfl ?_;first|refine GoR.store' rfl rfl rfl rfl rfl (hl:=rfl) (h1:=rfl) (h3:=rfl) (g:=?_))|(refine GoR.kk 3 rfl ?_;first|refine GoR.fieldAddr rfl rfl rfl rfl rfl ?_|refine GoR.indexN' rfl rfl rfl rfl rfl rfl (g:=?_)|refine GoR.indexNs' rfl rfl rfl rfl rfl rfl (g:=?_)|refine GoR.indexV' rfl rfl rfl rfl rfl rfl (g:=?_)|refine GoR.indexA' rfl rfl rfl rfl rfl rfl (g:=?_)|refine GoR.fieldV' rfl rfl rfl rfl rfl (g:=?_))|(refine GoR.kk 4 rfl ?_;first|refine GoR.eq rfl rfl rfl rfl rfl rfl ?_|refine GoR.ne rfl rfl rfl rfl rfl rfl ?_|refine GoR.lt rfl rfl rfl rfl rfl rfl ?_|refine GoR.le rfl rfl rfl rfl rfl rfl ?_|refine GoR.gt rfl rfl rfl rfl rfl rfl ?_|refine GoR.ge rfl rfl rfl rfl rfl rfl ?_|refine GoR.addN' rfl rfl rfl rfl rfl rfl (g:=?_)|refine GoR.subN' rfl rfl rfl rfl rfl rfl (g:=?_)|refine GoR.add' rfl rfl rfl rfl rfl rfl (g:=?_)|refine GoR.sub' rfl rfl rfl rfl rfl rfl (g:=?_)|refine GoR.addM' rfl rfl rfl rfl rfl rfl (g:=?_)|refine GoR.subM' rfl rfl rfl rfl rfl rfl (g:=?_)|refine GoR.mulM' rfl rfl rfl rfl rfl rfl (g:=?_)|refine GoR.shrN rfl rfl rfl rfl rfl rfl rfl ?_|refine GoR.structEq rfl rfl rfl rfl rfl rfl (by rfl) (by rfl) ?_|refine GoR.structNe rfl rfl rfl rfl rfl rfl (by rfl) (by rfl) ?_|refine GoR.strEq rfl rfl rfl rfl rfl rfl ?_|refine GoR.strNe rfl rfl rfl rfl rfl rfl ?_|refine GoR.remN' rfl rfl rfl rfl rfl rfl (g:=?_)|refine GoR.quoN' rfl rfl rfl rfl rfl rfl (g:=?_)|refine GoR.shlN' rfl rfl rfl rfl rfl rfl rfl (g:=?_)|refine GoR.orN' rfl rfl rfl rfl rfl rfl (g:=?_))|(refine GoR.kk 5 rfl ?_;first|refine GoR.len rfl rfl rfl rfl rfl ?_|refine GoR.lenStr rfl rfl rfl rfl rfl ?_|refine GoR.capB rfl rfl rfl rfl rfl ?_)|(refine GoR.kk 7 rfl ?_;first|refine GoR.pickE' rfl rfl rfl rfl rfl (hx:=rfl) (hy:=rfl) (g:=?_)|refine GoR.pickN' rfl rfl rfl rfl rfl (hx:=rfl) (hy:=rfl) (g:=?_)|refine GoR.pickB rfl rfl rfl rfl rfl rfl rfl ?_)|(refine GoR.kk 8 rfl ?_;first|refine GoR.boxA rfl rfl rfl rfl rfl ?_|refine GoR.boxS rfl rfl rfl rfl rfl rfl ?_|refine GoR.alloc rfl rfl rfl rfl ?_)|(refine GoR.kk 9 rfl ?_;first|refine GoR.strV' rfl rfl rfl rfl rfl (g:=?_)|refine GoR.conv_u8 rfl rfl rfl rfl rfl ?_|refine GoR.convW' rfl rfl rfl rfl rfl (g:=?_)|refine GoR.conv_u16 rfl rfl rfl rfl rfl ?_|refine GoR.conv_u32 rfl rfl rfl rfl rfl ?_)|(refine GoR.kk 10 rfl ?_;first|refine GoR.build' rfl rfl rfl rfl rfl rfl (g:=?_))|(refine GoR.kk 11 rfl ?_;first|refine GoR.extract rfl rfl rfl rfl rfl rfl ?_|refine GoR.not rfl rfl rfl rfl rfl ?_|refine GoR.nilCheck rfl rfl rfl rfl rfl ?_|refine GoR.nilCheckF rfl rfl rfl rfl rfl ?_|refine GoR.makeFunc rfl rfl rfl rfl rfl rfl ?_)|(refine Go.kk 0 rfl ?_;refine Go.seq ?_)|(refine Go.kk 1 rfl ?_;refine Go.region (by kernel_rfl) rfl ?_)|(refine Go.kk 3 rfl ?_;first|refine Go.cond_t' rfl (g:=?_)|refine Go.cond_f' rfl (g:=?_))|(refine Go.kk 4 rfl ?_;refine Go.block ?_)|(refine Go.kk 5 rfl ?_;first|refine Go.skip ?_|refine Go.ret ?_|refine Go.exit ?_|refine Go.scope ?_)|refine Go.leave_normal ?_|refine Go.leave_same ?_|refine Go.leave_ret ?_|refine Go.ret_code ?_|refine Go.exit_code ?_|refine Go.leave_other rfl ?_|refine Go.sc_normal ?_|refine Go.sc_ret ?_|refine Go.sc_exit ?_|refine Go.exit_back ?_|refine Go.ret_back ?_))
  refine Go.loud (by kernel_rfl) rfl ?_
  (refine Go.runL (g:=?_))
  refine GoL.store1' rfl rfl rfl rfl rfl rfl (hS := sv) (hw := hW) (g:=?_)
  intro H3 sv3 k3 n3
  (refine Go.runL (g:=?_))
  refine GoL.store1' rfl rfl rfl rfl rfl rfl (hS := sv3) (hw := hW) (g:=?_)
  intro H4 sv4 k4 n4
  (refine Go.runL (g:=?_))
  (refine GoL.end_ (g:=?_))
  rw [ksU_swp] at sv4
  (refine Go.run (g:=?_))
  exact Go.again (I + 1, J - 1, swp e I J, H4) ⟨by simp only; omega, by simp only; omega, by simp only; omega, by simp only; omega, by simp only [swp_size]; exact he, (kp.tr k3).tr k4, sv4, eq⟩ (by simp only; omega) ⟨rfl, rfl, rfl, rfl, trivial⟩ rfl rfl
end Go.Proofs.Ytfcfgmhcphmefaa
namespace Go.Proofs.Ytfcfgmhcphmefaa
open Go.Sort
set_option maxRecDepth 100000
attribute [local irreducible] Go GoR GoL
set_option maxHeartbeats 32000000 in
theorem pinsU_spec (a : Option Addr) (cap : Nat) (d : Array Int) (x y : Nat) (hxy : x < y) (hy : y ≤ d.size) (hn : d.size ≤ 1000000) (h : AHeap) (hS : KvU h a cap d) : CallS Try.prog (blk a) 72 [.slice a d.size cap, .int .i64 x, .int .i64 y] h fun v h' => v = .bool (partialInsertionSort ltInt d x y).2 ∧ (partialInsertionSort ltInt d x y).1.size = d.size ∧ Sv h' 46 1 a d.size cap (ksU (partialInsertionSort ltInt d x y).1) := by
  unfold partialInsertionSort
  unfold KvU at hS
  generalize hL : d.size = L at *
  have hW : ∀ i ∈ blk a, i ∈ blk a ∨ h.n ≤ i := fun i hi => .inl hi
  obtain ⟨R, hR⟩ : ∃ R, R = partialIns ltInt x y 5 (x + 1) d := ⟨_, rfl⟩
  rw [← hR]
  (refine CallS.of3 Try.func72 rfl Try.ntmps72 Try.results72 rfl ?_)
  (refine Go.run (g:=?_))
  refine Go.loop (α := Nat × Nat × Array Int × AHeap) (fun s => [(8, .int .i64 s.1), (7, .int .i64 s.2.1), (0, .slice a L cap), (1, .int .i64 x), (2, .int .i64 y)]) (fun _ => []) (fun s => s.2.2.2) (fun s => s.1 ≤ 5 ∧ x < s.2.1 ∧ s.2.1 ≤ y ∧ s.2.2.1.size = L ∧ Keeps (blk a) h s.2.2.2 ∧ Sv s.2.2.2 46 1 a L cap (ksU s.2.2.1) ∧ R = partialIns ltInt x y (5 - s.1) s.2.1 s.2.2.1) (fun s => 5 - s.1) (0, x + 1, d, h) ?_ ?_ rfl rfl ?_
  · exact ⟨by simp only; omega, by simp only; omega, by simp only; omega, hL, Keeps.rf _ _, hS, hR⟩
  · exact ⟨rfl, rfl, rfl, rfl, rfl, trivial⟩
  clear hR hS hL
  clear d
  rintro ⟨k, i, e, H⟩ ⟨hk, hi1, hi2, he, kp, sv, eq⟩
  simp only at hk hi1 hi2 he kp sv eq ⊢
  rcases Nat.lt_or_ge k 5 with k0 | k0
  case inr =>
    obtain rfl : k = 5 := by omega
    have eq : R = (e, false) := eq
    subst eq
    (refine Go.run (g:=?_))
    (first|refine Go.finT (by first|exact .inr rfl|exact .inl rfl) rfl ?_|refine Go.fin1 (by first|exact .inr rfl|exact .inl rfl) rfl (hq:=?_))
    exact ⟨rfl, he, sv⟩
  obtain ⟨s, hs⟩ : ∃ s, 5 - k = s + 1 := ⟨4 - k, by omega⟩
  rw [hs, partialIns] at eq
  try simp only at eq
  have hl := ksU_len e
  (refine Go.run (g:=?_))
  obtain ⟨I, hI⟩ : ∃ I, I = scanSorted ltInt e y i := ⟨_, rfl⟩
  have bI := scanSorted_ge e y i
  rw [← hI] at bI eq
  refine Go.join2 (α := Unit) (fun _ => [(8, .int .i64 k), (7, .int .i64 I), (0, .slice a L cap), (1, .int .i64 x), (2, .int .i64 y)]) (fun _ => []) (fun _ => H) (fun _ => True) ?_ ?_
  · refine Go.loop (α := Nat) (fun s => [(8, .int .i64 k), (7, .int .i64 s), (0, .slice a L cap), (1, .int .i64 x), (2, .int .i64 y)]) (fun _ => []) (fun _ => H) (fun s => i ≤ s ∧ s ≤ y ∧ I = scanSorted ltInt e y s) (fun s => y - s) i ?_ ?_ rfl rfl ?_
    · exact ⟨Nat.le_refl _, hi2, hI⟩
    · exact ⟨rfl, rfl, rfl, rfl, rfl, trivial⟩
    clear eq
    rintro i2 ⟨g1, g2, eq2⟩
    rcases Nat.lt_or_ge i2 y with z | z
    case inr =>
      rw [scanSorted_stop (.inl z)] at eq2
      subst eq2
      (refine Go.run (g:=?_))
      exact Go.joined () trivial ⟨rfl, rfl, rfl, rfl, rfl, trivial⟩ rfl rfl
    have c1 : (ksU e)[i2]? = some (.int .u16 e[i2]!) := ksU_get (by omega)
    have c2 : (ksU e)[i2 - 1]? = some (.int .u16 e[i2 - 1]!) := ksU_get (by omega)
    (refine Go.run (g:=?_))
    refine GoR.call rfl rfl rfl rfl rfl rfl rfl (((lessU_spec _ _ _).argA).mono ?_)
    rintro _ H2 ⟨rfl, rfl⟩ -
    cases hq : decide (e[i2]! < e[i2 - 1]!) with
    | true =>
      rw [scanSorted_stop (.inr hq)] at eq2
      subst eq2
      (refine Go.run (g:=?_))
      exact Go.joined () trivial ⟨rfl, rfl, rfl, rfl, rfl, trivial⟩ rfl rfl
    | false =>
      rw [scanSorted_more z hq] at eq2
      (refine Go.run (g:=?_))
      exact Go.again (i2 + 1) ⟨by omega, by omega, eq2⟩ (by omega) ⟨rfl, rfl, rfl, rfl, rfl, trivial⟩ rfl rfl
  intro _ _
  clear hI
  by_cases z1 : I = y
  · rw [if_pos z1] at eq
    subst eq
    (refine Go.run (g:=?_))
    (first|refine Go.finT (by first|exact .inr rfl|exact .inl rfl) rfl ?_|refine Go.fin1 (by first|exact .inr rfl|exact .inl rfl) rfl (hq:=?_))
    exact ⟨rfl, he, sv⟩
  rw [if_neg z1] at eq
  rcases Nat.lt_or_ge (y - x) 50 with z2 | z2
  · rw [if_pos z2] at eq
    subst eq
    (refine Go.run (g:=?_))
    (first|refine Go.finT (by first|exact .inr rfl|exact .inl rfl) rfl ?_|refine Go.fin1 (by first|exact .inr rfl|exact .inl rfl) rfl (hq:=?_))
    exact ⟨rfl, he, sv⟩
  rw [if_neg (by omega)] at eq
  have c1 : (ksU e)[I]? = some (.int .u16 e[I]!) := ksU_get (by omega)
  have c2 : (ksU e)[I - 1]? = some (.int .u16 e[I - 1]!) := ksU_get (by omega)
  (repeat (first|refine GoR.end ?_|(refine GoR.gd rfl ?_;first|refine GoR.wanted' rfl rfl rfl rfl (g:=?_)|refine GoR.unwanted' rfl rfl rfl rfl (hd:=rfl) (hN:=rfl) (g:=?_)|refine GoR.unwantedU rfl rfl rfl rfl rfl rfl ?_)|(refine GoR.kk 0 rfl ?_;first|refine GoR.move rfl rfl rfl rfl rfl ?_|refine GoR.assign rfl rfl rfl rfl rfl ?_)|(refine GoR.kk 1 rfl ?_;first|refine GoR.load' rfl rfl rfl rfl rfl (g:=?_)|refine GoR.loadA' rfl rfl rfl rfl rfl (hv:=rfl) (g:=?_)|refine GoR.loadV' rfl rfl rfl rfl rfl (g:=?_)|refine GoR.loadVN' rfl rfl rfl rfl rfl (g:=?_))|(refine GoR.kk 2 rfl ?_;first|refine GoR.store' rfl rfl rfl rfl rfl (hl:=rfl) (h1:=rfl) (h3:=rfl) (g:=?_))|(refine GoR.kk 3 rfl ?_;first|refine GoR.fieldAddr rfl rfl rfl rfl rfl ?_|refine GoR.indexN' rfl rfl rfl rfl rfl rfl (g:=?_)|refine GoR.indexNs' rfl rfl rfl rfl rfl rfl (g:=?_)|refine GoR.indexV' rfl rfl rfl rfl rfl rfl (g:=?_)|refine GoR.indexA' rfl rfl rfl rfl rfl rfl (g:=?_)|refine GoR.fieldV' rfl rfl rfl rfl rfl (g:=?_))|(refine GoR.kk 4 rfl ?_;first|refine GoR.eq rfl rfl rfl rfl rfl rfl ?_|refine GoR.ne rfl rfl rfl rfl rfl rfl ?_|refine GoR.lt rfl rfl rfl rfl rfl rfl ?_|refine GoR.le rfl rfl rfl rfl rfl rfl ?_|refine GoR.gt rfl rfl rfl rfl rfl rfl ?_|refine GoR.ge rfl rfl rfl rfl rfl rfl ?_|refine GoR.addN' rfl rfl rfl rfl rfl rfl (g:=?_)|refine GoR.subN' rfl rfl rfl rfl rfl rfl (g:=?_)|refine GoR.add' rfl rfl rfl rfl rfl rfl (g:=?_)|refine GoR.sub' rfl rfl rfl rfl rfl rfl (g:=?_)|refine GoR.addM' rfl rfl rfl rfl rfl rfl (g:=?_)|refine GoR.subM' rfl rfl rfl rfl rfl rfl (g:=?_)|refine GoR.mulM' rfl rfl rfl rfl rfl rfl (g:=?_)|refine GoR.shrN rfl rfl rfl rfl rfl rfl rfl ?_|refine GoR.structEq rfl rfl rfl rfl rfl rfl (by rfl) (by rfl) ?_|refine GoR.structNe rfl rfl rfl rfl rfl rfl (by rfl) (by rfl) ?_|refine GoR.strEq rfl rfl rfl rfl rfl rfl ?_|refine GoR.strNe rfl rfl rfl rfl rfl rfl ?_|refine GoR.remN' rfl rfl rfl rfl rfl rfl (g:=?_)|refine GoR.quoN' rfl rfl rfl rfl rfl rfl (g:=?_)|refine GoR.shlN' rfl rfl rfl rfl rfl rfl rfl (g:=?_)|refine GoR.orN' rfl rfl rfl rfl rfl rfl (g:=?_))|(refine GoR.kk 5 rfl ?_;first|refine GoR.len rfl rfl rfl rfl rfl ?_|refine GoR.lenStr rfl rfl rfl rfl rfl ?_|refine GoR.capB rfl rfl rfl rfl rfl ?_)|(refine GoR.kk 7 rfl ?_;first|refine GoR.pickE' rfl rfl rfl rfl rfl (hx:=rfl) (hy:=rfl) (g:=?_)|refine GoR.pickN' rfl rfl rfl rfl rfl (hx:=rfl) (hy:=rfl) (g:=?_)|refine GoR.pickB rfl rfl rfl rfl rfl rfl rfl ?_)|(refine GoR.kk 8 rfl ?_;first|refine GoR.boxA rfl rfl rfl rfl rfl ?_|refine GoR.boxS rfl rfl rfl rfl rfl rfl ?_|refine GoR.alloc rfl rfl rfl rfl ?_)|(refine GoR.kk 9 rfl ?_;first|refine GoR.strV' rfl rfl rfl rfl rfl (g:=?_)|refine GoR.conv_u8 rfl rfl rfl rfl rfl ?_|refine GoR.convW' rfl rfl rfl rfl rfl (g:=?_)|refine GoR.conv_u16 rfl rfl rfl rfl rfl ?_|refine GoR.conv_u32 rfl rfl rfl rfl rfl ?_)|(refine GoR.kk 10 rfl ?_;first|refine GoR.build' rfl rfl rfl rfl rfl rfl (g:=?_))|(refine GoR.kk 11 rfl ?_;first|refine GoR.extract rfl rfl rfl rfl rfl rfl ?_|refine GoR.not rfl rfl rfl rfl rfl ?_|refine GoR.nilCheck rfl rfl rfl rfl rfl ?_|refine GoR.nilCheckF rfl rfl rfl rfl rfl ?_|refine GoR.makeFunc rfl rfl rfl rfl rfl rfl ?_)|(refine Go.kk 0 rfl ?_;refine Go.seq ?_)|(refine Go.kk 1 rfl ?_;refine Go.region (by kernel_rfl) rfl ?_)|(refine Go.kk 3 rfl ?_;first|refine Go.cond_t' rfl (g:=?_)|refine Go.cond_f' rfl (g:=?_))|(refine Go.kk 4 rfl ?_;refine Go.block ?_)|(refine Go.kk 5 rfl ?_;first|refine Go.skip ?_|refine Go.ret ?_|refine Go.exit ?_|refine Go.scope ?_)|refine Go.leave_normal ?_|refine Go.leave_same ?_|refine Go.leave_ret ?_|refine Go.ret_code ?_|refine Go.exit_code ?_|refine Go.leave_other rfl ?_|refine Go.sc_normal ?_|refine Go.sc_ret ?_|refine Go.sc_exit ?_|refine Go.exit_back ?_|refine Go.ret_back ?_))
  refine Go.loud (by kernel_rfl) rfl ?_
  (refine Go.runL (g:=?_))
  refine GoL.store1' rfl rfl rfl rfl rfl rfl (hS := sv) (hw := hW) (g:=?_)
  intro H3 sv3 k3 n3
  (refine Go.runL (g:=?_))
  refine GoL.store1' rfl rfl rfl rfl rfl rfl (hS := sv3) (hw := hW) (g:=?_)
  intro H4 sv4 k4 n4
  (refine Go.runL (g:=?_))
  (refine GoL.end_ (g:=?_))
  rw [ksU_swp] at sv4
  have he1 : (swp e I (I - 1)).size = L := by rw [swp_size]; exact he
  have kp1 := (kp.tr k3).tr k4
  generalize swp e I (I - 1) = g at *
  clear sv sv3 k3 k4 n3 n4 c1 c2 hl he kp
  obtain ⟨G2, hG2⟩ : ∃ G2, G2 = (if I - x ≥ 2 then shiftDown ltInt (I - 1) g else g) := ⟨_, rfl⟩
  rw [← hG2] at eq
  obtain ⟨G3, hG3⟩ : ∃ G3, G3 = (if y - I ≥ 2 then shiftUp ltInt y (I + 1) G2 else G2) := ⟨_, rfl⟩
  rw [← hG3] at eq
  (refine Go.run (g:=?_))
  refine Go.join1 (α := AHeap) (fun _ => [(8, .int .i64 k), (7, .int .i64 I), (0, .slice a L cap), (1, .int .i64 x), (2, .int .i64 y)]) (fun _ => []) (fun H => H) (fun H => G2.size = L ∧ Keeps (blk a) h H ∧ Sv H 46 1 a L cap (ksU G2)) ?_ ?_
  · rcases Nat.lt_or_ge (I - x) 2 with z3 | z3
    · rw [if_neg (by omega)] at hG2
      subst hG2
      (refine Go.run (g:=?_))
      exact Go.joined H4 ⟨he1, kp1, sv4⟩ ⟨rfl, rfl, rfl, rfl, rfl, trivial⟩ rfl rfl
    rw [if_pos z3] at hG2
    (refine Go.run (g:=?_))
    refine Go.loop (α := Nat × Array Int × AHeap) (fun s => [(9, .int .i64 s.1), (8, .int .i64 k), (7, .int .i64 I), (0, .slice a L cap), (1, .int .i64 x), (2, .int .i64 y)]) (fun _ => []) (fun s => s.2.2) (fun s => s.1 < L ∧ s.2.1.size = L ∧ Keeps (blk a) h s.2.2 ∧ Sv s.2.2 46 1 a L cap (ksU s.2.1) ∧ G2 = shiftDown ltInt s.1 s.2.1) (fun s => s.1) (I - 1, g, H4) ?_ ?_ rfl rfl ?_
    · exact ⟨by simp only; omega, he1, kp1, sv4, hG2⟩
    · exact ⟨rfl, rfl, rfl, rfl, rfl, rfl, trivial⟩
    clear hG2 sv4 kp1 he1 hG3
    clear eq
    rintro ⟨j, e, H⟩ ⟨q1, he, kp, sv, eq⟩
    simp only at q1 he kp sv eq ⊢
    rcases Nat.lt_or_ge 0 j with z4 | z4
    case inr =>
      obtain rfl : j = 0 := by omega
      rw [shiftDown_stop (.inl rfl)] at eq
      subst eq
      (refine Go.run (g:=?_))
      exact Go.joined H ⟨he, kp, sv⟩ ⟨rfl, rfl, rfl, rfl, rfl, trivial⟩ rfl rfl
    have hl := ksU_len e
    have c1 : (ksU e)[j]? = some (.int .u16 e[j]!) := ksU_get (by omega)
    have c2 : (ksU e)[j - 1]? = some (.int .u16 e[j - 1]!) := ksU_get (by omega)
    (refine Go.run (g:=?_))
    refine GoR.call rfl rfl rfl rfl rfl rfl rfl (((lessU_spec _ _ _).argA).mono ?_)
    rintro _ H2 ⟨rfl, rfl⟩ -
    cases hq : decide (e[j]! < e[j - 1]!) with
    | false =>
      rw [shiftDown_stop (.inr hq)] at eq
      subst eq
      (refine Go.run (g:=?_))
      exact Go.joined H2 ⟨he, kp, sv⟩ ⟨rfl, rfl, rfl, rfl, rfl, trivial⟩ rfl rfl
    | true =>
      rw [shiftDown_more z4 hq] at eq
      (repeat (first|refine GoR.end ?_|(refine GoR.gd rfl ?_;first|refine GoR.wanted' rfl rfl rfl rfl (g:=?_)|refine GoR.unwanted' rfl rfl rfl rfl (hd:=rfl) (hN:=rfl) (g:=?_)|refine GoR.unwantedU rfl rfl rfl rfl rfl rfl ?_)|(refine GoR.kk 0 rfl ?_;first|refine GoR.move rfl rfl rfl rfl rfl ?_|refine GoR.assign rfl rfl rfl rfl rfl ?_)|(refine GoR.kk 1 rfl ?_;first|refine GoR.load' rfl rfl rfl rfl rfl (g:=?_)|refine GoR.loadA' rfl rfl rfl rfl rfl (hv:=rfl) (g:=?_)|refine GoR.loadV' rfl rfl rfl rfl rfl (g:=?_)|refine GoR.loadVN' rfl rfl rfl rfl rfl (g:=?_))|(refine GoR.kk 2 rfl ?_;first|refine GoR.store' rfl rfl rfl rfl rfl (hl:=rfl) (h1:=rfl) (h3:=rfl) (g:=?_))|(refine GoR.kk 3 rfl ?_;first|refine GoR.fieldAddr rfl rfl rfl rfl rfl ?_|refine GoR.indexN' rfl rfl rfl rfl rfl rfl (g:=?_)|refine GoR.indexNs' rfl rfl rfl rfl rfl rfl (g:=?_)|refine GoR.indexV' rfl rfl rfl rfl rfl rfl (g:=?_)|refine GoR.indexA' rfl rfl rfl rfl rfl rfl (g:=?_)|refine GoR.fieldV' rfl rfl rfl rfl rfl (g:=?_))|(refine GoR.kk 4 rfl ?_;first|refine GoR.eq rfl rfl rfl rfl rfl rfl ?_|refine GoR.ne rfl rfl rfl rfl rfl rfl ?_|refine GoR.lt rfl rfl rfl rfl rfl rfl ?_|refine GoR.le rfl rfl rfl rfl rfl rfl ?_|refine GoR.gt rfl rfl rfl rfl rfl rfl ?_|refine GoR.ge rfl rfl rfl rfl rfl rfl ?_|refine GoR.addN' rfl rfl rfl rfl rfl rfl (g:=?_)|refine GoR.subN' rfl rfl rfl rfl rfl rfl (g:=?_)|refine GoR.add' rfl rfl rfl rfl rfl rfl (g:=?_)|refine GoR.sub' rfl rfl rfl rfl rfl rfl (g:=?_)|refine GoR.addM' rfl rfl rfl rfl rfl rfl (g:=?_)|refine GoR.subM' rfl rfl rfl rfl rfl rfl (g:=?_)|refine GoR.mulM' rfl rfl rfl rfl rfl rfl (g:=?_)|refine GoR.shrN rfl rfl rfl rfl rfl rfl rfl ?_|refine GoR.structEq rfl rfl rfl rfl rfl rfl (by rfl) (by rfl) ?_|refine GoR.structNe rfl rfl rfl rfl rfl rfl (by rfl) (by rfl) ?_|refine GoR.strEq rfl rfl rfl rfl rfl rfl ?_|refine GoR.strNe rfl rfl rfl rfl rfl rfl ?_|refine GoR.remN' rfl rfl rfl rfl rfl rfl (g:=?_)|refine GoR.quoN' rfl rfl rfl rfl rfl rfl (g:=?_)|refine GoR.shlN' rfl rfl rfl rfl rfl rfl rfl (g:=?_)|refine GoR.orN' rfl rfl rfl rfl rfl rfl (g:=?_))|(refine GoR.kk 5 rfl ?_;first|refine GoR.len rfl rfl rfl rfl rfl ?_|refine GoR.lenStr rfl rfl rfl rfl rfl ?_|refine GoR.capB rfl rfl rfl rfl rfl ?_)|(refine GoR.kk 7 rfl ?_;first|refine GoR.pickE' rfl rfl rfl rfl rfl (hx:=rfl) (hy:=rfl) (g:=?_)|refine GoR.pickN' rfl rfl rfl rfl rfl (hx:=rfl) (hy:=rfl) (g:=?_)|refine GoR.pickB rfl rfl rfl rfl rfl rfl rfl ?_)|(refine GoR.kk 8 rfl ?_;first|refine GoR.boxA rfl rfl rfl rfl rfl ?_|refine GoR.boxS rfl rfl rfl rfl rfl rfl ?_|refine GoR.alloc rfl rfl rfl rfl ?_)|(refine GoR.kk 9 rfl ?_;first|refine GoR.strV' rfl rfl rfl rfl rfl (g:=?_)|refine GoR.conv_u8 rfl rfl rfl rfl rfl ?_|refine GoR.convW' rfl rfl rfl rfl rfl (g:=?_)|refine GoR.conv_u16 rfl rfl rfl rfl rfl ?_|refine GoR.conv_u32 rfl rfl rfl rfl rfl ?_)|(refine GoR.kk 10 rfl ?_;first|refine GoR.build' rfl rfl rfl rfl rfl rfl (g:=?_))|(refine GoR.kk 11 rfl ?_;first|refine GoR.extract rfl rfl rfl rfl rfl rfl ?_|refine GoR.not rfl rfl rfl rfl rfl ?_|refine GoR.nilCheck rfl rfl rfl rfl rfl ?_|refine GoR.nilCheckF rfl rfl rfl rfl rfl ?_|refine GoR.makeFunc rfl rfl rfl rfl rfl rfl ?_)|(refine Go.kk 0 rfl ?_;refine Go.seq ?_)|(refine Go.kk 1 rfl ?_;refine Go.region (by kernel_rfl) rfl ?_)|(refine Go.kk 3 rfl ?_;first|refine Go.cond_t' rfl (g:=?_)|refine Go.cond_f' rfl (g:=?_))|(refine Go.kk 4 rfl ?_;refine Go.block ?_)|(refine Go.kk 5 rfl ?_;first|refine Go.skip ?_|refine Go.ret ?_|refine Go.exit ?_|refine Go.scope ?_)|refine Go.leave_normal ?_|refine Go.leave_same ?_|refine Go.leave_ret ?_|refine Go.ret_code ?_|refine Go.exit_code ?_|refine Go.leave_other rfl ?_|refine Go.sc_normal ?_|refine Go.sc_ret ?_|refine Go.sc_exit ?_|refine Go.exit_back ?_|refine Go.ret_back ?_))
      refine Go.loud (by kernel_rfl) rfl ?_
      (refine Go.runL (g:=?_))
      refine GoL.store1' rfl rfl rfl rfl rfl rfl (hS := sv) (hw := hW) (g:=?_)
      intro H3 sv3 k3 n3
      (refine Go.runL (g:=?_))
      refine GoL.store1' rfl rfl rfl rfl rfl rfl (hS := sv3) (hw := hW) (g:=?_)
      intro H4 sv4 k4 n4
      (refine Go.runL (g:=?_))
      (refine GoL.end_ (g:=?_))
      rw [ksU_swp] at sv4
      (refine Go.run (g:=?_))
      exact Go.again (j - 1, swp e j (j - 1), H4) ⟨by simp only; omega, by simp only [swp_size]; exact he, (kp.tr k3).tr k4, sv4, eq⟩ (by simp only; omega) ⟨rfl, rfl, rfl, rfl, rfl, rfl, trivial⟩ rfl rfl
  clear hG2 sv4 kp1 he1
  rintro H5 ⟨he5, kp5, sv5⟩
  (refine Go.run (g:=?_))
  refine Go.join1 (α := AHeap) (fun _ => [(8, .int .i64 k), (7, .int .i64 I), (0, .slice a L cap), (1, .int .i64 x), (2, .int .i64 y)]) (fun _ => []) (fun H => H) (fun H => G3.size = L ∧ Keeps (blk a) h H ∧ Sv H 46 1 a L cap (ksU G3)) ?_ ?_
  · clear eq
    rcases Nat.lt_or_ge (y - I) 2 with z3 | z3
    · rw [if_neg (by omega)] at hG3
      subst hG3
      (refine Go.run (g:=?_))
      exact Go.joined H5 ⟨he5, kp5, sv5⟩ ⟨rfl, rfl, rfl, rfl, rfl, trivial⟩ rfl rfl
    rw [if_pos z3] at hG3
    (refine Go.run (g:=?_))
    refine Go.loop (α := Nat × Array Int × AHeap) (fun s => [(10, .int .i64 s.1), (8, .int .i64 k), (7, .int .i64 I), (0, .slice a L cap), (1, .int .i64 x), (2, .int .i64 y)]) (fun _ => []) (fun s => s.2.2) (fun s => 1 ≤ s.1 ∧ s.1 ≤ y ∧ s.2.1.size = L ∧ Keeps (blk a) h s.2.2 ∧ Sv s.2.2 46 1 a L cap (ksU s.2.1) ∧ G3 = shiftUp ltInt y s.1 s.2.1) (fun s => y - s.1) (I + 1, G2, H5) ?_ ?_ rfl rfl ?_
    · exact ⟨by simp only; omega, by simp only; omega, he5, kp5, sv5, hG3⟩
    · exact ⟨rfl, rfl, rfl, rfl, rfl, rfl, trivial⟩
    clear hG3 sv5 kp5 he5
    rintro ⟨j, e, H⟩ ⟨q0, q1, he, kp, sv, eq⟩
    simp only at q0 q1 he kp sv eq ⊢
    rcases Nat.lt_or_ge j y with z4 | z4
    case inr =>
      rw [shiftUp_stop (.inl z4)] at eq
      subst eq
      (refine Go.run (g:=?_))
      exact Go.joined H ⟨he, kp, sv⟩ ⟨rfl, rfl, rfl, rfl, rfl, trivial⟩ rfl rfl
    have hl := ksU_len e
    have c1 : (ksU e)[j]? = some (.int .u16 e[j]!) := ksU_get (by omega)
    have c2 : (ksU e)[j - 1]? = some (.int .u16 e[j - 1]!) := ksU_get (by omega)
    (refine Go.run (g:=?_))
    refine GoR.call rfl rfl rfl rfl rfl rfl rfl (((lessU_spec _ _ _).argA).mono ?_)
    rintro _ H2 ⟨rfl, rfl⟩ -
    cases hq : decide (e[j]! < e[j - 1]!) with
    | false =>
      rw [shiftUp_stop (.inr hq)] at eq
      subst eq
      (refine Go.run (g:=?_))
      exact Go.joined H2 ⟨he, kp, sv⟩ ⟨rfl, rfl, rfl, rfl, rfl, trivial⟩ rfl rfl
    | true =>
      rw [shiftUp_more z4 hq] at eq
      (repeat (first|refine GoR.end ?_|(refine GoR.gd rfl ?_;first|refine GoR.wanted' rfl rfl rfl rfl (g:=?_)|refine GoR.unwanted' rfl rfl rfl rfl (hd:=rfl) (hN:=rfl) (g:=?_)|refine GoR.unwantedU rfl rfl rfl rfl rfl rfl ?_)|(refine GoR.kk 0 rfl ?_;first|refine GoR.move rfl rfl rfl rfl rfl ?_|refine GoR.assign rfl rfl rfl rfl rfl ?_)|(refine GoR.kk 1 rfl ?_;first|refine GoR.load' rfl rfl rfl rfl rfl (g:=?_)|refine GoR.loadA' rfl rfl rfl rfl rfl (hv:=rfl) (g:=?_)|refine GoR.loadV' rfl rfl rfl rfl rfl (g:=?_)|refine GoR.loadVN' rfl rfl rfl rfl rfl (g:=?_))|(refine GoR.kk 2 rfl ?_;first|refine GoR.store' rfl rfl rfl rfl rfl (hl:=rfl) (h1:=rfl) (h3:=rfl) (g:=?_))|(refine GoR.kk 3 rfl ?_;first|refine GoR.fieldAddr rfl rfl rfl rfl rfl ?_|refine GoR.indexN' rfl rfl rfl rfl rfl rfl (g:=?_)|refine GoR.indexNs' rfl rfl rfl rfl rfl rfl (g:=?_)|refine GoR.indexV' rfl rfl rfl rfl rfl rfl (g:=?_)|refine GoR.indexA' rfl rfl rfl rfl rfl rfl (g:=?_)|refine GoR.fieldV' rfl rfl rfl rfl rfl (g:=?_))|(refine GoR.kk 4 rfl ?_;first|refine GoR.eq rfl rfl rfl rfl rfl rfl ?_|refine GoR.ne rfl rfl rfl rfl rfl rfl ?_|refine GoR.lt rfl rfl rfl rfl rfl rfl ?_|refine GoR.le rfl rfl rfl rfl rfl rfl ?_|refine GoR.gt rfl rfl rfl rfl rfl rfl ?_|refine GoR.ge rfl rfl rfl rfl rfl rfl ?_|refine GoR.addN' rfl rfl rfl rfl rfl rfl (g:=?_)|refine GoR.subN' rfl rfl rfl rfl rfl rfl (g:=?_)|refine GoR.add' rfl rfl rfl rfl rfl rfl (g:=?_)|refine GoR.sub' rfl rfl rfl rfl rfl rfl (g:=?_)|refine GoR.addM' rfl rfl rfl rfl rfl rfl (g:=?_)|refine GoR.subM' rfl rfl rfl rfl rfl rfl (g:=?_)|refine GoR.mulM' rfl rfl rfl rfl rfl rfl (g:=?_)|refine GoR.shrN rfl rfl rfl rfl rfl rfl rfl ?_|refine GoR.structEq rfl rfl rfl rfl rfl rfl (by rfl) (by rfl) ?_|refine GoR.structNe rfl rfl rfl rfl rfl rfl (by rfl) (by rfl) ?_|refine GoR.strEq rfl rfl rfl rfl rfl rfl ?_|refine GoR.strNe rfl rfl rfl rfl rfl rfl ?_|refine GoR.remN' rfl rfl rfl rfl rfl rfl (g:=?_)|refine GoR.quoN' rfl rfl rfl rfl rfl rfl (g:=?_)|refine GoR.shlN' rfl rfl rfl rfl rfl rfl rfl (g:=?_)|refine GoR.orN' rfl rfl rfl rfl rfl rfl (g:=?_))|(refine GoR.kk 5 rfl ?_;first|refine GoR.len rfl rfl rfl rfl rfl ?_|refine GoR.lenStr rfl rfl rfl rfl rfl ?_|refine GoR.capB rfl rfl rfl rfl rfl ?_)|(refine GoR.kk 7 rfl ?_;first|refine GoR.pickE' rfl rfl rfl rfl rfl (hx:=rfl) (hy:=rfl) (g:=?_)|refine GoR.pickN' rfl rfl rfl rfl rfl (hx:=rfl) (hy:=rfl) (g:=?_)|refine GoR.pickB rfl rfl rfl rfl rfl rfl rfl ?_)|(refine GoR.kk 8 rfl ?_;first|refine GoR.boxA rfl rfl rfl rfl rfl ?_|refine GoR.boxS rfl rfl rfl rfl rfl rfl ?_|refine GoR.alloc rfl rfl rfl rfl ?_)|(refine GoR.kk 9 rfl ?_;first|refine GoR.strV' rfl rfl rfl rfl rfl (g:=?_)|refine GoR.conv_u8 rfl rfl rfl rfl rfl ?_|refine GoR.convW' rfl rfl rfl rfl rfl (g:=?_)|refine GoR.conv_u16 rfl rfl rfl rfl rfl ?_|refine GoR.conv_u32 rfl rfl rfl rfl rfl ?_)|(refine GoR.kk 10 rfl ?_;first|refine GoR.build' rfl rfl rfl rfl rfl rfl (g:=?_))|(refine GoR.kk 11 rfl ?_;first|refine GoR.extract rfl rfl rfl rfl rfl rfl ?_|refine GoR.not rfl rfl rfl rfl rfl ?_|refine GoR.nilCheck rfl rfl rfl rfl rfl ?_|refine GoR.nilCheckF rfl rfl rfl rfl rfl ?_|refine GoR.makeFunc rfl rfl rfl rfl rfl rfl ?_)|(refine Go.kk 0 rfl ?_;refine Go.seq ?_)|(refine Go.kk 1 rfl ?_;refine Go.region (by kernel_rfl) rfl ?_)|(refine Go.kk 3 rfl ?_;first|refine Go.cond_t' rfl (g:=?_)|refine Go.cond_f' rfl (g:=?_))|(refine Go.kk 4 rfl ?_;refine Go.block ?_)|(refine Go.kk 5 rfl ?_;first|refine Go.skip ?_|refine Go.ret ?_|refine Go.exit ?_|refine Go.scope ?_)|refine Go.leave_normal ?_|refine Go.leave_same ?_|refine Go.leave_ret ?_|refine Go.ret_code ?_|refine Go.exit_code ?_|refine Go.leave_other rfl ?_|refine Go.sc_normal ?_|refine Go.sc_ret ?_|refine Go.sc_exit ?_|refine Go.exit_back ?_|refine Go.ret_back ?_))
      refine Go.loud (by kernel_rfl) rfl ?_
      (refine Go.runL (g:=?_))
      refine GoL.store1' rfl rfl rfl rfl rfl rfl (hS := sv) (hw := hW) (g:=?_)
      intro H3 sv3 k3 n3
      (refine Go.runL (g:=?_))
      refine GoL.store1' rfl rfl rfl rfl rfl rfl (hS := sv3) (hw := hW) (g:=?_)
      intro H4 sv4 k4 n4
      (refine Go.runL (g:=?_))
      (refine GoL.end_ (g:=?_))
      rw [ksU_swp] at sv4
      (refine Go.run (g:=?_))
      exact Go.again (j + 1, swp e j (j - 1), H4) ⟨by simp only; omega, by simp only; omega, by simp only [swp_size]; exact he, (kp.tr k3).tr k4, sv4, eq⟩ (by simp only; omega) ⟨rfl, rfl, rfl, rfl, rfl, rfl, trivial⟩ rfl rfl
  clear hG3 sv5 kp5 he5
  rintro H6 ⟨he6, kp6, sv6⟩
  (refine Go.run (g:=?_))
  exact Go.again (k + 1, I, G3, H6) ⟨by simp only; omega, by simp only; omega, by simp only; omega, he6, kp6, sv6, by simp only; rw [show 5 - (k + 1) = s from by omega]; exact eq⟩ (by simp only; omega) ⟨rfl, rfl, rfl, rfl, rfl, trivial⟩ rfl rfl
end Go.Proofs.Ytfcfgmhcphmefaa
namespace Go.Proofs.Ytfcfgmhcphmefaa
open Go.Sort
set_option maxRecDepth 100000
attribute [local irreducible] Go GoR GoL
theorem bitsLen_sh {n k : Nat} (h : 2 ^ k ≤ n) : bitsLen n = k + bitsLen (n / 2 ^ k) := by
  have hp : 0 < 2 ^ k := Nat.two_pow_pos k
  have m1 : 1 ≤ bitsLen (n / 2 ^ k) := by
    apply Nat.pos_of_ne_zero
    intro e
    have := (bitsLen_le_iff (n / 2 ^ k) 0).1 (by omega)
    have : 1 ≤ n / 2 ^ k := (Nat.le_div_iff_mul_le hp).2 (by omega)
    omega
  have key : ∀ j, k ≤ j → (n / 2 ^ k < 2 ^ (j - k) ↔ n < 2 ^ j) := fun j hj => by
    rw [Nat.div_lt_iff_lt_mul hp, ← Nat.pow_add, Nat.sub_add_cancel hj]
  apply Nat.le_antisymm
  · rw [bitsLen_le_iff, ← key _ (Nat.le_add_right _ _), Nat.add_sub_cancel_left]
    exact lt_two_pow_bitsLen _
  · have a := lt_two_pow_bitsLen n
    have hk : k ≤ bitsLen n := by
      apply Nat.le_of_lt
      apply Nat.lt_of_not_le
      intro q
      have := (bitsLen_le_iff n k).1 q
      omega
    have b := (key _ hk).2 a
    rw [← bitsLen_le_iff] at b
    omega
theorem tab_at {P : Program} {t : TypeId} {s : ByteArray} (ht : P.underlying t = some .string) (hall : (List.range 256).all (fun k => decide ((s.data[k]?).map (fun b => b.toNat) = some (bitsLen k))) = true) {m : Nat} (hm : m < 256) : aIndex P t (.string s) (.int .u8 (m : Int)) = some (.int .u8 (bitsLen m : Nat)) := by
  have h := of_decide_eq_true (List.all_eq_true.1 hall m (List.mem_range.2 hm))
  unfold aIndex
  simp only [ht]
  rw [if_pos (by omega), Int.toNat_natCast]
  cases hs : s.data[m]? with
  | none => rw [hs] at h; cases h
  | some b =>
    rw [hs] at h
    simp only [Option.map_some, Option.some.injEq] at h ⊢
    rw [h]
set_option maxHeartbeats 8000000 in
theorem len64_spec (n : Nat) (hn : n ≤ 1000000) (h : AHeap) : CallS Try.prog [] 77 [.int .u64 n] h fun v h' => v = .int .i64 (bitsLen n : Nat) ∧ h' = h := by
  rcases Nat.lt_or_ge n 256 with n0 | n0
  · (refine CallS.of1 Try.func77 rfl Try.ntmps77 Try.results77 rfl ?_)
    (refine Go.run (g:=?_))
    have hm : n % 256 = n := by omega
    have tb := fun (P : Program) (t : TypeId) (s : ByteArray) (ht : P.underlying t = some .string) hall => tab_at (P := P) (t := t) (s := s) ht hall n0
    obtain ⟨b, hb⟩ : ∃ b, b = bitsLen n := ⟨_, rfl⟩
    have hb8 : b ≤ 8 := by rw [hb]; exact (bitsLen_le_iff _ 8).2 (by omega)
    rw [hm]
    rw [← hb] at tb ⊢
    refine GoR.index rfl rfl rfl rfl rfl rfl (tb _ _ _ (by kernel_rfl) (by kernel_rfl)) ?_
    (refine Go.run (g:=?_))
    (first|refine Go.finT (by first|exact .inr rfl|exact .inl rfl) rfl ?_|refine Go.fin1 (by first|exact .inr rfl|exact .inl rfl) rfl (hq:=?_))
    exact ⟨by simp [retV], rfl⟩
  rcases Nat.lt_or_ge n 65536 with n1 | n1
  · have e1 := bitsLen_sh (n := n) (k := 8) n0
    obtain ⟨m, hm⟩ : ∃ m, m = n / 2 ^ 8 := ⟨_, rfl⟩
    have hm2 : m < 256 := by omega
    rw [← hm] at e1
    have tb := fun (P : Program) (t : TypeId) (s : ByteArray) (ht : P.underlying t = some .string) hall => tab_at (P := P) (t := t) (s := s) ht hall hm2
    obtain ⟨b, hb⟩ : ∃ b, b = bitsLen m := ⟨_, rfl⟩
    have hb8 : b ≤ 8 := by rw [hb]; exact (bitsLen_le_iff _ 8).2 (by omega)
    rw [← hb] at e1 tb
    rw [e1]
    (refine CallS.of1 Try.func77 rfl Try.ntmps77 Try.results77 rfl ?_)
    (refine Go.run (g:=?_))
    rw [← hm, show m % 256 = m from by omega]
    refine GoR.index rfl rfl rfl rfl rfl rfl (tb _ _ _ (by kernel_rfl) (by kernel_rfl)) ?_
    (refine Go.run (g:=?_))
    (first|refine Go.finT (by first|exact .inr rfl|exact .inl rfl) rfl ?_|refine Go.fin1 (by first|exact .inr rfl|exact .inl rfl) rfl (hq:=?_))
    exact ⟨by simp [retV], rfl⟩
  have e1 := bitsLen_sh (n := n) (k := 16) n1
  obtain ⟨m, hm⟩ : ∃ m, m = n / 2 ^ 16 := ⟨_, rfl⟩
  have hm2 : m < 256 := by omega
  rw [← hm] at e1
  have tb := fun (P : Program) (t : TypeId) (s : ByteArray) (ht : P.underlying t = some .string) hall => tab_at (P := P) (t := t) (s := s) ht hall hm2
  obtain ⟨b, hb⟩ : ∃ b, b = bitsLen m := ⟨_, rfl⟩
  have hb8 : b ≤ 8 := by rw [hb]; exact (bitsLen_le_iff _ 8).2 (by omega)
  rw [← hb] at e1 tb
  rw [e1]
  (refine CallS.of1 Try.func77 rfl Try.ntmps77 Try.results77 rfl ?_)
  (refine Go.run (g:=?_))
  rw [← hm, show m % 256 = m from by omega]
  refine GoR.index rfl rfl rfl rfl rfl rfl (tb _ _ _ (by kernel_rfl) (by kernel_rfl)) ?_
  (refine Go.run (g:=?_))
  (first|refine Go.finT (by first|exact .inr rfl|exact .inl rfl) rfl ?_|refine Go.fin1 (by first|exact .inr rfl|exact .inl rfl) rfl (hq:=?_))
  exact ⟨by simp [retV], rfl⟩
set_option maxHeartbeats 8000000 in
theorem len_spec (n : Nat) (hn : n ≤ 1000000) (h : AHeap) : CallS Try.prog [] 58 [.int .u64 n] h fun v h' => v = .int .i64 (bitsLen n : Nat) ∧ h' = h := by
  (refine CallS.of1 Try.func58 rfl Try.ntmps58 Try.results58 rfl ?_)
  (refine Go.run (g:=?_))
  refine GoR.call rfl rfl rfl rfl rfl rfl rfl (((len64_spec n hn _).argA).mono ?_)
  rintro _ H2 ⟨rfl, rfl⟩ -
  (refine Go.run (g:=?_))
  (first|refine Go.finT (by first|exact .inr rfl|exact .inl rfl) rfl ?_|refine Go.fin1 (by first|exact .inr rfl|exact .inl rfl) rfl (hq:=?_))
  exact ⟨rfl, rfl⟩
theorem shl64 (x k : Nat) (hk : k ≤ 64) : iSh .shl .u64 (x : Int) (k : Int) = some (.int .u64 ((x * 2 ^ k % 18446744073709551616 : Nat) : Int)) := by
  unfold iSh
  rw [if_neg (by omega)]
  simp only [Int.toNat_natCast]
  rw [show min k IntKind.u64.bits = k from Nat.min_eq_left hk]
  simp [IntKind.wrap, IntKind.bits, IntKind.signed]
set_option maxHeartbeats 8000000 in
theorem npow_spec (n : Nat) (hn : n ≤ 1000000) (h : AHeap) : CallS Try.prog [] 90 [.int .i64 n] h fun v h' => v = .int .u64 (1 <<< bitsLen n : Nat) ∧ h' = h := by
  have hb : bitsLen n ≤ 20 := (bitsLen_le_iff n 20).2 (by omega)
  have hp : 2 ^ bitsLen n ≤ 2 ^ 20 := Nat.pow_le_pow_right (by decide) hb
  (refine CallS.of1 Try.func90 rfl Try.ntmps90 Try.results90 rfl ?_)
  (refine Go.run (g:=?_))
  refine GoR.call rfl rfl rfl rfl rfl rfl rfl (((len_spec n hn _).argA).mono ?_)
  rintro _ H2 ⟨rfl, rfl⟩ -
  (refine Go.run (g:=?_))
  refine GoR.shift rfl rfl rfl rfl rfl rfl (shl64 1 (bitsLen n) (by omega)) ?_
  (refine Go.run (g:=?_))
  (first|refine Go.finT (by first|exact .inr rfl|exact .inl rfl) rfl ?_|refine Go.fin1 (by first|exact .inr rfl|exact .inl rfl) rfl (hq:=?_))
  refine ⟨?_, rfl⟩
  rw [Nat.one_mul, Nat.mod_eq_of_lt (by omega), Nat.shiftLeft_eq, Nat.one_mul]
  rfl
set_option maxHeartbeats 8000000 in
theorem xor_spec (rb R : Nat) (hR : R < 18446744073709551616) (h : AHeap) (hc : h.get rb = some (.cells [.int .u64 R] 140)) : CallS Try.prog [rb] 91 [.pointer (some ⟨rb, 0, none⟩)] h fun v h' => v = .int .u64 (xorNextN R : Nat) ∧ h'.get rb = some (.cells [.int .u64 (xorNextN R : Nat)] 140) := by
  have p64 : (18446744073709551616 : Nat) = 2 ^ 64 := by decide
  obtain ⟨A, hA⟩ : ∃ A, A = R ^^^ (R * 2 ^ 13 % 18446744073709551616) := ⟨_, rfl⟩
  have lA : A < 18446744073709551616 := by rw [hA, p64]; exact Nat.xor_lt_two_pow (by omega) (by omega)
  obtain ⟨B, hB⟩ : ∃ B, B = A ^^^ (A / 2 ^ 7) := ⟨_, rfl⟩
  have lB : B < 18446744073709551616 := by rw [hB, p64]; exact Nat.xor_lt_two_pow (by omega) (by omega)
  have hC : xorNextN R = B ^^^ (B * 2 ^ 17 % 18446744073709551616) := by rw [hB, hA]; rfl
  (refine CallS.of1 Try.func91 rfl Try.ntmps91 Try.results91 rfl ?_)
  (refine Go.run (g:=?_))
  refine Go.loud (by kernel_rfl) rfl ?_
  (refine Go.runL (g:=?_))
  refine GoL.shift rfl rfl rfl rfl rfl rfl (shl64 R 13 (by omega)) ?_
  (refine Go.runL (g:=?_))
  refine GoL.xorN rfl rfl rfl rfl rfl rfl hR (Nat.mod_lt _ (by decide)) ?_
  rw [← hA]
  (refine Go.runL (g:=?_))
  refine GoL.store' rfl rfl rfl rfl rfl (hl:=rfl) (h1:=rfl) (h3:=rfl) (g:=?_)
  (refine Go.runL (g:=?_))
  (refine GoL.end_ (hl := by (simp only [List.nil_append, List.cons_append, AHeap.n_push, AHeap.n_put]); repeat (first | exact loudP.nil | refine loudP.none ?_ | refine loudP.new (fun _ hb => absurd hb List.not_mem_nil) ?_ | refine loudP.row (by repeat (first | exact loudRowP.nil | refine loudRowP.none ?_ | refine loudRowP.bef (by decide +kernel) ?_ | refine loudRowP.apart (by first | exact .inl rfl | exact .inr (by simp)) rfl (fun i hi => by simp only [List.mem_cons, List.not_mem_nil, or_false] at hi; subst hi; first | (simp; fail_if_success focus skip) | (simp; omega)) ?_)) ?_)) ?_)
  refine Go.name ?_
  intro h1 e1
  have c1 : h1.get rb = some (.cells [.int .u64 A] 140) := by subst e1; exact get_put_self hc
  clear e1
  (refine Go.run (g:=?_))
  refine Go.loud (by kernel_rfl) rfl ?_
  (refine Go.runL (g:=?_))
  refine GoL.xorN rfl rfl rfl rfl rfl rfl lA (show A / 2 ^ 7 < 18446744073709551616 from by omega) ?_
  rw [← hB]
  (refine Go.runL (g:=?_))
  refine GoL.store' rfl rfl rfl rfl rfl (hl:=rfl) (h1:=rfl) (h3:=rfl) (g:=?_)
  (refine Go.runL (g:=?_))
  (refine GoL.end_ (hl := by (simp only [List.nil_append, List.cons_append, AHeap.n_push, AHeap.n_put]); repeat (first | exact loudP.nil | refine loudP.none ?_ | refine loudP.new (fun _ hb => absurd hb List.not_mem_nil) ?_ | refine loudP.row (by repeat (first | exact loudRowP.nil | refine loudRowP.none ?_ | refine loudRowP.bef (by decide +kernel) ?_ | refine loudRowP.apart (by first | exact .inl rfl | exact .inr (by simp)) rfl (fun i hi => by simp only [List.mem_cons, List.not_mem_nil, or_false] at hi; subst hi; first | (simp; fail_if_success focus skip) | (simp; omega)) ?_)) ?_)) ?_)
  refine Go.name ?_
  intro h2 e2
  have c2 : h2.get rb = some (.cells [.int .u64 B] 140) := by subst e2; exact get_put_self c1
  clear e2
  (refine Go.run (g:=?_))
  refine Go.loud (by kernel_rfl) rfl ?_
  (refine Go.runL (g:=?_))
  refine GoL.shift rfl rfl rfl rfl rfl rfl (shl64 B 17 (by omega)) ?_
  (refine Go.runL (g:=?_))
  refine GoL.xorN rfl rfl rfl rfl rfl rfl lB (Nat.mod_lt _ (by decide)) ?_
  rw [← hC]
  (refine Go.runL (g:=?_))
  refine GoL.store' rfl rfl rfl rfl rfl (hl:=rfl) (h1:=rfl) (h3:=rfl) (g:=?_)
  (refine Go.runL (g:=?_))
  (refine GoL.end_ (hl := by (simp only [List.nil_append, List.cons_append, AHeap.n_push, AHeap.n_put]); repeat (first | exact loudP.nil | refine loudP.none ?_ | refine loudP.new (fun _ hb => absurd hb List.not_mem_nil) ?_ | refine loudP.row (by repeat (first | exact loudRowP.nil | refine loudRowP.none ?_ | refine loudRowP.bef (by decide +kernel) ?_ | refine loudRowP.apart (by first | exact .inl rfl | exact .inr (by simp)) rfl (fun i hi => by simp only [List.mem_cons, List.not_mem_nil, or_false] at hi; subst hi; first | (simp; fail_if_success focus skip) | (simp; omega)) ?_)) ?_)) ?_)
  refine Go.name ?_
  intro h3 e3
  have c3 : h3.get rb = some (.cells [.int .u64 (xorNextN R : Nat)] 140) := by subst e3; exact get_put_self c2
  clear e3
  (refine Go.run (g:=?_))
  (first|refine Go.finT (by first|exact .inr rfl|exact .inl rfl) rfl ?_|refine Go.fin1 (by first|exact .inr rfl|exact .inl rfl) rfl (hq:=?_))
  exact ⟨rfl, c3⟩
def bst (a n m i0 : Nat) (st : UInt64 × Array Int) : Nat → UInt64 × Array Int
  | 0 => st
  | t + 1 => breakStep a n m (bst a n m i0 st t) (i0 + t)
theorem partEq_range (a : Nat) : ∀ (n i j : Nat) (d : Array Int), j + 1 - i ≤ n → 1 ≤ i → i ≤ (partEqLoop ltInt a i j d).1 ∧ (partEqLoop ltInt a i j d).1 ≤ max i (j + 1)
  | 0, i, j, d, h, h1 => by
    rw [partEqLoop]
    try simp only
    have bI := scanUp_ge (fun x => !ltInt d[a]! x) d j i
    have bJ := scanDown_le (fun x => ltInt d[a]! x) d (scanUp (fun x => !ltInt d[a]! x) d j i) j
    rw [if_pos (by omega)]
    exact bI
  | n + 1, i, j, d, h, h1 => by
    rw [partEqLoop]
    try simp only
    have bI := scanUp_ge (fun x => !ltInt d[a]! x) d j i
    have bJ := scanDown_le (fun x => ltInt d[a]! x) d (scanUp (fun x => !ltInt d[a]! x) d j i) j
    generalize scanUp (fun x => !ltInt d[a]! x) d j i = I at *
    generalize scanDown (fun x => ltInt d[a]! x) d I j = J at *
    split
    · exact bI
    · split
      · have := partEq_range a n (I + 1) (J - 1) (swp d I J) (by omega) (by omega)
        omega
      · exact bI
theorem partEq_mid (d : Array Int) {a b pv : Nat} (h : a + 1 ≤ b) : a < (partitionEqual ltInt d a b pv).1 ∧ (partitionEqual ltInt d a b pv).1 ≤ b := by
  have := partEq_range a _ (a + 1) (b - 1) (swp d a pv) (Nat.le_refl _) (by omega)
  unfold partitionEqual
  omega
theorem part_mid (d : Array Int) {a b pv : Nat} (h1 : a ≤ pv) (h2 : pv < b) (h3 : b ≤ d.size) : a ≤ (partition ltInt d a b pv).1 ∧ (partition ltInt d a b pv).1 < b := by
  obtain ⟨x, y, -⟩ := partition_holds ltInt swo_ltInt d a b pv h1 h2 h3
  exact ⟨x, y⟩
def pq4 (d : Array Int) (a b limit : Nat) (wb wp : Bool) (pivot : Nat) : Array Int :=
  if a > 0 && !ltInt d[a - 1]! d[pivot]! then
    match partitionEqual ltInt d a b pivot with
    | (mid, d4) => if _h : a < mid ∧ mid ≤ b then pdq ltInt d4 mid b limit wb wp else d4
  else
    match partition ltInt d a b pivot with
    | (mid, alreadyPartitioned, d4) =>
      if _h : a ≤ mid ∧ mid < b then
        if mid - a < b - mid then
          pdq ltInt (pdq ltInt d4 a mid limit true true) (mid + 1) b limit (decide (mid - a ≥ (b - a) / 8)) alreadyPartitioned
        else
          pdq ltInt (pdq ltInt d4 (mid + 1) b limit true true) a mid limit (decide (b - mid ≥ (b - a) / 8)) alreadyPartitioned
      else d4
def pq3 (d : Array Int) (a b limit : Nat) (wb wp : Bool) (pivot : Nat) (hint : Hint) : Array Int :=
  if (if wb && wp && hint = .increasing then partialInsertionSort ltInt d a b else (d, false)).2 then (if wb && wp && hint = .increasing then partialInsertionSort ltInt d a b else (d, false)).1
  else pq4 (if wb && wp && hint = .increasing then partialInsertionSort ltInt d a b else (d, false)).1 a b limit wb wp pivot
def pq2 (d : Array Int) (a b limit : Nat) (wb wp : Bool) : Array Int :=
  pq3 (if (choosePivot ltInt d a b).2 = .decreasing then reverseRange d a b else d) a b limit wb wp (if (choosePivot ltInt d a b).2 = .decreasing then (b - 1) - ((choosePivot ltInt d a b).1 - a) else (choosePivot ltInt d a b).1) (if (choosePivot ltInt d a b).2 = .decreasing then Hint.increasing else (choosePivot ltInt d a b).2)
theorem pdq_unfold {d : Array Int} {a b limit : Nat} {wb wp : Bool} (h1 : ¬ b - a ≤ 12) (h2 : ¬ limit = 0) : pdq ltInt d a b limit wb wp = pq2 (if !wb then breakPatterns d a b else d) a b (if !wb then limit - 1 else limit) wb wp := by
  rw [pdq, if_neg h1, if_neg h2]
  rfl
theorem pq4_eq {d : Array Int} {a b limit : Nat} {wb wp : Bool} {pivot : Nat} (h0 : a + 1 ≤ b) (h : (decide (a > 0) && !ltInt d[a - 1]! d[pivot]!) = true) : pq4 d a b limit wb wp pivot = pdq ltInt (partitionEqual ltInt d a b pivot).2 (partitionEqual ltInt d a b pivot).1 b limit wb wp := by
  unfold pq4
  rw [if_pos h]
  show (if _h : a < (partitionEqual ltInt d a b pivot).1 ∧ (partitionEqual ltInt d a b pivot).1 ≤ b then pdq ltInt (partitionEqual ltInt d a b pivot).2 (partitionEqual ltInt d a b pivot).1 b limit wb wp else (partitionEqual ltInt d a b pivot).2) = _
  rw [dif_pos (partEq_mid d h0)]
theorem pq4_ne {d : Array Int} {a b limit : Nat} {wb wp : Bool} {pivot : Nat} (h1 : a ≤ pivot) (h2 : pivot < b) (h3 : b ≤ d.size) (h : (decide (a > 0) && !ltInt d[a - 1]! d[pivot]!) = false) : pq4 d a b limit wb wp pivot =
    if (partition ltInt d a b pivot).1 - a < b - (partition ltInt d a b pivot).1 then
      pdq ltInt (pdq ltInt (partition ltInt d a b pivot).2.2 a (partition ltInt d a b pivot).1 limit true true) ((partition ltInt d a b pivot).1 + 1) b limit (decide ((partition ltInt d a b pivot).1 - a ≥ (b - a) / 8)) (partition ltInt d a b pivot).2.1
    else
      pdq ltInt (pdq ltInt (partition ltInt d a b pivot).2.2 ((partition ltInt d a b pivot).1 + 1) b limit true true) a (partition ltInt d a b pivot).1 limit (decide (b - (partition ltInt d a b pivot).1 ≥ (b - a) / 8)) (partition ltInt d a b pivot).2.1 := by
  unfold pq4
  rw [if_neg (by rw [h]; decide)]
  have hm := part_mid d h1 h2 h3
  generalize partition ltInt d a b pivot = r at *
  obtain ⟨mid, ap, d4⟩ := r
  exact dif_pos hm
section
variable {P : Program} {W : Nat → Prop} {q : Bool} {N : Nat} {k k' : List It} {x : Exit} {ov : Ov} {tm : List Value} {df : List Nat} {h : AHeap} {Q : PQ} {a b c : Code}
theorem Gx.seq (g : Gx P W q (.code a :: .code b :: k) x tm df h Q) : Gx P W q (.code (.seq a b) :: k) x tm df h Q := by
  refine ⟨fun e => ?_, fun hx => (g.2 hx).2 hx⟩
  obtain ⟨x₁, tm₁, df₁, h₁, r₁, n₁, g₁⟩ := g.1 e
  by_cases hx : x₁ = .normal
  · obtain ⟨x₂, tm₂, df₂, h₂, r₂, n₂, g₂⟩ := g₁.1 hx
    subst hx
    exact ⟨x₂, tm₂, df₂, h₂, .seq r₁ r₂, n₂.trans n₁, g₂⟩
  · exact ⟨x₁, tm₁, df₁, h₁, .seq_out r₁ hx, n₁, g₁.2 hx⟩
end
end Go.Proofs.Ytfcfgmhcphmefaa
namespace Go.Proofs.Ytfcfgmhcphmefaa
open Go.Sort
set_option maxRecDepth 100000
attribute [local irreducible] Go GoR GoL
set_option maxHeartbeats 32000000 in
theorem brkU_spec (a : Option Addr) (cap : Nat) (d : Array Int) (x y : Nat) (hxy : x + 12 < y) (hy : y ≤ d.size) (hn : d.size ≤ 1000000) (h : AHeap) (hS : KvU h a cap d) : SortsU 69 a cap d [.int .i64 x, .int .i64 y] h (breakPatterns d x y) := by
  unfold SortsU breakPatterns
  unfold KvU at hS
  generalize hL : d.size = L at *
  obtain ⟨n, hyn⟩ : ∃ n, n = y - x := ⟨_, rfl⟩
  have hn12 : 12 < n := by omega
  have hnL : x + n ≤ L := by omega
  rw [← hyn]
  have hba : ∀ i ∈ blk a, i < h.n := hS.lt
  have hW : ∀ i ∈ blk a, i ∈ blk a ∨ h.n ≤ i := fun i hi => .inl hi
  rw [if_pos (show n ≥ 8 from by omega)]
  obtain ⟨M, hM⟩ : ∃ M, M = 1 <<< bitsLen n := ⟨_, rfl⟩
  have hMn : M ≤ 2 * n := by
    rw [hM, Nat.shiftLeft_eq, Nat.one_mul]
    have : Nat.log2 n + 1 = bitsLen n := by unfold bitsLen; rw [if_neg (by omega)]
    rw [← this, Nat.pow_succ]
    have := Nat.log2_self_le (n := n) (by omega)
    omega
  have hM1 : 1 ≤ M := by rw [hM, Nat.shiftLeft_eq, Nat.one_mul]; exact Nat.two_pow_pos _
  try simp only
  rw [← hM]
  (refine CallS.of3 Try.func69 rfl Try.ntmps69 Try.results69 rfl ?_)
  (refine Go.run (g:=?_))
  rw [← hyn]
  (refine Go.run (g:=?_))
  refine GoR.name ?_
  intro h2 e2
  have kp2 : Keeps (blk a) h h2 := by subst e2; exact (Keeps.ofSame ((Same.refl h).push _)).pt (.inr (Nat.le_refl _)) _
  have n2 : h2.n = h.n + 1 := by subst e2; rfl
  have rc2 : h2.get h.n = some (.cells [.int .u64 n] 140) := by subst e2; exact AHeap.get_put_same _ (by simp) _
  have sv2 : Sv h2 46 1 a L cap (ksU d) := by subst e2; exact hS.same (((Same.refl h).push _).put (Nat.le_refl _) _)
  clear e2
  refine GoR.call rfl rfl rfl rfl rfl rfl rfl (((npow_spec n (by omega) _).argA).mono ?_)
  rintro _ H2 ⟨rfl, rfl⟩ -
  rw [← hM]
  clear hM
  (refine Go.run (g:=?_))
  obtain ⟨i0, hi0⟩ : ∃ i0, i0 = x + n / 4 * 2 - 1 := ⟨_, rfl⟩
  rw [← hi0]
  obtain ⟨F, hF⟩ : ∃ F, F = (bst x n M i0 (UInt64.ofNat n, d) 3).2 := ⟨_, rfl⟩
  rw [show (breakStep x n M (breakStep x n M (breakStep x n M (UInt64.ofNat n, d) i0) (i0 + 1)) (i0 + 2)).2 = F from hF.symm]
  refine Go.loop (α := Nat × UInt64 × Array Int × AHeap) (fun s => [(9, .int .i64 (i0 + s.1 : Nat)), (7, .pointer (some ⟨h.n, 0, none⟩)), (8, .int .u64 M), (6, .int .i64 n), (0, .slice a L cap), (1, .int .i64 x)]) (fun _ => []) (fun s => s.2.2.2) (fun s => s.1 ≤ 3 ∧ s.2.2.1.size = L ∧ Keeps (blk a) h s.2.2.2 ∧ h.n < s.2.2.2.n ∧ Sv s.2.2.2 46 1 a L cap (ksU s.2.2.1) ∧ s.2.2.2.get h.n = some (.cells [.int .u64 s.2.1.toNat] 140) ∧ (s.2.1, s.2.2.1) = bst x n M i0 (UInt64.ofNat n, d) s.1) (fun s => 3 - s.1) (0, UInt64.ofNat n, d, H2) ?_ ?_ rfl rfl ?_
  · refine ⟨by simp only; omega, hL, kp2, by simp only; omega, sv2, ?_, rfl⟩
    simp only
    rw [show (UInt64.ofNat n).toNat = n from by simp; omega]
    exact rc2
  · exact ⟨rfl, rfl, rfl, rfl, rfl, rfl, trivial⟩
  clear kp2 n2 rc2 sv2 hS
  rintro ⟨t, R, g, H⟩ ⟨ht, he, kp, hnn, sv, rc, eq⟩
  simp only at ht he kp hnn sv rc eq ⊢
  rcases Nat.lt_or_ge t 3 with t0 | t0
  case inr =>
    obtain rfl : t = 3 := by omega
    have eq : g = F := by rw [hF, ← eq]
    subst eq
    (refine Go.run (g:=?_))
    (first|refine Go.finT (by first|exact .inr rfl|exact .inl rfl) rfl ?_|refine Go.fin1 (by first|exact .inr rfl|exact .inl rfl) rfl (hq:=?_))
    exact ⟨rfl, he, sv⟩
  (refine Go.run (g:=?_))
  refine GoR.callW rfl rfl rfl rfl rfl rfl rfl (((xor_spec h.n R.toNat R.toNat_lt H rc).argA).mono ?_)
  rintro _ H3 ⟨rfl, rc3⟩ kq
  refine ⟨fun i hi => .inr (by simp only [List.mem_singleton] at hi; omega), ?_⟩
  obtain ⟨R2, hR2⟩ : ∃ R2, R2 = xorNext R := ⟨_, rfl⟩
  have eR2 : xorNextN R.toNat = R2.toNat := by rw [hR2, xorNext_toNat]
  rw [eR2] at rc3 ⊢
  obtain ⟨O, hO⟩ : ∃ O, O = R2.toNat &&& (M - 1) := ⟨_, rfl⟩
  have hOM : O ≤ M - 1 := by rw [hO]; exact Nat.and_le_right
  have lR2 := R2.toNat_lt
  have sv3 := sv.keeps kq (fun i hi hm => by simp only [List.mem_singleton] at hm; have := hba i hi; omega)
  have kp3 : Keeps (blk a) h H3 := ⟨by have := kp.1; have := kq.1; omega, fun i hi hn => by rw [kq.2 i (by have := kp.1; omega) (by simp; omega)]; exact kp.2 i hi hn⟩
  (refine Go.run (g:=?_))
  refine GoR.andN rfl rfl rfl rfl rfl rfl lR2 (show M - 1 < 18446744073709551616 from by omega) ?_
  rw [← hO]
  have step : bst x n M i0 (UInt64.ofNat n, d) (t + 1) = (R2, swp g (i0 + t) (x + (if O ≥ n then O - n else O))) := by
    show breakStep x n M (bst x n M i0 (UInt64.ofNat n, d) t) (i0 + t) = _
    rw [← eq, hO, hR2]; rfl
  have hl := ksU_len g
  have c1 : (ksU g)[i0 + t]? = some (.int .u16 g[i0 + t]!) := ksU_get (by omega)
  clear hO hR2 eR2 rc sv kp kq eq
  rcases Nat.lt_or_ge O n with z | z
  · rw [if_neg (by omega)] at step
    have c2 : (ksU g)[x + O]? = some (.int .u16 g[x + O]!) := ksU_get (by omega)
    have sv := sv3
    clear sv3
    (repeat (first|refine GoR.end ?_|(refine GoR.gd rfl ?_;first|refine GoR.wanted' rfl rfl rfl rfl (g:=?_)|refine GoR.unwanted' rfl rfl rfl rfl (hd:=rfl) (hN:=rfl) (g:=?_)|refine GoR.unwantedU rfl rfl rfl rfl rfl rfl ?_)|(refine GoR.kk 0 rfl ?_;first|refine GoR.move rfl rfl rfl rfl rfl ?_|refine GoR.assign rfl rfl rfl rfl rfl ?_)|(refine GoR.kk 1 rfl ?_;first|refine GoR.load' rfl rfl rfl rfl rfl (g:=?_)|refine GoR.loadA' rfl rfl rfl rfl rfl (hv:=rfl) (g:=?_)|refine GoR.loadV' rfl rfl rfl rfl rfl (g:=?_)|refine GoR.loadVN' rfl rfl rfl rfl rfl (g:=?_))|(refine GoR.kk 2 rfl ?_;first|refine GoR.store' rfl rfl rfl rfl rfl (hl:=rfl) (h1:=rfl) (h3:=rfl) (g:=?_))|(refine GoR.kk 3 rfl ?_;first|refine GoR.fieldAddr rfl rfl rfl rfl rfl ?_|refine GoR.indexN' rfl rfl rfl rfl rfl rfl (g:=?_)|refine GoR.indexNs' rfl rfl rfl rfl rfl rfl (g:=?_)|refine GoR.indexV' rfl rfl rfl rfl rfl rfl (g:=?_)|refine GoR.indexA' rfl rfl rfl rfl rfl rfl (g:=?_)|refine GoR.fieldV' rfl rfl rfl rfl rfl (g:=?_))|(refine GoR.kk 4 rfl ?_;first|refine GoR.eq rfl rfl rfl rfl rfl rfl ?_|refine GoR.ne rfl rfl rfl rfl rfl rfl ?_|refine GoR.lt rfl rfl rfl rfl rfl rfl ?_|refine GoR.le rfl rfl rfl rfl rfl rfl ?_|refine GoR.gt rfl rfl rfl rfl rfl rfl ?_|refine GoR.ge rfl rfl rfl rfl rfl rfl ?_|refine GoR.addN' rfl rfl rfl rfl rfl rfl (g:=?_)|refine GoR.subN' rfl rfl rfl rfl rfl rfl (g:=?_)|refine GoR.add' rfl rfl rfl rfl rfl rfl (g:=?_)|refine GoR.sub' rfl rfl rfl rfl rfl rfl (g:=?_)|refine GoR.addM' rfl rfl rfl rfl rfl rfl (g:=?_)|refine GoR.subM' rfl rfl rfl rfl rfl rfl (g:=?_)|refine GoR.mulM' rfl rfl rfl rfl rfl rfl (g:=?_)|refine GoR.shrN rfl rfl rfl rfl rfl rfl rfl ?_|refine GoR.structEq rfl rfl rfl rfl rfl rfl (by rfl) (by rfl) ?_|refine GoR.structNe rfl rfl rfl rfl rfl rfl (by rfl) (by rfl) ?_|refine GoR.strEq rfl rfl rfl rfl rfl rfl ?_|refine GoR.strNe rfl rfl rfl rfl rfl rfl ?_|refine GoR.remN' rfl rfl rfl rfl rfl rfl (g:=?_)|refine GoR.quoN' rfl rfl rfl rfl rfl rfl (g:=?_)|refine GoR.shlN' rfl rfl rfl rfl rfl rfl rfl (g:=?_)|refine GoR.orN' rfl rfl rfl rfl rfl rfl (g:=?_))|(refine GoR.kk 5 rfl ?_;first|refine GoR.len rfl rfl rfl rfl rfl ?_|refine GoR.lenStr rfl rfl rfl rfl rfl ?_|refine GoR.capB rfl rfl rfl rfl rfl ?_)|(refine GoR.kk 7 rfl ?_;first|refine GoR.pickE' rfl rfl rfl rfl rfl (hx:=rfl) (hy:=rfl) (g:=?_)|refine GoR.pickN' rfl rfl rfl rfl rfl (hx:=rfl) (hy:=rfl) (g:=?_)|refine GoR.pickB rfl rfl rfl rfl rfl rfl rfl ?_)|(refine GoR.kk 8 rfl ?_;first|refine GoR.boxA rfl rfl rfl rfl rfl ?_|refine GoR.boxS rfl rfl rfl rfl rfl rfl ?_|refine GoR.alloc rfl rfl rfl rfl ?_)|(refine GoR.kk 9 rfl ?_;first|refine GoR.strV' rfl rfl rfl rfl rfl (g:=?_)|refine GoR.conv_u8 rfl rfl rfl rfl rfl ?_|refine GoR.convW' rfl rfl rfl rfl rfl (g:=?_)|refine GoR.conv_u16 rfl rfl rfl rfl rfl ?_|refine GoR.conv_u32 rfl rfl rfl rfl rfl ?_)|(refine GoR.kk 10 rfl ?_;first|refine GoR.build' rfl rfl rfl rfl rfl rfl (g:=?_))|(refine GoR.kk 11 rfl ?_;first|refine GoR.extract rfl rfl rfl rfl rfl rfl ?_|refine GoR.not rfl rfl rfl rfl rfl ?_|refine GoR.nilCheck rfl rfl rfl rfl rfl ?_|refine GoR.nilCheckF rfl rfl rfl rfl rfl ?_|refine GoR.makeFunc rfl rfl rfl rfl rfl rfl ?_)|(refine Go.kk 0 rfl ?_;refine Go.seq ?_)|(refine Go.kk 1 rfl ?_;refine Go.region (by kernel_rfl) rfl ?_)|(refine Go.kk 3 rfl ?_;first|refine Go.cond_t' rfl (g:=?_)|refine Go.cond_f' rfl (g:=?_))|(refine Go.kk 4 rfl ?_;refine Go.block ?_)|(refine Go.kk 5 rfl ?_;first|refine Go.skip ?_|refine Go.ret ?_|refine Go.exit ?_|refine Go.scope ?_)|refine Go.leave_normal ?_|refine Go.leave_same ?_|refine Go.leave_ret ?_|refine Go.ret_code ?_|refine Go.exit_code ?_|refine Go.leave_other rfl ?_|refine Go.sc_normal ?_|refine Go.sc_ret ?_|refine Go.sc_exit ?_|refine Go.exit_back ?_|refine Go.ret_back ?_))
    refine Go.loud (by kernel_rfl) rfl ?_
    (refine Go.runL (g:=?_))
    refine GoL.store1' rfl rfl rfl rfl rfl rfl (hS := sv) (hw := hW) (g:=?_)
    intro H3 sv3 k3 n3
    (refine Go.runL (g:=?_))
    refine GoL.store1' rfl rfl rfl rfl rfl rfl (hS := sv3) (hw := hW) (g:=?_)
    intro H4 sv4 k4 n4
    (refine Go.runL (g:=?_))
    (refine GoL.end_ (g:=?_))
    rw [ksU_swp] at sv4
    have rc4 := k4.get (k3.get rc3 (fun hm => by have := hba _ hm; omega)) (fun hm => by have := hba _ hm; omega)
    (refine Go.run (g:=?_))
    exact Go.again (t + 1, R2, swp g (i0 + t) (x + O), H4) ⟨by simp only; omega, by simp only [swp_size]; exact he, (kp3.tr k3).tr k4, by simp only; exact AHeap.lt rc4, sv4, rc4, step.symm⟩ (by simp only; omega) ⟨rfl, rfl, rfl, rfl, rfl, rfl, trivial⟩ rfl rfl
  · rw [if_pos z] at step
    have c2 : (ksU g)[x + (O - n)]? = some (.int .u16 g[x + (O - n)]!) := ksU_get (by omega)
    have sv := sv3
    clear sv3
    (repeat (first|refine GoR.end ?_|(refine GoR.gd rfl ?_;first|refine GoR.wanted' rfl rfl rfl rfl (g:=?_)|refine GoR.unwanted' rfl rfl rfl rfl (hd:=rfl) (hN:=rfl) (g:=?_)|refine GoR.unwantedU rfl rfl rfl rfl rfl rfl ?_)|(refine GoR.kk 0 rfl ?_;first|refine GoR.move rfl rfl rfl rfl rfl ?_|refine GoR.assign rfl rfl rfl rfl rfl ?_)|(refine GoR.kk 1 rfl ?_;first|refine GoR.load' rfl rfl rfl rfl rfl (g:=?_)|refine GoR.loadA' rfl rfl rfl rfl rfl (hv:=rfl) (g:=?_)|refine GoR.loadV' rfl rfl rfl rfl rfl (g:=?_)|refine GoR.loadVN' rfl rfl rfl rfl rfl (g:=?_))|(refine GoR.kk 2 rfl ?_;first|refine GoR.store' rfl rfl rfl rfl rfl (hl:=rfl) (h1:=rfl) (h3:=rfl) (g:=?_))|(refine GoR.kk 3 rfl ?_;first|refine GoR.fieldAddr rfl rfl rfl rfl rfl ?_|refine GoR.indexN' rfl rfl rfl rfl rfl rfl (g:=?_)|refine GoR.indexNs' rfl rfl rfl rfl rfl rfl (g:=?_)|refine GoR.indexV' rfl rfl rfl rfl rfl rfl (g:=?_)|refine GoR.indexA' rfl rfl rfl rfl rfl rfl (g:=?_)|refine GoR.fieldV' rfl rfl rfl rfl rfl (g:=?_))|(refine GoR.kk 4 rfl ?_;first|refine GoR.eq rfl rfl rfl rfl rfl rfl ?_|refine GoR.ne rfl rfl rfl rfl rfl rfl ?_|refine GoR.lt rfl rfl rfl rfl rfl rfl ?_|refine GoR.le rfl rfl rfl rfl rfl rfl ?_|refine GoR.gt rfl rfl rfl rfl rfl rfl ?_|refine GoR.ge rfl rfl rfl rfl rfl rfl ?_|refine GoR.addN' rfl rfl rfl rfl rfl rfl (g:=?_)|refine GoR.subN' rfl rfl rfl rfl rfl rfl (g:=?_)|refine GoR.add' rfl rfl rfl rfl rfl rfl (g:=?_)|refine GoR.sub' rfl rfl rfl rfl rfl rfl (g:=?_)|refine GoR.addM' rfl rfl rfl rfl rfl rfl (g:=?_)|refine GoR.subM' rfl rfl rfl rfl rfl rfl (g:=?_)|refine GoR.mulM' rfl rfl rfl rfl rfl rfl (g:=?_)|refine GoR.shrN rfl rfl rfl rfl rfl rfl rfl ?_|refine GoR.structEq rfl rfl rfl rfl rfl rfl (by rfl) (by rfl) ?_|refine GoR.structNe rfl rfl rfl rfl rfl rfl (by rfl) (by rfl) ?_|refine GoR.strEq rfl rfl rfl rfl rfl rfl ?_|refine GoR.strNe rfl rfl rfl rfl rfl rfl ?_|refine GoR.remN' rfl rfl rfl rfl rfl rfl (g:=?_)|refine GoR.quoN' rfl rfl rfl rfl rfl rfl (g:=?_)|refine GoR.shlN' rfl rfl rfl rfl rfl rfl rfl (g:=?_)|refine GoR.orN' rfl rfl rfl rfl rfl rfl (g:=?_))|(refine GoR.kk 5 rfl ?_;first|refine GoR.len rfl rfl rfl rfl rfl ?_|refine GoR.lenStr rfl rfl rfl rfl rfl ?_|refine GoR.capB rfl rfl rfl rfl rfl ?_)|(refine GoR.kk 7 rfl ?_;first|refine GoR.pickE' rfl rfl rfl rfl rfl (hx:=rfl) (hy:=rfl) (g:=?_)|refine GoR.pickN' rfl rfl rfl rfl rfl (hx:=rfl) (hy:=rfl) (g:=?_)|refine GoR.pickB rfl rfl rfl rfl rfl rfl rfl ?_)|(refine GoR.kk 8 rfl ?_;first|refine GoR.boxA rfl rfl rfl rfl rfl ?_|refine GoR.boxS rfl rfl rfl rfl rfl rfl ?_|refine GoR.alloc rfl rfl rfl rfl ?_)|(refine GoR.kk 9 rfl ?_;first|refine GoR.strV' rfl rfl rfl rfl rfl (g:=?_)|refine GoR.conv_u8 rfl rfl rfl rfl rfl ?_|refine GoR.convW' rfl rfl rfl rfl rfl (g:=?_)|refine GoR.conv_u16 rfl rfl rfl rfl rfl ?_|refine GoR.conv_u32 rfl rfl rfl rfl rfl ?_)|(refine GoR.kk 10 rfl ?_;first|refine GoR.build' rfl rfl rfl rfl rfl rfl (g:=?_))|(refine GoR.kk 11 rfl ?_;first|refine GoR.extract rfl rfl rfl rfl rfl rfl ?_|refine GoR.not rfl rfl rfl rfl rfl ?_|refine GoR.nilCheck rfl rfl rfl rfl rfl ?_|refine GoR.nilCheckF rfl rfl rfl rfl rfl ?_|refine GoR.makeFunc rfl rfl rfl rfl rfl rfl ?_)|(refine Go.kk 0 rfl ?_;refine Go.seq ?_)|(refine Go.kk 1 rfl ?_;refine Go.region (by kernel_rfl) rfl ?_)|(refine Go.kk 3 rfl ?_;first|refine Go.cond_t' rfl (g:=?_)|refine Go.cond_f' rfl (g:=?_))|(refine Go.kk 4 rfl ?_;refine Go.block ?_)|(refine Go.kk 5 rfl ?_;first|refine Go.skip ?_|refine Go.ret ?_|refine Go.exit ?_|refine Go.scope ?_)|refine Go.leave_normal ?_|refine Go.leave_same ?_|refine Go.leave_ret ?_|refine Go.ret_code ?_|refine Go.exit_code ?_|refine Go.leave_other rfl ?_|refine Go.sc_normal ?_|refine Go.sc_ret ?_|refine Go.sc_exit ?_|refine Go.exit_back ?_|refine Go.ret_back ?_))
    refine Go.loud (by kernel_rfl) rfl ?_
    (refine Go.runL (g:=?_))
    refine GoL.store1' rfl rfl rfl rfl rfl rfl (hS := sv) (hw := hW) (g:=?_)
    intro H3 sv3 k3 n3
    (refine Go.runL (g:=?_))
    refine GoL.store1' rfl rfl rfl rfl rfl rfl (hS := sv3) (hw := hW) (g:=?_)
    intro H4 sv4 k4 n4
    (refine Go.runL (g:=?_))
    (refine GoL.end_ (g:=?_))
    rw [ksU_swp] at sv4
    have rc4 := k4.get (k3.get rc3 (fun hm => by have := hba _ hm; omega)) (fun hm => by have := hba _ hm; omega)
    (refine Go.run (g:=?_))
    exact Go.again (t + 1, R2, swp g (i0 + t) (x + (O - n)), H4) ⟨by simp only; omega, by simp only [swp_size]; exact he, (kp3.tr k3).tr k4, by simp only; exact AHeap.lt rc4, sv4, rc4, step.symm⟩ (by simp only; omega) ⟨rfl, rfl, rfl, rfl, rfl, rfl, trivial⟩ rfl rfl
end Go.Proofs.Ytfcfgmhcphmefaa
namespace Go.Proofs.Ytfcfgmhcphmefaa
open Go.Sort
set_option maxRecDepth 100000
attribute [local irreducible] Go GoR GoL
set_option maxHeartbeats 64000000 in
theorem pdqU_spec (a : Option Addr) (cap : Nat) : ∀ (m : Nat) (d : Array Int) (x y lim : Nat) (hm : y - x < m) (hxy : x ≤ y) (hy : y ≤ d.size) (hn : d.size ≤ 1000000) (hlim : lim ≤ 100) (h : AHeap) (hS : KvU h a cap d), SortsU 57 a cap d [.int .i64 x, .int .i64 y, .int .i64 lim] h (pdq ltInt d x y lim true true) := by
  intro m
  induction m with
  | zero => intro d x y lim hm; omega
  | succ m ih =>
  intro d x y lim hm hxy hy hn hlim h hS
  unfold SortsU
  unfold KvU at hS
  unfold SortsU KvU at ih
  generalize hL : d.size = L at *
  have hW : ∀ i ∈ blk a, i ∈ blk a ∨ h.n ≤ i := fun i hi => .inl hi
  obtain ⟨F, hF⟩ : ∃ F, F = pdq ltInt d x y lim true true := ⟨_, rfl⟩
  rw [← hF]
  (refine CallS.of4 Try.func57 rfl Try.ntmps57 Try.results57 rfl ?_)
  (refine Go.run (g:=?_))
  refine Go.loop (α := (Nat × Nat) × Nat × (Bool × Bool) × Array Int × AHeap) (fun s => [(1, .int .i64 s.1.1), (2, .int .i64 s.1.2), (3, .int .i64 s.2.1), (8, .bool s.2.2.1.1), (9, .bool s.2.2.1.2), (0, .slice a L cap)]) (fun _ => []) (fun s => s.2.2.2.2) (fun s => s.1.1 ≤ s.1.2 ∧ s.1.2 ≤ L ∧ s.1.2 - s.1.1 < m + 1 ∧ s.2.1 ≤ 100 ∧ s.2.2.2.1.size = L ∧ Keeps (blk a) h s.2.2.2.2 ∧ Sv s.2.2.2.2 46 1 a L cap (ksU s.2.2.2.1) ∧ F = pdq ltInt s.2.2.2.1 s.1.1 s.1.2 s.2.1 s.2.2.1.1 s.2.2.1.2) (fun s => s.1.2 - s.1.1) ((x, y), lim, (true, true), d, h) ?_ ?_ rfl rfl ?_
  · exact ⟨hxy, hy, hm, hlim, hL, Keeps.rf _ _, hS, hF⟩
  · exact ⟨rfl, rfl, rfl, rfl, rfl, rfl, trivial⟩
  clear hF hS hL hm hxy hy hlim
  clear d x y lim
  rintro ⟨⟨x, y⟩, lim, ⟨wb, wp⟩, d, H⟩ ⟨hxy, hy, hm, hlim, he, kp, sv, eq⟩
  simp only at hxy hy hm hlim he kp sv eq ⊢
  have svs : KvU H a cap d := by unfold KvU; rw [he]; exact sv
  rcases Nat.lt_or_ge 12 (y - x) with z0 | z0
  case inr =>
    rw [pdq, if_pos z0] at eq
    have sp := insU_spec a cap d x y hxy (by omega) (by omega) H svs
    unfold SortsU at sp
    rw [he] at sp
    (refine Go.run (g:=?_))
    refine GoR.callW rfl rfl rfl rfl rfl rfl rfl (((sp).argA).mono ?_)
    rintro _ H1 ⟨rfl, e1, sv1⟩ k1
    refine ⟨hW, ?_⟩
    (refine Go.run (g:=?_))
    (first|refine Go.finT (by first|exact .inr rfl|exact .inl rfl) rfl ?_|refine Go.fin1 (by first|exact .inr rfl|exact .inl rfl) rfl (hq:=?_))
    exact ⟨rfl, by rw [eq]; exact e1, by rw [eq]; exact sv1⟩
  rcases Nat.lt_or_ge 0 lim with z1 | z1
  case inr =>
    obtain rfl : lim = 0 := by omega
    rw [pdq, if_neg (by omega), if_pos rfl] at eq
    have sp := heapU_spec a cap d x y (by omega) (by omega) (by omega) H svs
    unfold SortsU at sp
    rw [he] at sp
    (refine Go.run (g:=?_))
    refine GoR.callW rfl rfl rfl rfl rfl rfl rfl (((sp).argA).mono ?_)
    rintro _ H1 ⟨rfl, e1, sv1⟩ k1
    refine ⟨hW, ?_⟩
    (refine Go.run (g:=?_))
    (first|refine Go.finT (by first|exact .inr rfl|exact .inl rfl) rfl ?_|refine Go.fin1 (by first|exact .inr rfl|exact .inl rfl) rfl (hq:=?_))
    exact ⟨rfl, by rw [eq]; exact e1, by rw [eq]; exact sv1⟩
  rw [pdq_unfold (by omega) (by omega)] at eq
  obtain ⟨d1, hd1⟩ : ∃ d1, d1 = (if !wb then breakPatterns d x y else d) := ⟨_, rfl⟩
  obtain ⟨l1, hl1⟩ : ∃ l1, l1 = (if !wb then lim - 1 else lim) := ⟨_, rfl⟩
  rw [← hd1, ← hl1] at eq
  obtain ⟨n, hn0⟩ : ∃ n, n = y - x := ⟨_, rfl⟩
  (refine Go.run (g:=?_))
  rw [← hn0]
  (refine Go.run (g:=?_))
  refine Go.join1 (α := AHeap) (fun _ => [(3, .int .i64 l1), (8, .bool wb), (9, .bool wp), (10, .int .i64 n), (0, .slice a L cap), (1, .int .i64 x), (2, .int .i64 y)]) (fun _ => []) (fun H => H) (fun H => d1.size = L ∧ Keeps (blk a) h H ∧ Sv H 46 1 a L cap (ksU d1)) ?_ ?_
  · clear eq
    cases wb with
    | true =>
      have hd1 : d1 = d := hd1
      have hl1 : l1 = lim := hl1
      subst hd1 hl1
      (refine Go.run (g:=?_))
      exact Go.joined H ⟨he, kp, sv⟩ ⟨rfl, rfl, rfl, rfl, rfl, rfl, rfl, trivial⟩ rfl rfl
    | false =>
      have hd1 : d1 = breakPatterns d x y := hd1
      have hl1 : l1 = lim - 1 := hl1
      subst hl1
      have sp := brkU_spec a cap d x y (by omega) (by omega) (by omega) H svs
      unfold SortsU at sp
      rw [he] at sp
      (refine Go.run (g:=?_))
      refine GoR.callW rfl rfl rfl rfl rfl rfl rfl (((sp).argA).mono ?_)
      rintro _ H1 ⟨rfl, e1, sv1⟩ k1
      refine ⟨hW, ?_⟩
      (refine Go.run (g:=?_))
      exact Go.joined H1 ⟨by rw [hd1]; exact e1, kp.tr k1, by rw [hd1]; exact sv1⟩ ⟨rfl, rfl, rfl, rfl, rfl, rfl, rfl, trivial⟩ rfl rfl
  have hl1b : l1 ≤ 100 := by rw [hl1]; split <;> omega
  clear hd1 hl1 sv kp he svs
  rintro H1 ⟨e1, kp1, sv1⟩
  have svs : KvU H1 a cap d1 := by unfold KvU; rw [e1]; exact sv1
  unfold pq2 at eq
  have sp := pivU_spec a cap d1 x y (by omega) (by omega) (by omega) H1 svs
  rw [e1] at sp
  obtain ⟨r1, r2⟩ := choosePivot_holds ltInt d1 x y (by omega)
  generalize choosePivot ltInt d1 x y = c at *
  obtain ⟨p, hint⟩ := c
  simp only at sp r1 r2 eq
  (refine Go.run (g:=?_))
  refine GoR.call rfl rfl rfl rfl rfl rfl rfl (((sp).argA).mono ?_)
  rintro _ H2 ⟨rfl, -⟩ s2
  have kp2 := kp1.sm s2
  have sv2 := sv1.same s2
  have svs2 := Sv.same svs s2
  clear svs sv1 kp1 sp
  obtain ⟨d2, hd2⟩ : ∃ d2, d2 = (if hint = .decreasing then reverseRange d1 x y else d1) := ⟨_, rfl⟩
  obtain ⟨pv, hpv⟩ : ∃ pv, pv = (if hint = .decreasing then (y - 1) - (p - x) else p) := ⟨_, rfl⟩
  obtain ⟨ht, hht⟩ : ∃ ht, ht = (if hint = .decreasing then Hint.increasing else hint) := ⟨_, rfl⟩
  rw [← hd2, ← hpv, ← hht] at eq
  obtain ⟨hv, hhv⟩ : ∃ hv, hv = hintN hint := ⟨_, rfl⟩
  rw [← hhv]
  have pv1 : x ≤ pv ∧ pv < y := by rw [hpv]; split <;> omega
  (refine Go.run (g:=?_))
  refine Go.join1 (α := AHeap) (fun _ => [(11, .int .i64 pv), (12, .int .i64 (hintN ht)), (3, .int .i64 l1), (8, .bool wb), (9, .bool wp), (10, .int .i64 n), (0, .slice a L cap), (1, .int .i64 x), (2, .int .i64 y)]) (fun _ => []) (fun H => H) (fun H => d2.size = L ∧ Keeps (blk a) h H ∧ Sv H 46 1 a L cap (ksU d2)) ?_ ?_
  · clear eq
    have hl0 : ∀ hh, hh ≠ .decreasing → hint = hh → d2 = d1 ∧ pv = p ∧ ht = hh := fun hh h1 h2 => by subst h2; rw [if_neg h1] at hd2 hpv hht; exact ⟨hd2, hpv, hht⟩
    cases hint with
    | unknown =>
      have hhv : hv = 0 := hhv
      subst hhv
      obtain ⟨rfl, rfl, rfl⟩ := hl0 _ (by decide) rfl
      (refine Go.run (g:=?_))
      exact Go.joined H2 ⟨e1, kp2, sv2⟩ ⟨rfl, rfl, rfl, rfl, rfl, rfl, rfl, rfl, rfl, trivial⟩ rfl rfl
    | increasing =>
      have hhv : hv = 1 := hhv
      subst hhv
      obtain ⟨rfl, rfl, rfl⟩ := hl0 _ (by decide) rfl
      (refine Go.run (g:=?_))
      exact Go.joined H2 ⟨e1, kp2, sv2⟩ ⟨rfl, rfl, rfl, rfl, rfl, rfl, rfl, rfl, rfl, trivial⟩ rfl rfl
    | decreasing =>
      have hhv : hv = 2 := hhv
      subst hhv
      rw [if_pos rfl] at hd2 hpv hht
      subst hht hpv
      have sp := revU_spec a cap d1 x y (by omega) (by omega) (by omega) H2 svs2
      unfold SortsU at sp
      rw [e1] at sp
      (refine Go.run (g:=?_))
      refine GoR.callW rfl rfl rfl rfl rfl rfl rfl (((sp).argA).mono ?_)
      rintro _ H3 ⟨rfl, e3, sv3⟩ k3
      refine ⟨hW, ?_⟩
      (refine Go.run (g:=?_))
      exact Go.joined H3 ⟨by rw [hd2]; exact e3, kp2.tr k3, by rw [hd2]; exact sv3⟩ ⟨rfl, rfl, rfl, rfl, rfl, rfl, rfl, rfl, rfl, trivial⟩ rfl rfl
  clear hd2 hpv hht svs2 sv2 kp2 e1 r1 r2 hhv
  clear hv
  rintro H3 ⟨e3, kp3, sv3⟩
  unfold pq3 at eq
  obtain ⟨pi, hpi⟩ : ∃ pi, pi = (if (wb && wp && ht = .increasing) = true then partialInsertionSort ltInt d2 x y else (d2, false)) := ⟨_, rfl⟩
  rw [← hpi] at eq
  refine Go.seq ?_
  obtain ⟨hv, hhv⟩ : ∃ hv, hv = hintN ht := ⟨_, rfl⟩
  rw [← hhv]
  refine Go.join1 (α := AHeap) (fun _ => [(11, .int .i64 pv), (3, .int .i64 l1), (8, .bool wb), (9, .bool wp), (10, .int .i64 n), (0, .slice a L cap), (1, .int .i64 x), (2, .int .i64 y)]) (fun _ => []) (fun H => H) (fun H => pi.2 = false ∧ pi.1.size = L ∧ Keeps (blk a) h H ∧ Sv H 46 1 a L cap (ksU pi.1)) ?_ ?_
  · have no : (wb && wp && decide (ht = .increasing)) = false → pi.2 = false ∧ pi.1.size = L ∧ Keeps (blk a) h H3 ∧ Sv H3 46 1 a L cap (ksU pi.1) := fun hb => by
      rw [if_neg (by rw [hb]; decide)] at hpi
      subst hpi
      exact ⟨rfl, e3, kp3, sv3⟩
    cases wb with
    | false =>
      (refine Go.run (g:=?_))
      exact Go.joined H3 (no rfl) ⟨rfl, rfl, rfl, rfl, rfl, rfl, rfl, rfl, trivial⟩ rfl rfl
    | true =>
    cases wp with
    | false =>
      (refine Go.run (g:=?_))
      exact Go.joined H3 (no rfl) ⟨rfl, rfl, rfl, rfl, rfl, rfl, rfl, rfl, trivial⟩ rfl rfl
    | true =>
    cases ht with
    | unknown =>
      have hhv : hv = 0 := hhv
      subst hhv
      (refine Go.run (g:=?_))
      exact Go.joined H3 (no rfl) ⟨rfl, rfl, rfl, rfl, rfl, rfl, rfl, rfl, trivial⟩ rfl rfl
    | decreasing =>
      have hhv : hv = 2 := hhv
      subst hhv
      (refine Go.run (g:=?_))
      exact Go.joined H3 (no rfl) ⟨rfl, rfl, rfl, rfl, rfl, rfl, rfl, rfl, trivial⟩ rfl rfl
    | increasing =>
      clear no
      have hhv : hv = 1 := hhv
      subst hhv
      have hpi : pi = partialInsertionSort ltInt d2 x y := hpi
      have sp := pinsU_spec a cap d2 x y (by omega) (by omega) (by omega) H3 (by unfold KvU; rw [e3]; exact sv3)
      rw [e3, ← hpi] at sp
      (refine Go.run (g:=?_))
      refine GoR.callW rfl rfl rfl rfl rfl rfl rfl (((sp).argA).mono ?_)
      rintro _ H4 ⟨rfl, e4, sv4⟩ k4
      refine ⟨hW, ?_⟩
      clear sp
      cases hb : pi.2 with
      | false =>
        (refine Go.run (g:=?_))
        exact Go.joined H4 ⟨rfl, e4, kp3.tr k4, sv4⟩ ⟨rfl, rfl, rfl, rfl, rfl, rfl, rfl, rfl, trivial⟩ rfl rfl
      | true =>
        rw [hb, if_pos rfl] at eq
        subst eq
        (refine Go.run (g:=?_))
        (first|refine Go.finT (by first|exact .inr rfl|exact .inl rfl) rfl ?_|refine Go.fin1 (by first|exact .inr rfl|exact .inl rfl) rfl (hq:=?_))
        exact ⟨rfl, e4, sv4⟩
  clear hhv e3 kp3 sv3 hpi
  clear hv
  rintro H5 ⟨hb5, e5, kp5, sv5⟩
  rw [hb5, if_neg (by decide)] at eq
  clear hb5
  generalize pi.1 = d3 at *
  clear pi d2 d1 d
  have hl := ksU_len d3
  have c1 : (ksU d3)[pv]? = some (.int .u16 d3[pv]!) := ksU_get (by omega)
  have svs5 : KvU H5 a cap d3 := by unfold KvU; rw [e5]; exact sv5
  have dn : ∀ b, (decide (x > 0) && !ltInt d3[x - 1]! d3[pv]!) = b → True := fun _ _ => trivial
  refine Go.seq ?_
  refine Go.join1 (α := Unit) (fun _ => [(11, .int .i64 pv), (3, .int .i64 l1), (8, .bool wb), (9, .bool wp), (10, .int .i64 n), (0, .slice a L cap), (1, .int .i64 x), (2, .int .i64 y)]) (fun _ => []) (fun _ => H5) (fun _ => (decide (x > 0) && !ltInt d3[x - 1]! d3[pv]!) = false) ?_ ?_
  · rcases Nat.lt_or_ge 0 x with x0 | x0
    case inr =>
      (refine Go.run (g:=?_))
      exact Go.joined () (by rw [decide_eq_false (by omega)]; rfl) ⟨rfl, rfl, rfl, rfl, rfl, rfl, rfl, rfl, trivial⟩ rfl rfl
    have c2 : (ksU d3)[x - 1]? = some (.int .u16 d3[x - 1]!) := ksU_get (by omega)
    (refine Go.run (g:=?_))
    refine GoR.call rfl rfl rfl rfl rfl rfl rfl (((lessU_spec _ _ _).argA).mono ?_)
    rintro _ H6 ⟨rfl, rfl⟩ -
    cases hq : decide (d3[x - 1]! < d3[pv]!) with
    | true =>
      (refine Go.run (g:=?_))
      exact Go.joined () (by rw [show ltInt d3[x - 1]! d3[pv]! = true from hq]; simp) ⟨rfl, rfl, rfl, rfl, rfl, rfl, rfl, rfl, trivial⟩ rfl rfl
    | false =>
      rw [pq4_eq (by omega) (by rw [show ltInt d3[x - 1]! d3[pv]! = false from hq, decide_eq_true x0]; rfl)] at eq
      have hmid := partEq_mid d3 (a := x) (b := y) (pv := pv) (by omega)
      have sp := parteqU_spec a cap d3 x y pv (by omega) (by omega) (by omega) (by omega) (by omega) H6 svs5
      rw [e5] at sp
      generalize partitionEqual ltInt d3 x y pv = r at *
      obtain ⟨mid, d4⟩ := r
      simp only at sp hmid eq
      (refine Go.run (g:=?_))
      refine GoR.callW rfl rfl rfl rfl rfl rfl rfl (((sp).argA).mono ?_)
      rintro _ H7 ⟨rfl, e7, sv7⟩ k7
      refine ⟨hW, ?_⟩
      (refine Go.run (g:=?_))
      exact Go.again ((mid, y), l1, (wb, wp), d4, H7) ⟨by simp only; omega, by simp only; omega, by simp only; omega, hl1b, e7, kp5.tr k7, sv7, eq⟩ (by simp only; omega) ⟨rfl, rfl, rfl, rfl, rfl, rfl, trivial⟩ rfl rfl
  clear dn
  intro _ hcond
  rw [pq4_ne (by omega) (by omega) (by omega) hcond] at eq
  have hmid := part_mid d3 (a := x) (b := y) (pv := pv) (by omega) (by omega) (by omega)
  have sp := partU_spec a cap d3 x y pv (by omega) (by omega) (by omega) (by omega) (by omega) H5 svs5
  rw [e5] at sp
  clear hcond
  generalize partition ltInt d3 x y pv = r at *
  obtain ⟨mid, ap, d4⟩ := r
  simp only at sp hmid eq
  (refine Go.run (g:=?_))
  refine GoR.callW rfl rfl rfl rfl rfl rfl rfl (((sp).argA).mono ?_)
  rintro _ H6 ⟨rfl, e6, sv6⟩ k6
  refine ⟨hW, ?_⟩
  have kp6 := kp5.tr k6
  clear sp c1 svs5 sv5 kp5 k6
  have svs6 : Sv H6 46 1 a d4.size cap (ksU d4) := by rw [e6]; exact sv6
  rcases Nat.lt_or_ge (mid - x) (y - mid) with z2 | z2
  · rw [if_pos z2] at eq
    have rc0 := ih d4 x mid l1 (by omega) (by omega) (by omega) (by omega) hl1b H6 svs6
    rw [e6] at rc0
    (refine Go.run (g:=?_))
    refine GoR.callW rfl rfl rfl rfl rfl rfl rfl (((rc0).argA).mono ?_)
    rintro _ H7 ⟨rfl, e7, sv7⟩ k7
    refine ⟨hW, ?_⟩
    (refine Go.run (g:=?_))
    exact Go.again ((mid + 1, y), l1, (_, ap), pdq ltInt d4 x mid l1 true true, H7) ⟨by simp only; omega, by simp only; omega, by simp only; omega, hl1b, e7, kp6.tr k7, sv7, by rw [eq]; simp only; congr 1; rw [hn0]; exact decide_eq_decide.2 (by omega)⟩ (by simp only; omega) ⟨rfl, rfl, rfl, rfl, rfl, rfl, trivial⟩ rfl rfl
  · rw [if_neg (by omega)] at eq
    have rc0 := ih d4 (mid + 1) y l1 (by omega) (by omega) (by omega) (by omega) hl1b H6 svs6
    rw [e6] at rc0
    (refine Go.run (g:=?_))
    refine GoR.callW rfl rfl rfl rfl rfl rfl rfl (((rc0).argA).mono ?_)
    rintro _ H7 ⟨rfl, e7, sv7⟩ k7
    refine ⟨hW, ?_⟩
    (refine Go.run (g:=?_))
    exact Go.again ((x, mid), l1, (_, ap), pdq ltInt d4 (mid + 1) y l1 true true, H7) ⟨by simp only; omega, by simp only; omega, by simp only; omega, hl1b, e7, kp6.tr k7, sv7, by rw [eq]; simp only; congr 1; rw [hn0]; exact decide_eq_decide.2 (by omega)⟩ (by simp only; omega) ⟨rfl, rfl, rfl, rfl, rfl, rfl, trivial⟩ rfl rfl
set_option maxHeartbeats 8000000 in
theorem sortU_spec (a : Option Addr) (cap : Nat) (d : Array Int) (hn : d.size ≤ 1000000) (h : AHeap) (hS : KvU h a cap d) : CallS Try.prog (blk a) 42 [.slice a d.size cap] h fun v h' => v = .tuple #[] ∧ (sort ltInt d).size = d.size ∧ Sv h' 46 1 a d.size cap (ksU (sort ltInt d)) := by
  have hb : bitsLen d.size ≤ 20 := (bitsLen_le_iff _ 20).2 (by omega)
  have sp := pdqU_spec a cap (d.size + 1) d 0 d.size (bitsLen d.size) (by omega) (Nat.zero_le _) (Nat.le_refl _) hn (by omega) h hS
  unfold sort
  unfold SortsU at sp
  have hln := len_spec d.size hn
  generalize bitsLen d.size = B at *
  generalize hL : d.size = L at *
  (refine CallS.of1 Try.func42 rfl Try.ntmps42 Try.results42 rfl ?_)
  (refine Go.run (g:=?_))
  refine GoR.call rfl rfl rfl rfl rfl rfl rfl (((hln _).argA).mono ?_)
  rintro _ H2 ⟨rfl, rfl⟩ -
  (refine Go.run (g:=?_))
  refine GoR.callW rfl rfl rfl rfl rfl rfl rfl (((sp).argA).mono ?_)
  rintro _ H1 ⟨rfl, e1, sv1⟩ k1
  refine ⟨fun i hi => .inl hi, ?_⟩
  (refine Go.run (g:=?_))
  (first|refine Go.finT (by first|exact .inr rfl|exact .inl rfl) rfl ?_|refine Go.fin1 (by first|exact .inr rfl|exact .inl rfl) rfl (hq:=?_))
  exact ⟨rfl, e1, sv1⟩
end Go.Proofs.Ytfcfgmhcphmefaa