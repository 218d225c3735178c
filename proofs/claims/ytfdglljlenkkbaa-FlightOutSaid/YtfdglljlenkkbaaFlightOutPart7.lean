/- What the law leans on, part 7. No conditions. -/
import Derived.Sort.LotD5
import Derived.KernelRfl
import Derived.Test.YtfdglljlenkkbaaFlightOutPart6
set_option linter.unusedVariables false
set_option linter.unusedSimpArgs false
namespace Go.Proofs.Ytfdglljlenkkbaa
open Go.Sort
set_option maxRecDepth 100000
attribute [local irreducible] Go GoR GoL
abbrev Cell1 (h : AHeap) (sb : Nat) (s : Nat) : Prop := h.get sb = some (.cells [.int .i64 s] 3)
set_option maxHeartbeats 8000000 in
theorem ordI_spec (a : Option Addr) (cap : Nat) (d : Array Int) (x y sb s : Nat) (hx : x < d.size) (hy : y < d.size) (hn : d.size ≤ 1000000) (hs : s ≤ 100) (h : AHeap) (hS : KvI h a cap d) (hc : Cell1 h sb s) : CallS Try.prog [sb] 60 [.slice a d.size cap, .int .i64 x, .int .i64 y, .pointer (some ⟨sb, 0, none⟩)] h fun v h' => v = .tuple #[.int .i64 (order2 ltInt d x y s).1, .int .i64 (order2 ltInt d x y s).2.1] ∧ Cell1 h' sb (order2 ltInt d x y s).2.2 := by
 unfold KvI at hS
 have c1 : (ksI d)[x]? = some (.int .i64 d[x]!) := ksI_get (by omega)
 have c2 : (ksI d)[y]? = some (.int .i64 d[y]!) := ksI_get (by omega)
 generalize hL : d.size = L at *
 have hl := ksI_len d
 (refine CallS.of4 Try.func60 rfl Try.ntmps60 Try.results60 rfl ?_)
 (refine Go.run (g:=?_))
 refine GoR.call rfl rfl rfl rfl rfl rfl rfl (((lessI_spec _ _ _).argA).mono ?_)
 rintro _ H2 ⟨rfl, rfl⟩ -
 unfold order2
 cases hq : decide (d[y]! < d[x]!) with
 | false =>
  rw [show ltInt d[y]! d[x]! = false from hq, if_neg (by decide)]
  (refine Go.run (g:=?_))
  refine Go.fin (.inr rfl) (.tmp rfl (.tmp rfl .nil)) ?_
  exact ⟨rfl, hc⟩
 | true =>
  rw [show ltInt d[y]! d[x]! = true from hq, if_pos rfl]
  (refine Go.run (g:=?_))
  refine Go.fin (.inr rfl) (.tmp rfl (.tmp rfl .nil)) ?_
  exact ⟨rfl, get_put_self hc⟩
theorem ordI_fst (d : Array Int) (x y s : Nat) : ((order2 ltInt d x y s).1 = x ∧ (order2 ltInt d x y s).2.1 = y ∨ (order2 ltInt d x y s).1 = y ∧ (order2 ltInt d x y s).2.1 = x) ∧ s ≤ (order2 ltInt d x y s).2.2 ∧ (order2 ltInt d x y s).2.2 ≤ s + 1 := by
 unfold order2
 split
 · exact ⟨.inr ⟨rfl, rfl⟩, by simp, by simp⟩
 · exact ⟨.inl ⟨rfl, rfl⟩, by simp, by simp⟩
set_option maxHeartbeats 8000000 in
theorem medI_spec (a : Option Addr) (cap : Nat) (d : Array Int) (x y z sb s : Nat) (hx : x < d.size) (hy : y < d.size) (hz : z < d.size) (hn : d.size ≤ 1000000) (hs : s ≤ 50) (h : AHeap) (hS : KvI h a cap d) (hc : Cell1 h sb s) (hne : sb ∉ blk a) : CallS Try.prog [sb] 57 [.slice a d.size cap, .int .i64 x, .int .i64 y, .int .i64 z, .pointer (some ⟨sb, 0, none⟩)] h fun v h' => v = .int .i64 (median ltInt d x y z s).1 ∧ (median ltInt d x y z s).1 < d.size ∧ (median ltInt d x y z s).2 ≤ s + 3 ∧ Cell1 h' sb (median ltInt d x y z s).2 := by
 have sub : ∀ {H H' : AHeap}, Sv H 3 1 a d.size cap (ksI d) → Keeps [sb] H H' → Sv H' 3 1 a d.size cap (ksI d) := fun k kp => k.keeps kp (fun i hi hm => by simp only [List.mem_singleton] at hm; subst hm; exact hne hi)
 have hsb := AHeap.lt hc
 unfold median
 obtain ⟨f1, f2, f3⟩ := ordI_fst d x y s
 have sp1 := ordI_spec a cap d x y sb s hx hy hn (by omega) h hS hc
 generalize order2 ltInt d x y s = r1 at *
 obtain ⟨p1, q1, s1⟩ := r1
 simp only at f1 f2 f3 sp1 ⊢
 have sp2 := ordI_spec a cap d q1 z sb s1 (by omega) hz hn (by omega)
 obtain ⟨g1, g2, g3⟩ := ordI_fst d q1 z s1
 generalize order2 ltInt d q1 z s1 = r2 at *
 obtain ⟨p2, q2, s2⟩ := r2
 simp only at g1 g2 g3 sp2 ⊢
 have sp3 := ordI_spec a cap d p1 p2 sb s2 (by omega) (by omega) hn (by omega)
 obtain ⟨k1, k2, k3⟩ := ordI_fst d p1 p2 s2
 generalize order2 ltInt d p1 p2 s2 = r3 at *
 obtain ⟨p3, q3, s3⟩ := r3
 simp only at k1 k2 k3 sp3 ⊢
 (refine CallS.of5 Try.func57 rfl Try.ntmps57 Try.results57 rfl ?_)
 (refine Go.run (g:=?_))
 refine GoR.callW rfl rfl rfl rfl rfl rfl rfl (((sp1).argA).mono ?_)
 rintro _ h1 ⟨rfl, hc1⟩ kp1
 refine ⟨fun i hi => .inl hi, ?_⟩
 have hS1 := sub hS kp1
 (refine Go.run (g:=?_))
 refine GoR.callW rfl rfl rfl rfl rfl rfl rfl (((sp2 h1 hS1 hc1).argA).mono ?_)
 rintro _ h2 ⟨rfl, hc2⟩ kp2
 refine ⟨fun i hi => .inl hi, ?_⟩
 have hS2 := sub hS1 kp2
 (refine Go.run (g:=?_))
 refine GoR.callW rfl rfl rfl rfl rfl rfl rfl (((sp3 h2 hS2 hc2).argA).mono ?_)
 rintro _ h3 ⟨rfl, hc3⟩ kp3
 refine ⟨fun i hi => .inl hi, ?_⟩
 (refine Go.run (g:=?_))
 (first|refine Go.finA rfl ?_|refine Go.finB rfl (hq:=?_))
 exact ⟨rfl, by omega, by omega, hc3⟩
set_option maxHeartbeats 8000000 in
theorem adjI_spec (a : Option Addr) (cap : Nat) (d : Array Int) (x sb s : Nat) (h1x : 1 ≤ x) (hx : x + 1 < d.size) (hn : d.size ≤ 1000000) (hs : s ≤ 50) (h : AHeap) (hS : KvI h a cap d) (hc : Cell1 h sb s) (hne : sb ∉ blk a) : CallS Try.prog [sb] 56 [.slice a d.size cap, .int .i64 x, .pointer (some ⟨sb, 0, none⟩)] h fun v h' => v = .int .i64 (medianAdjacent ltInt d x s).1 ∧ (medianAdjacent ltInt d x s).1 < d.size ∧ (medianAdjacent ltInt d x s).2 ≤ s + 3 ∧ Cell1 h' sb (medianAdjacent ltInt d x s).2 := by
 unfold medianAdjacent
 have sp := medI_spec a cap d (x - 1) x (x + 1) sb s (by omega) (by omega) hx hn hs h hS hc hne
 (refine CallS.of3 Try.func56 rfl Try.ntmps56 Try.results56 rfl ?_)
 (refine Go.run (g:=?_))
 refine GoR.callW rfl rfl rfl rfl rfl rfl rfl (((sp).argA).mono ?_)
 rintro _ h1 ⟨rfl, k1, k2, k3⟩ kp1
 refine ⟨fun i hi => .inl hi, ?_⟩
 (refine Go.run (g:=?_))
 (first|refine Go.finA rfl ?_|refine Go.finB rfl (hq:=?_))
 exact ⟨rfl, k1, k2, k3⟩
def hintN : Hint → Nat
 | .unknown => 0
 | .increasing => 1
 | .decreasing => 2
set_option maxHeartbeats 16000000 in
theorem pivI_spec (a : Option Addr) (cap : Nat) (d : Array Int) (x y : Nat) (hxy : x + 12 < y) (hy : y ≤ d.size) (hn : d.size ≤ 1000000) (h : AHeap) (hS : KvI h a cap d) : CallS Try.prog [] 44 [.slice a d.size cap, .int .i64 x, .int .i64 y] h fun v h' => v = .tuple #[.int .i64 (choosePivot ltInt d x y).1, .int .i64 (hintN (choosePivot ltInt d x y).2)] ∧ (choosePivot ltInt d x y).1 < d.size := by
 have sub : ∀ {H H' : AHeap}, Sv H 3 1 a d.size cap (ksI d) → Keeps [h.n] H H' → Sv H' 3 1 a d.size cap (ksI d) := fun k kp => k.keeps kp (fun i hi hm => by simp only [List.mem_singleton] at hm; subst hm; have := hS.lt _ hi; omega)
 have hne : h.n ∉ blk a := fun hi => by have := hS.lt _ hi; omega
 unfold choosePivot
 obtain ⟨n, hyn⟩ : ∃ n, n = y - x := ⟨_, rfl⟩
 rw [← hyn]
 simp only
 (refine CallS.of3 Try.func44 rfl Try.ntmps44 Try.results44 rfl ?_)
 (refine Go.run (g:=?_))
 rw [← hyn]
 rw [if_pos (show n ≥ 8 from by omega)]
 have w9 : ∀ i ∈ [h.n], i ∈ ([] : List Nat) ∨ h.n ≤ i := fun i hi => by simp only [List.mem_singleton] at hi; omega
 rcases Nat.lt_or_ge n 50 with n0 | n0
 ·
  rw [if_neg (by omega)]
  (refine Go.run (g:=?_))
  refine GoR.name ?_
  intro h2 e2
  have s2 : Same h h2 := by subst e2; exact (Same.refl h).push _
  have cl2 : Cell1 h2 h.n 0 := by subst e2; exact AHeap.get_push_same h _
  clear e2
  have msp := medI_spec a cap d (x + n / 4 * 1) (x + n / 4 * 2) (x + n / 4 * 3) h.n 0 (by omega) (by omega) (by omega) hn (by omega) h2 (hS.same s2) cl2 hne
  generalize median ltInt d (x + n / 4 * 1) (x + n / 4 * 2) (x + n / 4 * 3) 0 = r at *
  obtain ⟨mi, sw⟩ := r
  simp only at msp ⊢
  refine GoR.callW rfl rfl rfl rfl rfl rfl rfl (((msp).argA).mono ?_)
  rintro _ h3 ⟨rfl, fb, b3, cl3⟩ kp3
  refine ⟨w9, ?_⟩
  unfold Cell1 at cl3
  clear b3
  (refine Go.run (g:=?_))
  rcases Nat.lt_or_ge 0 sw with z0 | z0
  case inr =>
   obtain rfl : sw = 0 := by omega
   (refine Go.run (g:=?_))
   refine Go.fin (.inr rfl) (.tmp rfl (.tmp rfl .nil)) ?_
   exact ⟨rfl, fb⟩
  by_cases z1 : sw = 12
  ·
   subst z1
   (refine Go.run (g:=?_))
   refine Go.fin (.inr rfl) (.tmp rfl (.tmp rfl .nil)) ?_
   exact ⟨rfl, fb⟩
  ·
   rw [if_neg (by omega), if_neg z1]
   (refine Go.run (g:=?_))
   refine Go.fin (.inr rfl) (.tmp rfl (.tmp rfl .nil)) ?_
   exact ⟨rfl, fb⟩
 ·
  rw [if_pos (by omega)]
  (refine Go.run (g:=?_))
  refine GoR.name ?_
  intro h2 e2
  have s2 : Same h h2 := by subst e2; exact (Same.refl h).push _
  have cl2 : Cell1 h2 h.n 0 := by subst e2; exact AHeap.get_push_same h _
  clear e2
  have hS2 := hS.same s2
  have asp1 := adjI_spec a cap d (x + n / 4 * 1) h.n 0 (by omega) (by omega) hn (by omega) h2 hS2 cl2 hne
  have asp2 := fun s => adjI_spec a cap d (x + n / 4 * 2) h.n s (by omega) (by omega) hn
  have asp3 := fun s => adjI_spec a cap d (x + n / 4 * 3) h.n s (by omega) (by omega) hn
  generalize medianAdjacent ltInt d (x + n / 4 * 1) 0 = r1 at *
  obtain ⟨m1, t1⟩ := r1
  simp only at asp1 ⊢
  have asp2 := asp2 t1
  generalize medianAdjacent ltInt d (x + n / 4 * 2) t1 = r2 at *
  obtain ⟨m2, t2⟩ := r2
  simp only at asp2 ⊢
  have asp3 := asp3 t2
  generalize medianAdjacent ltInt d (x + n / 4 * 3) t2 = r3 at *
  obtain ⟨m3, t3⟩ := r3
  simp only at asp3 ⊢
  refine GoR.callW rfl rfl rfl rfl rfl rfl rfl (((asp1).argA).mono ?_)
  rintro _ h3 ⟨rfl, fb1, b3, cl3⟩ kp3
  refine ⟨w9, ?_⟩
  have hS3 := sub hS2 kp3
  (refine Go.run (g:=?_))
  refine GoR.callW rfl rfl rfl rfl rfl rfl rfl (((asp2 (by omega) h3 hS3 cl3 hne).argA).mono ?_)
  rintro _ h4 ⟨rfl, fb2, b4, cl4⟩ kp4
  refine ⟨w9, ?_⟩
  have hS4 := sub hS3 kp4
  (refine Go.run (g:=?_))
  refine GoR.callW rfl rfl rfl rfl rfl rfl rfl (((asp3 (by omega) h4 hS4 cl4 hne).argA).mono ?_)
  rintro _ h5 ⟨rfl, fb3, b5, cl5⟩ kp5
  refine ⟨w9, ?_⟩
  have hS5 := sub hS4 kp5
  have msp := medI_spec a cap d m1 m2 m3 h.n t3 (by omega) (by omega) (by omega) hn (by omega) h5 hS5 cl5 hne
  generalize median ltInt d m1 m2 m3 t3 = r at *
  obtain ⟨mi, sw⟩ := r
  simp only at msp ⊢
  clear cl3 cl4 cl2
  (refine Go.run (g:=?_))
  refine GoR.callW rfl rfl rfl rfl rfl rfl rfl (((msp).argA).mono ?_)
  rintro _ h6 ⟨rfl, fb, b6, cl6⟩ kp6
  refine ⟨w9, ?_⟩
  unfold Cell1 at cl6
  clear cl5
  (refine Go.run (g:=?_))
  rcases Nat.lt_or_ge 0 sw with z0 | z0
  case inr =>
   obtain rfl : sw = 0 := by omega
   (refine Go.run (g:=?_))
   refine Go.fin (.inr rfl) (.tmp rfl (.tmp rfl .nil)) ?_
   exact ⟨rfl, fb⟩
  by_cases z1 : sw = 12
  ·
   subst z1
   (refine Go.run (g:=?_))
   refine Go.fin (.inr rfl) (.tmp rfl (.tmp rfl .nil)) ?_
   exact ⟨rfl, fb⟩
  ·
   rw [if_neg (by omega), if_neg z1]
   (refine Go.run (g:=?_))
   refine Go.fin (.inr rfl) (.tmp rfl (.tmp rfl .nil)) ?_
   exact ⟨rfl, fb⟩
set_option maxHeartbeats 16000000 in
theorem revI_spec (a : Option Addr) (cap : Nat) (d : Array Int) (x y : Nat) (hxy : x < y) (hy : y ≤ d.size) (hn : d.size ≤ 1000000) (h : AHeap) (hS : KvI h a cap d) : SortsI 45 a cap d [.int .i64 x, .int .i64 y] h (reverseRange d x y) := by
 unfold SortsI reverseRange
 unfold KvI at hS
 generalize hL : d.size = L at *
 have hW : ∀ i ∈ blk a, i ∈ blk a ∨ h.n ≤ i := fun i hi => .inl hi
 (refine CallS.of3 Try.func45 rfl Try.ntmps45 Try.results45 rfl ?_)
 (refine Go.run (g:=?_))
 refine Go.loop (α := Nat × Nat × Array Int × AHeap) (fun s => [(6, .int .i64 s.1), (7, .int .i64 s.2.1), (0, .slice a L cap)]) (fun _ => []) (fun s => s.2.2.2) (fun s => s.1 ≤ s.2.1 + 1 ∧ s.2.1 < L ∧ s.2.2.1.size = L ∧ Keeps (blk a) h s.2.2.2 ∧ Sv s.2.2.2 3 1 a L cap (ksI s.2.2.1) ∧ reverseLoop s.1 s.2.1 s.2.2.1 = reverseLoop x (y - 1) d) (fun s => s.2.1 + 1 - s.1) (x, y - 1, d, h) ?_ ?_ rfl rfl ?_
 · exact ⟨by simp only; omega, by simp only; omega, hL, Keeps.rf _ _, hS, rfl⟩
 · exact ⟨rfl, rfl, rfl, trivial⟩
 rintro ⟨i, j, e, H⟩ ⟨hi, hj, he, kp, sv, eq⟩
 simp only at hi hj he kp sv eq ⊢
 rw [reverseLoop] at eq
 rcases Nat.lt_or_ge i j with i0 | i0
 case inr =>
  rw [if_neg (by omega)] at eq
  (refine Go.run (g:=?_))
  (first|refine Go.finA rfl ?_|refine Go.finB rfl (hq:=?_))
  exact ⟨rfl, by rw [← eq]; exact he, by rw [← eq]; exact sv⟩
 rw [if_pos i0] at eq
 have hl := ksI_len e
 have c1 : (ksI e)[i]? = some (.int .i64 e[i]!) := ksI_get (by omega)
 have c2 : (ksI e)[j]? = some (.int .i64 e[j]!) := ksI_get (by omega)
 refine Go.runN (g:=?_)
 refine Go.loud (by kernel_rfl) rfl ?_
 (refine Go.runL (g:=?_))
 refine GoL.store1' rfl rfl rfl rfl rfl rfl (hS := sv) (hw := hW) (g:=?_)
 intro H3 sv3 k3 n3
 (refine Go.runL (g:=?_))
 refine GoL.store1' rfl rfl rfl rfl rfl rfl (hS := sv3) (hw := hW) (g:=?_)
 intro H4 sv4 k4 n4
 (refine Go.runL (g:=?_))
 (refine GoL.end_ (g:=?_))
 rw [ksI_swp] at sv4
 (refine Go.run (g:=?_))
 refine Go.again (i + 1, j - 1, swp e i j, H4) ⟨by simp only; omega, by simp only; omega, by simp only [swp_size]; exact he, (kp.tr k3).tr k4, sv4, eq⟩ (by simp only; omega) ⟨rfl, rfl, rfl, trivial⟩ rfl rfl
end Go.Proofs.Ytfdglljlenkkbaa
namespace Go.Proofs.Ytfdglljlenkkbaa
open Go.Sort
set_option maxRecDepth 100000
attribute [local irreducible] Go GoR GoL
set_option maxHeartbeats 32000000 in
theorem partI_spec (a : Option Addr) (cap : Nat) (d : Array Int) (x y pv : Nat) (hx : x ≤ pv) (hp : pv < y) (hxy : x + 2 ≤ y) (hy : y ≤ d.size) (hn : d.size ≤ 1000000) (h : AHeap) (hS : KvI h a cap d) : CallS Try.prog (blk a) 49 [.slice a d.size cap, .int .i64 x, .int .i64 y, .int .i64 pv] h fun v h' => v = .tuple #[.int .i64 (partition ltInt d x y pv).1, .bool (partition ltInt d x y pv).2.1] ∧ (partition ltInt d x y pv).2.2.size = d.size ∧ Sv h' 3 1 a d.size cap (ksI (partition ltInt d x y pv).2.2) := by
 unfold partition
 unfold KvI at hS
 generalize hL : d.size = L at *
 have hW : ∀ i ∈ blk a, i ∈ blk a ∨ h.n ≤ i := fun i hi => .inl hi
 have c1 : (ksI d)[x]? = some (.int .i64 d[x]!) := ksI_get (by omega)
 have c2 : (ksI d)[pv]? = some (.int .i64 d[pv]!) := ksI_get (by omega)
 have hl0 := ksI_len d
 have sv := hS
 (refine CallS.of4 Try.func49 rfl Try.ntmps49 Try.results49 rfl ?_)
 refine Go.runN (g:=?_)
 refine Go.loud (by kernel_rfl) rfl ?_
 (refine Go.runL (g:=?_))
 refine GoL.store1' rfl rfl rfl rfl rfl rfl (hS := sv) (hw := hW) (g:=?_)
 intro H3 sv3 k3 n3
 (refine Go.runL (g:=?_))
 refine GoL.store1' rfl rfl rfl rfl rfl rfl (hS := sv3) (hw := hW) (g:=?_)
 intro H4 sv4 k4 n4
 (refine Go.runL (g:=?_))
 (refine GoL.end_ (g:=?_))
 rw [ksI_swp] at sv4
 have he : (swp d x pv).size = L := by rw [swp_size]; exact hL
 generalize swp d x pv = e at *
 have kp := k3.tr k4
 clear sv sv3 k3 k4 n3 n4 c1 c2 hl0
 have sv := sv4
 clear sv4
 simp only
 (refine Go.run (g:=?_))
 obtain ⟨H, hH⟩ : ∃ H, H = H4 := ⟨_, rfl⟩
 subst hH
 obtain ⟨i, hi⟩ : ∃ i, i = x + 1 := ⟨_, rfl⟩
 obtain ⟨j, hj⟩ : ∃ j, j = y - 1 := ⟨_, rfl⟩
 rw [← hi, ← hj]
 have hl := ksI_len e
 obtain ⟨I, hI⟩ : ∃ I, I = scanUp (fun v => ltInt v e[x]!) e j i := ⟨_, rfl⟩
 have bI := scanUp_ge (fun v => ltInt v e[x]!) e j i
 rw [← hI] at bI
 refine Go.join2 (α := Unit) (fun _ => [(10, .int .i64 I), (11, .int .i64 j), (0, .slice a L cap), (1, .int .i64 x)]) (fun _ => []) (fun _ => H) (fun _ => True) ?_ ?_
 ·
  refine Go.loop (α := Nat) (fun s => [(10, .int .i64 s), (11, .int .i64 j), (0, .slice a L cap), (1, .int .i64 x)]) (fun _ => []) (fun _ => H) (fun s => i ≤ s ∧ s ≤ max i (j + 1) ∧ I = scanUp (fun v => ltInt v e[x]!) e j s) (fun s => j + 1 - s) i ?_ ?_ rfl rfl ?_
  · exact ⟨Nat.le_refl _, by omega, hI⟩
  · exact ⟨rfl, rfl, rfl, rfl, trivial⟩
  rintro i2 ⟨hi2, hi3, eq2⟩
  rcases Nat.lt_or_ge j i2 with z | z
  ·
   rw [scanUp_stop (.inl z)] at eq2
   subst eq2
   (refine Go.run (g:=?_))
   exact Go.joined () trivial ⟨rfl, rfl, rfl, rfl, trivial⟩ rfl rfl
  have c1 : (ksI e)[i2]? = some (.int .i64 e[i2]!) := ksI_get (by omega)
  have c2 : (ksI e)[x]? = some (.int .i64 e[x]!) := ksI_get (by omega)
  (refine Go.run (g:=?_))
  refine GoR.call rfl rfl rfl rfl rfl rfl rfl (((lessI_spec _ _ _).argA).mono ?_)
  rintro _ H2 ⟨rfl, rfl⟩ -
  cases hq : decide (e[i2]! < e[x]!) with
  | false =>
   rw [scanUp_stop (.inr (by show decide (e[i2]! < e[x]!) = false; rw [hq]; try rfl))] at eq2
   subst eq2
   (refine Go.run (g:=?_))
   exact Go.joined () trivial ⟨rfl, rfl, rfl, rfl, trivial⟩ rfl rfl
  | true =>
   rw [scanUp_more z (by show decide (e[i2]! < e[x]!) = true; rw [hq]; try rfl)] at eq2
   (refine Go.run (g:=?_))
   exact Go.again (i2 + 1) ⟨by omega, by omega, eq2⟩ (by omega) ⟨rfl, rfl, rfl, rfl, trivial⟩ rfl rfl
 intro _ _
 rw [← hI]
 (refine Go.run (g:=?_))
 obtain ⟨J, hJ⟩ : ∃ J, J = scanDown (fun v => !ltInt v e[x]!) e I j := ⟨_, rfl⟩
 have bJ := scanDown_le (fun v => !ltInt v e[x]!) e I j
 rw [← hJ] at bJ
 refine Go.join2 (α := Unit) (fun _ => [(10, .int .i64 I), (11, .int .i64 J), (0, .slice a L cap), (1, .int .i64 x)]) (fun _ => []) (fun _ => H) (fun _ => True) ?_ ?_
 ·
  refine Go.loop (α := Nat) (fun s => [(10, .int .i64 I), (11, .int .i64 s), (0, .slice a L cap), (1, .int .i64 x)]) (fun _ => []) (fun _ => H) (fun s => s ≤ j ∧ J = scanDown (fun v => !ltInt v e[x]!) e I s) (fun s => s) j ?_ ?_ rfl rfl ?_
  · exact ⟨Nat.le_refl _, hJ⟩
  · exact ⟨rfl, rfl, rfl, rfl, trivial⟩
  rintro j2 ⟨hi2, eq2⟩
  rcases Nat.lt_or_ge j2 I with z | z
  ·
   rw [scanDown_stop (by omega) (.inl z)] at eq2
   subst eq2
   (refine Go.run (g:=?_))
   exact Go.joined () trivial ⟨rfl, rfl, rfl, rfl, trivial⟩ rfl rfl
  have c1 : (ksI e)[j2]? = some (.int .i64 e[j2]!) := ksI_get (by omega)
  have c2 : (ksI e)[x]? = some (.int .i64 e[x]!) := ksI_get (by omega)
  (refine Go.run (g:=?_))
  refine GoR.call rfl rfl rfl rfl rfl rfl rfl (((lessI_spec _ _ _).argA).mono ?_)
  rintro _ H2 ⟨rfl, rfl⟩ -
  cases hq : decide (e[j2]! < e[x]!) with
  | true =>
   rw [scanDown_stop (by omega) (.inr (by show (!decide (e[j2]! < e[x]!)) = false; rw [hq]; try rfl))] at eq2
   subst eq2
   (refine Go.run (g:=?_))
   exact Go.joined () trivial ⟨rfl, rfl, rfl, rfl, trivial⟩ rfl rfl
  | false =>
   rw [scanDown_more (by omega) z (by show (!decide (e[j2]! < e[x]!)) = true; rw [hq]; try rfl)] at eq2
   (refine Go.run (g:=?_))
   exact Go.again (j2 - 1) ⟨by omega, eq2⟩ (by omega) ⟨rfl, rfl, rfl, rfl, trivial⟩ rfl rfl
 intro _ _
 rw [← hJ]
 clear hI
 have c1 : (ksI e)[x]? = some (.int .i64 e[x]!) := ksI_get (by omega)
 rcases Nat.lt_or_ge J I with z | z
 ·
  have c2 : (ksI e)[J]? = some (.int .i64 e[J]!) := ksI_get (by omega)
  rw [if_pos z]
  refine Go.runN (g:=?_)
  refine Go.loud (by kernel_rfl) rfl ?_
  (refine Go.runL (g:=?_))
  refine GoL.store1' rfl rfl rfl rfl rfl rfl (hS := sv) (hw := hW) (g:=?_)
  intro H3 sv3 k3 n3
  (refine Go.runL (g:=?_))
  refine GoL.store1' rfl rfl rfl rfl rfl rfl (hS := sv3) (hw := hW) (g:=?_)
  intro H4 sv4 k4 n4
  (refine Go.runL (g:=?_))
  (refine GoL.end_ (g:=?_))
  rw [ksI_swp] at sv4
  (refine Go.run (g:=?_))
  refine Go.fin (.inr rfl) (.tmp rfl (.tmp rfl .nil)) ?_
  exact ⟨rfl, by rw [swp_size]; exact he, sv4⟩
 rw [if_neg (by omega)]
 have c2 : (ksI e)[J]? = some (.int .i64 e[J]!) := ksI_get (by omega)
 have c3 : (ksI e)[I]? = some (.int .i64 e[I]!) := ksI_get (by omega)
 refine Go.runN (g:=?_)
 refine Go.loud (by kernel_rfl) rfl ?_
 (refine Go.runL (g:=?_))
 refine GoL.store1' rfl rfl rfl rfl rfl rfl (hS := sv) (hw := hW) (g:=?_)
 intro H3 sv3 k3 n3
 (refine Go.runL (g:=?_))
 refine GoL.store1' rfl rfl rfl rfl rfl rfl (hS := sv3) (hw := hW) (g:=?_)
 intro H4 sv4 k4 n4
 (refine Go.runL (g:=?_))
 (refine GoL.end_ (g:=?_))
 rw [ksI_swp] at sv4
 (refine Go.run (g:=?_))
 obtain ⟨F, hF⟩ : ∃ F, F = partLoop ltInt x (I + 1) (J - 1) (swp e I J) := ⟨_, rfl⟩
 rw [← hF]
 refine Go.loop (α := Nat × Nat × Array Int × AHeap) (fun s => [(10, .int .i64 s.1), (11, .int .i64 s.2.1), (0, .slice a L cap), (1, .int .i64 x)]) (fun _ => []) (fun s => s.2.2.2) (fun s => x < s.1 ∧ s.1 ≤ s.2.1 + 2 ∧ x ≤ s.2.1 ∧ s.2.1 < L ∧ s.2.2.1.size = L ∧ Keeps (blk a) h s.2.2.2 ∧ Sv s.2.2.2 3 1 a L cap (ksI s.2.2.1) ∧ F = partLoop ltInt x s.1 s.2.1 s.2.2.1) (fun s => s.2.1 + 1 - s.1) (I + 1, J - 1, swp e I J, H4) ?_ ?_ rfl rfl ?_
 · exact ⟨by simp only; omega, by simp only; omega, by simp only; omega, by simp only; omega, by simp only [swp_size]; exact he, (kp.tr k3).tr k4, sv4, hF⟩
 · exact ⟨rfl, rfl, rfl, rfl, trivial⟩
 clear hF hJ c1 c2 c3 z bI bJ hi hj hl he kp sv sv3 sv4 k3 k4 n3 n4
 clear I J i j e
 rintro ⟨i, j, e, H⟩ ⟨q1, q2, q3, q4, he, kp, sv, eq⟩
 simp only at q1 q2 q3 q4 he kp sv eq ⊢
 have hl := ksI_len e
 rw [partLoop] at eq
 try simp only at eq
 (refine Go.run (g:=?_))
 obtain ⟨I, hI⟩ : ∃ I, I = scanUp (fun v => ltInt v e[x]!) e j i := ⟨_, rfl⟩
 have bI := scanUp_ge (fun v => ltInt v e[x]!) e j i
 rw [← hI] at bI
 refine Go.join2 (α := Unit) (fun _ => [(10, .int .i64 I), (11, .int .i64 j), (0, .slice a L cap), (1, .int .i64 x)]) (fun _ => []) (fun _ => H) (fun _ => True) ?_ ?_
 ·
  refine Go.loop (α := Nat) (fun s => [(10, .int .i64 s), (11, .int .i64 j), (0, .slice a L cap), (1, .int .i64 x)]) (fun _ => []) (fun _ => H) (fun s => i ≤ s ∧ s ≤ max i (j + 1) ∧ I = scanUp (fun v => ltInt v e[x]!) e j s) (fun s => j + 1 - s) i ?_ ?_ rfl rfl ?_
  · exact ⟨Nat.le_refl _, by omega, hI⟩
  · exact ⟨rfl, rfl, rfl, rfl, trivial⟩
  rintro i2 ⟨hi2, hi3, eq2⟩
  rcases Nat.lt_or_ge j i2 with z | z
  ·
   rw [scanUp_stop (.inl z)] at eq2
   subst eq2
   (refine Go.run (g:=?_))
   exact Go.joined () trivial ⟨rfl, rfl, rfl, rfl, trivial⟩ rfl rfl
  have c1 : (ksI e)[i2]? = some (.int .i64 e[i2]!) := ksI_get (by omega)
  have c2 : (ksI e)[x]? = some (.int .i64 e[x]!) := ksI_get (by omega)
  (refine Go.run (g:=?_))
  refine GoR.call rfl rfl rfl rfl rfl rfl rfl (((lessI_spec _ _ _).argA).mono ?_)
  rintro _ H2 ⟨rfl, rfl⟩ -
  cases hq : decide (e[i2]! < e[x]!) with
  | false =>
   rw [scanUp_stop (.inr (by show decide (e[i2]! < e[x]!) = false; rw [hq]; try rfl))] at eq2
   subst eq2
   (refine Go.run (g:=?_))
   exact Go.joined () trivial ⟨rfl, rfl, rfl, rfl, trivial⟩ rfl rfl
  | true =>
   rw [scanUp_more z (by show decide (e[i2]! < e[x]!) = true; rw [hq]; try rfl)] at eq2
   (refine Go.run (g:=?_))
   exact Go.again (i2 + 1) ⟨by omega, by omega, eq2⟩ (by omega) ⟨rfl, rfl, rfl, rfl, trivial⟩ rfl rfl
 intro _ _
 (refine Go.run (g:=?_))
 rw [← hI] at eq
 clear hI
 obtain ⟨J, hJ⟩ : ∃ J, J = scanDown (fun v => !ltInt v e[x]!) e I j := ⟨_, rfl⟩
 have bJ := scanDown_le (fun v => !ltInt v e[x]!) e I j
 rw [← hJ] at bJ
 refine Go.join2 (α := Unit) (fun _ => [(10, .int .i64 I), (11, .int .i64 J), (0, .slice a L cap), (1, .int .i64 x)]) (fun _ => []) (fun _ => H) (fun _ => True) ?_ ?_
 ·
  refine Go.loop (α := Nat) (fun s => [(10, .int .i64 I), (11, .int .i64 s), (0, .slice a L cap), (1, .int .i64 x)]) (fun _ => []) (fun _ => H) (fun s => s ≤ j ∧ J = scanDown (fun v => !ltInt v e[x]!) e I s) (fun s => s) j ?_ ?_ rfl rfl ?_
  · exact ⟨Nat.le_refl _, hJ⟩
  · exact ⟨rfl, rfl, rfl, rfl, trivial⟩
  rintro j2 ⟨hi2, eq2⟩
  rcases Nat.lt_or_ge j2 I with z | z
  ·
   rw [scanDown_stop (by omega) (.inl z)] at eq2
   subst eq2
   (refine Go.run (g:=?_))
   exact Go.joined () trivial ⟨rfl, rfl, rfl, rfl, trivial⟩ rfl rfl
  have c1 : (ksI e)[j2]? = some (.int .i64 e[j2]!) := ksI_get (by omega)
  have c2 : (ksI e)[x]? = some (.int .i64 e[x]!) := ksI_get (by omega)
  (refine Go.run (g:=?_))
  refine GoR.call rfl rfl rfl rfl rfl rfl rfl (((lessI_spec _ _ _).argA).mono ?_)
  rintro _ H2 ⟨rfl, rfl⟩ -
  cases hq : decide (e[j2]! < e[x]!) with
  | true =>
   rw [scanDown_stop (by omega) (.inr (by show (!decide (e[j2]! < e[x]!)) = false; rw [hq]; try rfl))] at eq2
   subst eq2
   (refine Go.run (g:=?_))
   exact Go.joined () trivial ⟨rfl, rfl, rfl, rfl, trivial⟩ rfl rfl
  | false =>
   rw [scanDown_more (by omega) z (by show (!decide (e[j2]! < e[x]!)) = true; rw [hq]; try rfl)] at eq2
   (refine Go.run (g:=?_))
   exact Go.again (j2 - 1) ⟨by omega, eq2⟩ (by omega) ⟨rfl, rfl, rfl, rfl, trivial⟩ rfl rfl
 intro _ _
 rw [← hJ] at eq
 have c1 : (ksI e)[x]? = some (.int .i64 e[x]!) := ksI_get (by omega)
 have c2 : (ksI e)[J]? = some (.int .i64 e[J]!) := ksI_get (by omega)
 rcases Nat.lt_or_ge J I with z | z
 ·
  rw [if_pos z] at eq
  subst eq
  refine Go.runN (g:=?_)
  refine Go.loud (by kernel_rfl) rfl ?_
  (refine Go.runL (g:=?_))
  refine GoL.store1' rfl rfl rfl rfl rfl rfl (hS := sv) (hw := hW) (g:=?_)
  intro H3 sv3 k3 n3
  (refine Go.runL (g:=?_))
  refine GoL.store1' rfl rfl rfl rfl rfl rfl (hS := sv3) (hw := hW) (g:=?_)
  intro H4 sv4 k4 n4
  (refine Go.runL (g:=?_))
  (refine GoL.end_ (g:=?_))
  rw [ksI_swp] at sv4
  (refine Go.run (g:=?_))
  refine Go.fin (.inr rfl) (.tmp rfl (.tmp rfl .nil)) ?_
  exact ⟨rfl, by rw [swp_size]; exact he, sv4⟩
 rw [if_neg (by omega), dif_pos (by omega)] at eq
 have c3 : (ksI e)[I]? = some (.int .i64 e[I]!) := ksI_get (by omega)
 refine Go.runN (g:=?_)
 refine Go.loud (by kernel_rfl) rfl ?_
 (refine Go.runL (g:=?_))
 refine GoL.store1' rfl rfl rfl rfl rfl rfl (hS := sv) (hw := hW) (g:=?_)
 intro H3 sv3 k3 n3
 (refine Go.runL (g:=?_))
 refine GoL.store1' rfl rfl rfl rfl rfl rfl (hS := sv3) (hw := hW) (g:=?_)
 intro H4 sv4 k4 n4
 (refine Go.runL (g:=?_))
 (refine GoL.end_ (g:=?_))
 rw [ksI_swp] at sv4
 (refine Go.run (g:=?_))
 exact Go.again (I + 1, J - 1, swp e I J, H4) ⟨by simp only; omega, by simp only; omega, by simp only; omega, by simp only; omega, by simp only [swp_size]; exact he, (kp.tr k3).tr k4, sv4, eq⟩ (by simp only; omega) ⟨rfl, rfl, rfl, rfl, trivial⟩ rfl rfl
end Go.Proofs.Ytfdglljlenkkbaa
namespace Go.Proofs.Ytfdglljlenkkbaa
open Go.Sort
set_option maxRecDepth 100000
attribute [local irreducible] Go GoR GoL
set_option maxHeartbeats 32000000 in
theorem parteqI_spec (a : Option Addr) (cap : Nat) (d : Array Int) (x y pv : Nat) (hx : x ≤ pv) (hp : pv < y) (hxy : x + 2 ≤ y) (hy : y ≤ d.size) (hn : d.size ≤ 1000000) (h : AHeap) (hS : KvI h a cap d) : CallS Try.prog (blk a) 48 [.slice a d.size cap, .int .i64 x, .int .i64 y, .int .i64 pv] h fun v h' => v = .int .i64 (partitionEqual ltInt d x y pv).1 ∧ (partitionEqual ltInt d x y pv).2.size = d.size ∧ Sv h' 3 1 a d.size cap (ksI (partitionEqual ltInt d x y pv).2) := by
 unfold partitionEqual
 unfold KvI at hS
 generalize hL : d.size = L at *
 have hW : ∀ i ∈ blk a, i ∈ blk a ∨ h.n ≤ i := fun i hi => .inl hi
 have c1 : (ksI d)[x]? = some (.int .i64 d[x]!) := ksI_get (by omega)
 have c2 : (ksI d)[pv]? = some (.int .i64 d[pv]!) := ksI_get (by omega)
 have hl0 := ksI_len d
 have sv := hS
 (refine CallS.of4 Try.func48 rfl Try.ntmps48 Try.results48 rfl ?_)
 refine Go.runN (g:=?_)
 refine Go.loud (by kernel_rfl) rfl ?_
 (refine Go.runL (g:=?_))
 refine GoL.store1' rfl rfl rfl rfl rfl rfl (hS := sv) (hw := hW) (g:=?_)
 intro H3 sv3 k3 n3
 (refine Go.runL (g:=?_))
 refine GoL.store1' rfl rfl rfl rfl rfl rfl (hS := sv3) (hw := hW) (g:=?_)
 intro H4 sv4 k4 n4
 (refine Go.runL (g:=?_))
 (refine GoL.end_ (g:=?_))
 rw [ksI_swp] at sv4
 have he : (swp d x pv).size = L := by rw [swp_size]; exact hL
 (refine Go.run (g:=?_))
 obtain ⟨F, hF⟩ : ∃ F, F = partEqLoop ltInt x (x + 1) (y - 1) (swp d x pv) := ⟨_, rfl⟩
 rw [← hF]
 refine Go.loop (α := Nat × Nat × Array Int × AHeap) (fun s => [(9, .int .i64 s.1), (10, .int .i64 s.2.1), (0, .slice a L cap), (1, .int .i64 x)]) (fun _ => []) (fun s => s.2.2.2) (fun s => x < s.1 ∧ s.1 ≤ s.2.1 + 2 ∧ x ≤ s.2.1 ∧ s.2.1 < L ∧ s.2.2.1.size = L ∧ Keeps (blk a) h s.2.2.2 ∧ Sv s.2.2.2 3 1 a L cap (ksI s.2.2.1) ∧ F = partEqLoop ltInt x s.1 s.2.1 s.2.2.1) (fun s => s.2.1 + 1 - s.1) (x + 1, y - 1, swp d x pv, H4) ?_ ?_ rfl rfl ?_
 · exact ⟨by simp only; omega, by simp only; omega, by simp only; omega, by simp only; omega, he, k3.tr k4, sv4, hF⟩
 · exact ⟨rfl, rfl, rfl, rfl, trivial⟩
 clear hF he sv sv3 sv4 k3 k4 n3 n4 c1 c2 hl0
 rintro ⟨i, j, e, H⟩ ⟨q1, q2, q3, q4, he, kp, sv, eq⟩
 simp only at q1 q2 q3 q4 he kp sv eq ⊢
 have hl := ksI_len e
 rw [partEqLoop] at eq
 try simp only at eq
 (refine Go.run (g:=?_))
 obtain ⟨I, hI⟩ : ∃ I, I = scanUp (fun v => !ltInt e[x]! v) e j i := ⟨_, rfl⟩
 have bI := scanUp_ge (fun v => !ltInt e[x]! v) e j i
 rw [← hI] at bI
 refine Go.join2 (α := Unit) (fun _ => [(9, .int .i64 I), (10, .int .i64 j), (0, .slice a L cap), (1, .int .i64 x)]) (fun _ => []) (fun _ => H) (fun _ => True) ?_ ?_
 ·
  refine Go.loop (α := Nat) (fun s => [(9, .int .i64 s), (10, .int .i64 j), (0, .slice a L cap), (1, .int .i64 x)]) (fun _ => []) (fun _ => H) (fun s => i ≤ s ∧ s ≤ max i (j + 1) ∧ I = scanUp (fun v => !ltInt e[x]! v) e j s) (fun s => j + 1 - s) i ?_ ?_ rfl rfl ?_
  · exact ⟨Nat.le_refl _, by omega, hI⟩
  · exact ⟨rfl, rfl, rfl, rfl, trivial⟩
  rintro i2 ⟨hi2, hi3, eq2⟩
  rcases Nat.lt_or_ge j i2 with z | z
  ·
   rw [scanUp_stop (.inl z)] at eq2
   subst eq2
   (refine Go.run (g:=?_))
   exact Go.joined () trivial ⟨rfl, rfl, rfl, rfl, trivial⟩ rfl rfl
  have c1 : (ksI e)[i2]? = some (.int .i64 e[i2]!) := ksI_get (by omega)
  have c2 : (ksI e)[x]? = some (.int .i64 e[x]!) := ksI_get (by omega)
  (refine Go.run (g:=?_))
  refine GoR.call rfl rfl rfl rfl rfl rfl rfl (((lessI_spec _ _ _).argA).mono ?_)
  rintro _ H2 ⟨rfl, rfl⟩ -
  cases hq : decide (e[x]! < e[i2]!) with
  | true =>
   rw [scanUp_stop (.inr (by show (!decide (e[x]! < e[i2]!)) = false; rw [hq]; try rfl))] at eq2
   subst eq2
   (refine Go.run (g:=?_))
   exact Go.joined () trivial ⟨rfl, rfl, rfl, rfl, trivial⟩ rfl rfl
  | false =>
   rw [scanUp_more z (by show (!decide (e[x]! < e[i2]!)) = true; rw [hq]; try rfl)] at eq2
   (refine Go.run (g:=?_))
   exact Go.again (i2 + 1) ⟨by omega, by omega, eq2⟩ (by omega) ⟨rfl, rfl, rfl, rfl, trivial⟩ rfl rfl
 intro _ _
 (refine Go.run (g:=?_))
 rw [← hI] at eq
 clear hI
 obtain ⟨J, hJ⟩ : ∃ J, J = scanDown (fun v => ltInt e[x]! v) e I j := ⟨_, rfl⟩
 have bJ := scanDown_le (fun v => ltInt e[x]! v) e I j
 rw [← hJ] at bJ
 refine Go.join2 (α := Unit) (fun _ => [(9, .int .i64 I), (10, .int .i64 J), (0, .slice a L cap), (1, .int .i64 x)]) (fun _ => []) (fun _ => H) (fun _ => True) ?_ ?_
 ·
  refine Go.loop (α := Nat) (fun s => [(9, .int .i64 I), (10, .int .i64 s), (0, .slice a L cap), (1, .int .i64 x)]) (fun _ => []) (fun _ => H) (fun s => s ≤ j ∧ J = scanDown (fun v => ltInt e[x]! v) e I s) (fun s => s) j ?_ ?_ rfl rfl ?_
  · exact ⟨Nat.le_refl _, hJ⟩
  · exact ⟨rfl, rfl, rfl, rfl, trivial⟩
  rintro j2 ⟨hi2, eq2⟩
  rcases Nat.lt_or_ge j2 I with z | z
  ·
   rw [scanDown_stop (by omega) (.inl z)] at eq2
   subst eq2
   (refine Go.run (g:=?_))
   exact Go.joined () trivial ⟨rfl, rfl, rfl, rfl, trivial⟩ rfl rfl
  have c1 : (ksI e)[j2]? = some (.int .i64 e[j2]!) := ksI_get (by omega)
  have c2 : (ksI e)[x]? = some (.int .i64 e[x]!) := ksI_get (by omega)
  (refine Go.run (g:=?_))
  refine GoR.call rfl rfl rfl rfl rfl rfl rfl (((lessI_spec _ _ _).argA).mono ?_)
  rintro _ H2 ⟨rfl, rfl⟩ -
  cases hq : decide (e[x]! < e[j2]!) with
  | false =>
   rw [scanDown_stop (by omega) (.inr (by show decide (e[x]! < e[j2]!) = false; rw [hq]; try rfl))] at eq2
   subst eq2
   (refine Go.run (g:=?_))
   exact Go.joined () trivial ⟨rfl, rfl, rfl, rfl, trivial⟩ rfl rfl
  | true =>
   rw [scanDown_more (by omega) z (by show decide (e[x]! < e[j2]!) = true; rw [hq]; try rfl)] at eq2
   (refine Go.run (g:=?_))
   exact Go.again (j2 - 1) ⟨by omega, eq2⟩ (by omega) ⟨rfl, rfl, rfl, rfl, trivial⟩ rfl rfl
 intro _ _
 rw [← hJ] at eq
 have c2 : J < L := by omega
 rcases Nat.lt_or_ge J I with z | z
 ·
  rw [if_pos z] at eq
  subst eq
  (refine Go.run (g:=?_))
  (first|refine Go.finA rfl ?_|refine Go.finB rfl (hq:=?_))
  exact ⟨rfl, he, sv⟩
 rw [if_neg (by omega), dif_pos (by omega)] at eq
 have c2 : (ksI e)[J]? = some (.int .i64 e[J]!) := ksI_get (by omega)
 have c3 : (ksI e)[I]? = some (.int .i64 e[I]!) := ksI_get (by omega)
 refine Go.runN (g:=?_)
 refine Go.loud (by kernel_rfl) rfl ?_
 (refine Go.runL (g:=?_))
 refine GoL.store1' rfl rfl rfl rfl rfl rfl (hS := sv) (hw := hW) (g:=?_)
 intro H3 sv3 k3 n3
 (refine Go.runL (g:=?_))
 refine GoL.store1' rfl rfl rfl rfl rfl rfl (hS := sv3) (hw := hW) (g:=?_)
 intro H4 sv4 k4 n4
 (refine Go.runL (g:=?_))
 (refine GoL.end_ (g:=?_))
 rw [ksI_swp] at sv4
 (refine Go.run (g:=?_))
 exact Go.again (I + 1, J - 1, swp e I J, H4) ⟨by simp only; omega, by simp only; omega, by simp only; omega, by simp only; omega, by simp only [swp_size]; exact he, (kp.tr k3).tr k4, sv4, eq⟩ (by simp only; omega) ⟨rfl, rfl, rfl, rfl, trivial⟩ rfl rfl
end Go.Proofs.Ytfdglljlenkkbaa
namespace Go.Proofs.Ytfdglljlenkkbaa
open Go.Sort
set_option maxRecDepth 100000
attribute [local irreducible] Go GoR GoL
set_option maxHeartbeats 32000000 in
theorem pinsI_spec (a : Option Addr) (cap : Nat) (d : Array Int) (x y : Nat) (hxy : x < y) (hy : y ≤ d.size) (hn : d.size ≤ 1000000) (h : AHeap) (hS : KvI h a cap d) : CallS Try.prog (blk a) 46 [.slice a d.size cap, .int .i64 x, .int .i64 y] h fun v h' => v = .bool (partialInsertionSort ltInt d x y).2 ∧ (partialInsertionSort ltInt d x y).1.size = d.size ∧ Sv h' 3 1 a d.size cap (ksI (partialInsertionSort ltInt d x y).1) := by
 unfold partialInsertionSort
 unfold KvI at hS
 generalize hL : d.size = L at *
 have hW : ∀ i ∈ blk a, i ∈ blk a ∨ h.n ≤ i := fun i hi => .inl hi
 obtain ⟨R, hR⟩ : ∃ R, R = partialIns ltInt x y 5 (x + 1) d := ⟨_, rfl⟩
 rw [← hR]
 (refine CallS.of3 Try.func46 rfl Try.ntmps46 Try.results46 rfl ?_)
 (refine Go.run (g:=?_))
 refine Go.loop (α := Nat × Nat × Array Int × AHeap) (fun s => [(8, .int .i64 s.1), (7, .int .i64 s.2.1), (0, .slice a L cap), (1, .int .i64 x), (2, .int .i64 y)]) (fun _ => []) (fun s => s.2.2.2) (fun s => s.1 ≤ 5 ∧ x < s.2.1 ∧ s.2.1 ≤ y ∧ s.2.2.1.size = L ∧ Keeps (blk a) h s.2.2.2 ∧ Sv s.2.2.2 3 1 a L cap (ksI s.2.2.1) ∧ R = partialIns ltInt x y (5 - s.1) s.2.1 s.2.2.1) (fun s => 5 - s.1) (0, x + 1, d, h) ?_ ?_ rfl rfl ?_
 · exact ⟨by simp only; omega, by simp only; omega, by simp only; omega, hL, Keeps.rf _ _, hS, hR⟩
 · exact ⟨rfl, rfl, rfl, rfl, rfl, trivial⟩
 clear hR hS hL
 clear d
 rintro ⟨k, i, e, H⟩ ⟨hk, hi1, hi2, he, kp, sv, eq⟩
 simp only at hk hi1 hi2 he kp sv eq ⊢
 rcases Nat.lt_or_ge k 5 with k0 | k0
 case inr =>
  obtain rfl : k = 5 := by omega
  have eq : R = (e, false) := eq
  subst eq
  (refine Go.run (g:=?_))
  (first|refine Go.finA rfl ?_|refine Go.finB rfl (hq:=?_))
  exact ⟨rfl, he, sv⟩
 obtain ⟨s, hs⟩ : ∃ s, 5 - k = s + 1 := ⟨4 - k, by omega⟩
 rw [hs, partialIns] at eq
 try simp only at eq
 have hl := ksI_len e
 (refine Go.run (g:=?_))
 obtain ⟨I, hI⟩ : ∃ I, I = scanSorted ltInt e y i := ⟨_, rfl⟩
 have bI := scanSorted_ge e y i
 rw [← hI] at bI eq
 refine Go.join2 (α := Unit) (fun _ => [(8, .int .i64 k), (7, .int .i64 I), (0, .slice a L cap), (1, .int .i64 x), (2, .int .i64 y)]) (fun _ => []) (fun _ => H) (fun _ => True) ?_ ?_
 ·
  refine Go.loop (α := Nat) (fun s => [(8, .int .i64 k), (7, .int .i64 s), (0, .slice a L cap), (1, .int .i64 x), (2, .int .i64 y)]) (fun _ => []) (fun _ => H) (fun s => i ≤ s ∧ s ≤ y ∧ I = scanSorted ltInt e y s) (fun s => y - s) i ?_ ?_ rfl rfl ?_
  · exact ⟨Nat.le_refl _, hi2, hI⟩
  · exact ⟨rfl, rfl, rfl, rfl, rfl, trivial⟩
  clear eq
  rintro i2 ⟨g1, g2, eq2⟩
  rcases Nat.lt_or_ge i2 y with z | z
  case inr =>
   rw [scanSorted_stop (.inl z)] at eq2
   subst eq2
   (refine Go.run (g:=?_))
   exact Go.joined () trivial ⟨rfl, rfl, rfl, rfl, rfl, trivial⟩ rfl rfl
  have c1 : (ksI e)[i2]? = some (.int .i64 e[i2]!) := ksI_get (by omega)
  have c2 : (ksI e)[i2 - 1]? = some (.int .i64 e[i2 - 1]!) := ksI_get (by omega)
  (refine Go.run (g:=?_))
  refine GoR.call rfl rfl rfl rfl rfl rfl rfl (((lessI_spec _ _ _).argA).mono ?_)
  rintro _ H2 ⟨rfl, rfl⟩ -
  cases hq : decide (e[i2]! < e[i2 - 1]!) with
  | true =>
   rw [scanSorted_stop (.inr hq)] at eq2
   subst eq2
   (refine Go.run (g:=?_))
   exact Go.joined () trivial ⟨rfl, rfl, rfl, rfl, rfl, trivial⟩ rfl rfl
  | false =>
   rw [scanSorted_more z hq] at eq2
   (refine Go.run (g:=?_))
   exact Go.again (i2 + 1) ⟨by omega, by omega, eq2⟩ (by omega) ⟨rfl, rfl, rfl, rfl, rfl, trivial⟩ rfl rfl
 intro _ _
 clear hI
 by_cases z1 : I = y
 ·
  rw [if_pos z1] at eq
  subst eq
  (refine Go.run (g:=?_))
  (first|refine Go.finA rfl ?_|refine Go.finB rfl (hq:=?_))
  exact ⟨rfl, he, sv⟩
 rw [if_neg z1] at eq
 rcases Nat.lt_or_ge (y - x) 50 with z2 | z2
 ·
  rw [if_pos z2] at eq
  subst eq
  (refine Go.run (g:=?_))
  (first|refine Go.finA rfl ?_|refine Go.finB rfl (hq:=?_))
  exact ⟨rfl, he, sv⟩
 rw [if_neg (by omega)] at eq
 have c1 : (ksI e)[I]? = some (.int .i64 e[I]!) := ksI_get (by omega)
 have c2 : (ksI e)[I - 1]? = some (.int .i64 e[I - 1]!) := ksI_get (by omega)
 refine Go.runN (g:=?_)
 refine Go.loud (by kernel_rfl) rfl ?_
 (refine Go.runL (g:=?_))
 refine GoL.store1' rfl rfl rfl rfl rfl rfl (hS := sv) (hw := hW) (g:=?_)
 intro H3 sv3 k3 n3
 (refine Go.runL (g:=?_))
 refine GoL.store1' rfl rfl rfl rfl rfl rfl (hS := sv3) (hw := hW) (g:=?_)
 intro H4 sv4 k4 n4
 (refine Go.runL (g:=?_))
 (refine GoL.end_ (g:=?_))
 rw [ksI_swp] at sv4
 have he1 : (swp e I (I - 1)).size = L := by rw [swp_size]; exact he
 have kp1 := (kp.tr k3).tr k4
 generalize swp e I (I - 1) = g at *
 clear sv sv3 k3 k4 n3 n4 c1 c2 hl he kp
 obtain ⟨G2, hG2⟩ : ∃ G2, G2 = (if I - x ≥ 2 then shiftDown ltInt (I - 1) g else g) := ⟨_, rfl⟩
 rw [← hG2] at eq
 obtain ⟨G3, hG3⟩ : ∃ G3, G3 = (if y - I ≥ 2 then shiftUp ltInt y (I + 1) G2 else G2) := ⟨_, rfl⟩
 rw [← hG3] at eq
 (refine Go.run (g:=?_))
 refine Go.join1 (α := AHeap) (fun _ => [(8, .int .i64 k), (7, .int .i64 I), (0, .slice a L cap), (1, .int .i64 x), (2, .int .i64 y)]) (fun _ => []) (fun H => H) (fun H => G2.size = L ∧ Keeps (blk a) h H ∧ Sv H 3 1 a L cap (ksI G2)) ?_ ?_
 ·
  rcases Nat.lt_or_ge (I - x) 2 with z3 | z3
  ·
   rw [if_neg (by omega)] at hG2
   subst hG2
   (refine Go.run (g:=?_))
   exact Go.joined H4 ⟨he1, kp1, sv4⟩ ⟨rfl, rfl, rfl, rfl, rfl, trivial⟩ rfl rfl
  rw [if_pos z3] at hG2
  (refine Go.run (g:=?_))
  refine Go.loop (α := Nat × Array Int × AHeap) (fun s => [(9, .int .i64 s.1), (8, .int .i64 k), (7, .int .i64 I), (0, .slice a L cap), (1, .int .i64 x), (2, .int .i64 y)]) (fun _ => []) (fun s => s.2.2) (fun s => s.1 < L ∧ s.2.1.size = L ∧ Keeps (blk a) h s.2.2 ∧ Sv s.2.2 3 1 a L cap (ksI s.2.1) ∧ G2 = shiftDown ltInt s.1 s.2.1) (fun s => s.1) (I - 1, g, H4) ?_ ?_ rfl rfl ?_
  · exact ⟨by simp only; omega, he1, kp1, sv4, hG2⟩
  · exact ⟨rfl, rfl, rfl, rfl, rfl, rfl, trivial⟩
  clear hG2 sv4 kp1 he1 hG3
  clear eq
  rintro ⟨j, e, H⟩ ⟨q1, he, kp, sv, eq⟩
  simp only at q1 he kp sv eq ⊢
  rcases Nat.lt_or_ge 0 j with z4 | z4
  case inr =>
   obtain rfl : j = 0 := by omega
   rw [shiftDown_stop (.inl rfl)] at eq
   subst eq
   (refine Go.run (g:=?_))
   exact Go.joined H ⟨he, kp, sv⟩ ⟨rfl, rfl, rfl, rfl, rfl, trivial⟩ rfl rfl
  have hl := ksI_len e
  have c1 : (ksI e)[j]? = some (.int .i64 e[j]!) := ksI_get (by omega)
  have c2 : (ksI e)[j - 1]? = some (.int .i64 e[j - 1]!) := ksI_get (by omega)
  (refine Go.run (g:=?_))
  refine GoR.call rfl rfl rfl rfl rfl rfl rfl (((lessI_spec _ _ _).argA).mono ?_)
  rintro _ H2 ⟨rfl, rfl⟩ -
  cases hq : decide (e[j]! < e[j - 1]!) with
  | false =>
   rw [shiftDown_stop (.inr hq)] at eq
   subst eq
   (refine Go.run (g:=?_))
   exact Go.joined H2 ⟨he, kp, sv⟩ ⟨rfl, rfl, rfl, rfl, rfl, trivial⟩ rfl rfl
  | true =>
   rw [shiftDown_more z4 hq] at eq
   refine Go.runN (g:=?_)
   refine Go.loud (by kernel_rfl) rfl ?_
   (refine Go.runL (g:=?_))
   refine GoL.store1' rfl rfl rfl rfl rfl rfl (hS := sv) (hw := hW) (g:=?_)
   intro H3 sv3 k3 n3
   (refine Go.runL (g:=?_))
   refine GoL.store1' rfl rfl rfl rfl rfl rfl (hS := sv3) (hw := hW) (g:=?_)
   intro H4 sv4 k4 n4
   (refine Go.runL (g:=?_))
   (refine GoL.end_ (g:=?_))
   rw [ksI_swp] at sv4
   (refine Go.run (g:=?_))
   exact Go.again (j - 1, swp e j (j - 1), H4) ⟨by simp only; omega, by simp only [swp_size]; exact he, (kp.tr k3).tr k4, sv4, eq⟩ (by simp only; omega) ⟨rfl, rfl, rfl, rfl, rfl, rfl, trivial⟩ rfl rfl
 clear hG2 sv4 kp1 he1
 rintro H5 ⟨he5, kp5, sv5⟩
 (refine Go.run (g:=?_))
 refine Go.join1 (α := AHeap) (fun _ => [(8, .int .i64 k), (7, .int .i64 I), (0, .slice a L cap), (1, .int .i64 x), (2, .int .i64 y)]) (fun _ => []) (fun H => H) (fun H => G3.size = L ∧ Keeps (blk a) h H ∧ Sv H 3 1 a L cap (ksI G3)) ?_ ?_
 ·
  clear eq
  rcases Nat.lt_or_ge (y - I) 2 with z3 | z3
  ·
   rw [if_neg (by omega)] at hG3
   subst hG3
   (refine Go.run (g:=?_))
   exact Go.joined H5 ⟨he5, kp5, sv5⟩ ⟨rfl, rfl, rfl, rfl, rfl, trivial⟩ rfl rfl
  rw [if_pos z3] at hG3
  (refine Go.run (g:=?_))
  refine Go.loop (α := Nat × Array Int × AHeap) (fun s => [(10, .int .i64 s.1), (8, .int .i64 k), (7, .int .i64 I), (0, .slice a L cap), (1, .int .i64 x), (2, .int .i64 y)]) (fun _ => []) (fun s => s.2.2) (fun s => 1 ≤ s.1 ∧ s.1 ≤ y ∧ s.2.1.size = L ∧ Keeps (blk a) h s.2.2 ∧ Sv s.2.2 3 1 a L cap (ksI s.2.1) ∧ G3 = shiftUp ltInt y s.1 s.2.1) (fun s => y - s.1) (I + 1, G2, H5) ?_ ?_ rfl rfl ?_
  · exact ⟨by simp only; omega, by simp only; omega, he5, kp5, sv5, hG3⟩
  · exact ⟨rfl, rfl, rfl, rfl, rfl, rfl, trivial⟩
  clear hG3 sv5 kp5 he5
  rintro ⟨j, e, H⟩ ⟨q0, q1, he, kp, sv, eq⟩
  simp only at q0 q1 he kp sv eq ⊢
  rcases Nat.lt_or_ge j y with z4 | z4
  case inr =>
   rw [shiftUp_stop (.inl z4)] at eq
   subst eq
   (refine Go.run (g:=?_))
   exact Go.joined H ⟨he, kp, sv⟩ ⟨rfl, rfl, rfl, rfl, rfl, trivial⟩ rfl rfl
  have hl := ksI_len e
  have c1 : (ksI e)[j]? = some (.int .i64 e[j]!) := ksI_get (by omega)
  have c2 : (ksI e)[j - 1]? = some (.int .i64 e[j - 1]!) := ksI_get (by omega)
  (refine Go.run (g:=?_))
  refine GoR.call rfl rfl rfl rfl rfl rfl rfl (((lessI_spec _ _ _).argA).mono ?_)
  rintro _ H2 ⟨rfl, rfl⟩ -
  cases hq : decide (e[j]! < e[j - 1]!) with
  | false =>
   rw [shiftUp_stop (.inr hq)] at eq
   subst eq
   (refine Go.run (g:=?_))
   exact Go.joined H2 ⟨he, kp, sv⟩ ⟨rfl, rfl, rfl, rfl, rfl, trivial⟩ rfl rfl
  | true =>
   rw [shiftUp_more z4 hq] at eq
   refine Go.runN (g:=?_)
   refine Go.loud (by kernel_rfl) rfl ?_
   (refine Go.runL (g:=?_))
   refine GoL.store1' rfl rfl rfl rfl rfl rfl (hS := sv) (hw := hW) (g:=?_)
   intro H3 sv3 k3 n3
   (refine Go.runL (g:=?_))
   refine GoL.store1' rfl rfl rfl rfl rfl rfl (hS := sv3) (hw := hW) (g:=?_)
   intro H4 sv4 k4 n4
   (refine Go.runL (g:=?_))
   (refine GoL.end_ (g:=?_))
   rw [ksI_swp] at sv4
   (refine Go.run (g:=?_))
   exact Go.again (j + 1, swp e j (j - 1), H4) ⟨by simp only; omega, by simp only; omega, by simp only [swp_size]; exact he, (kp.tr k3).tr k4, sv4, eq⟩ (by simp only; omega) ⟨rfl, rfl, rfl, rfl, rfl, rfl, trivial⟩ rfl rfl
 clear hG3 sv5 kp5 he5
 rintro H6 ⟨he6, kp6, sv6⟩
 (refine Go.run (g:=?_))
 exact Go.again (k + 1, I, G3, H6) ⟨by simp only; omega, by simp only; omega, by simp only; omega, he6, kp6, sv6, by simp only; rw [show 5 - (k + 1) = s from by omega]; exact eq⟩ (by simp only; omega) ⟨rfl, rfl, rfl, rfl, rfl, trivial⟩ rfl rfl
end Go.Proofs.Ytfdglljlenkkbaa
namespace Go.Proofs.Ytfdglljlenkkbaa
open Go.Sort
set_option maxRecDepth 100000
attribute [local irreducible] Go GoR GoL
theorem bitsLen_sh {n k : Nat} (h : 2 ^ k ≤ n) : bitsLen n = k + bitsLen (n / 2 ^ k) := by
 have hp : 0 < 2 ^ k := Nat.two_pow_pos k
 have m1 : 1 ≤ bitsLen (n / 2 ^ k) := by
  apply Nat.pos_of_ne_zero
  intro e
  have := (bitsLen_le_iff (n / 2 ^ k) 0).1 (by omega)
  have : 1 ≤ n / 2 ^ k := (Nat.le_div_iff_mul_le hp).2 (by omega)
  omega
 have key : ∀ j, k ≤ j → (n / 2 ^ k < 2 ^ (j - k) ↔ n < 2 ^ j) := fun j hj => by
  rw [Nat.div_lt_iff_lt_mul hp, ← Nat.pow_add, Nat.sub_add_cancel hj]
 apply Nat.le_antisymm
 ·
  rw [bitsLen_le_iff, ← key _ (Nat.le_add_right _ _), Nat.add_sub_cancel_left]
  exact lt_two_pow_bitsLen _
 ·
  have a := lt_two_pow_bitsLen n
  have hk : k ≤ bitsLen n := by
   apply Nat.le_of_lt
   apply Nat.lt_of_not_le
   intro q
   have := (bitsLen_le_iff n k).1 q
   omega
  have b := (key _ hk).2 a
  rw [← bitsLen_le_iff] at b
  omega
theorem tab_at {P : Program} {t : TypeId} {s : ByteArray} (ht : P.underlying t = some .string) (hall : (List.range 256).all (fun k => decide ((s.data[k]?).map (fun b => b.toNat) = some (bitsLen k))) = true) {m : Nat} (hm : m < 256) : aIndex P t (.string s) (.int .u8 (m : Int)) = some (.int .u8 (bitsLen m : Nat)) := by
 have h := of_decide_eq_true (List.all_eq_true.1 hall m (List.mem_range.2 hm))
 unfold aIndex
 simp only [ht]
 rw [if_pos (by omega), Int.toNat_natCast]
 cases hs : s.data[m]? with
 | none => rw [hs] at h; cases h
 | some b =>
  rw [hs] at h
  simp only [Option.map_some, Option.some.injEq] at h ⊢
  rw [h]
set_option maxHeartbeats 8000000 in
theorem len64_spec (n : Nat) (hn : n ≤ 1000000) (h : AHeap) : CallS Try.prog [] 51 [.int .u64 n] h fun v h' => v = .int .i64 (bitsLen n : Nat) ∧ h' = h := by
 rcases Nat.lt_or_ge n 256 with n0 | n0
 ·
  (refine CallS.of1 Try.func51 rfl Try.ntmps51 Try.results51 rfl ?_)
  (refine Go.run (g:=?_))
  have hm : n % 256 = n := by omega
  have tb := fun (P : Program) (t : TypeId) (s : ByteArray) (ht : P.underlying t = some .string) hall => tab_at (P := P) (t := t) (s := s) ht hall n0
  obtain ⟨b, hb⟩ : ∃ b, b = bitsLen n := ⟨_, rfl⟩
  have hb8 : b ≤ 8 := by rw [hb]; exact (bitsLen_le_iff _ 8).2 (by omega)
  rw [hm]
  rw [← hb] at tb ⊢
  refine GoR.index rfl rfl rfl rfl rfl rfl (tb _ _ _ (by kernel_rfl) (by kernel_rfl)) ?_
  (refine Go.run (g:=?_))
  (first|refine Go.finA rfl ?_|refine Go.finB rfl (hq:=?_))
  exact ⟨by simp [retV], rfl⟩
 rcases Nat.lt_or_ge n 65536 with n1 | n1
 ·
  have e1 := bitsLen_sh (n := n) (k := 8) n0
  obtain ⟨m, hm⟩ : ∃ m, m = n / 2 ^ 8 := ⟨_, rfl⟩
  have hm2 : m < 256 := by omega
  rw [← hm] at e1
  have tb := fun (P : Program) (t : TypeId) (s : ByteArray) (ht : P.underlying t = some .string) hall => tab_at (P := P) (t := t) (s := s) ht hall hm2
  obtain ⟨b, hb⟩ : ∃ b, b = bitsLen m := ⟨_, rfl⟩
  have hb8 : b ≤ 8 := by rw [hb]; exact (bitsLen_le_iff _ 8).2 (by omega)
  rw [← hb] at e1 tb
  rw [e1]
  (refine CallS.of1 Try.func51 rfl Try.ntmps51 Try.results51 rfl ?_)
  (refine Go.run (g:=?_))
  rw [← hm, show m % 256 = m from by omega]
  refine GoR.index rfl rfl rfl rfl rfl rfl (tb _ _ _ (by kernel_rfl) (by kernel_rfl)) ?_
  (refine Go.run (g:=?_))
  (first|refine Go.finA rfl ?_|refine Go.finB rfl (hq:=?_))
  exact ⟨by simp [retV], rfl⟩
 have e1 := bitsLen_sh (n := n) (k := 16) n1
 obtain ⟨m, hm⟩ : ∃ m, m = n / 2 ^ 16 := ⟨_, rfl⟩
 have hm2 : m < 256 := by omega
 rw [← hm] at e1
 have tb := fun (P : Program) (t : TypeId) (s : ByteArray) (ht : P.underlying t = some .string) hall => tab_at (P := P) (t := t) (s := s) ht hall hm2
 obtain ⟨b, hb⟩ : ∃ b, b = bitsLen m := ⟨_, rfl⟩
 have hb8 : b ≤ 8 := by rw [hb]; exact (bitsLen_le_iff _ 8).2 (by omega)
 rw [← hb] at e1 tb
 rw [e1]
 (refine CallS.of1 Try.func51 rfl Try.ntmps51 Try.results51 rfl ?_)
 (refine Go.run (g:=?_))
 rw [← hm, show m % 256 = m from by omega]
 refine GoR.index rfl rfl rfl rfl rfl rfl (tb _ _ _ (by kernel_rfl) (by kernel_rfl)) ?_
 (refine Go.run (g:=?_))
 (first|refine Go.finA rfl ?_|refine Go.finB rfl (hq:=?_))
 exact ⟨by simp [retV], rfl⟩
set_option maxHeartbeats 8000000 in
theorem len_spec (n : Nat) (hn : n ≤ 1000000) (h : AHeap) : CallS Try.prog [] 37 [.int .u64 n] h fun v h' => v = .int .i64 (bitsLen n : Nat) ∧ h' = h := by
 (refine CallS.of1 Try.func37 rfl Try.ntmps37 Try.results37 rfl ?_)
 (refine Go.run (g:=?_))
 refine GoR.call rfl rfl rfl rfl rfl rfl rfl (((len64_spec n hn _).argA).mono ?_)
 rintro _ H2 ⟨rfl, rfl⟩ -
 (refine Go.run (g:=?_))
 (first|refine Go.finA rfl ?_|refine Go.finB rfl (hq:=?_))
 exact ⟨rfl, rfl⟩
theorem shl64 (x k : Nat) (hk : k ≤ 64) : iSh .shl .u64 (x : Int) (k : Int) = some (.int .u64 ((x * 2 ^ k % 18446744073709551616 : Nat) : Int)) := by
 unfold iSh
 rw [if_neg (by omega)]
 simp only [Int.toNat_natCast]
 rw [show min k IntKind.u64.bits = k from Nat.min_eq_left hk]
 simp [IntKind.wrap, IntKind.bits, IntKind.signed]
set_option maxHeartbeats 8000000 in
theorem npow_spec (n : Nat) (hn : n ≤ 1000000) (h : AHeap) : CallS Try.prog [] 54 [.int .i64 n] h fun v h' => v = .int .u64 (1 <<< bitsLen n : Nat) ∧ h' = h := by
 have hb : bitsLen n ≤ 20 := (bitsLen_le_iff n 20).2 (by omega)
 have hp : 2 ^ bitsLen n ≤ 2 ^ 20 := Nat.pow_le_pow_right (by decide) hb
 (refine CallS.of1 Try.func54 rfl Try.ntmps54 Try.results54 rfl ?_)
 (refine Go.run (g:=?_))
 refine GoR.call rfl rfl rfl rfl rfl rfl rfl (((len_spec n hn _).argA).mono ?_)
 rintro _ H2 ⟨rfl, rfl⟩ -
 (refine Go.run (g:=?_))
 refine GoR.shift rfl rfl rfl rfl rfl rfl (shl64 1 (bitsLen n) (by omega)) ?_
 (refine Go.run (g:=?_))
 (first|refine Go.finA rfl ?_|refine Go.finB rfl (hq:=?_))
 refine ⟨?_, rfl⟩
 rw [Nat.one_mul, Nat.mod_eq_of_lt (by omega), Nat.shiftLeft_eq, Nat.one_mul]
 rfl
set_option maxHeartbeats 8000000 in
theorem xor_spec (rb R : Nat) (hR : R < 18446744073709551616) (h : AHeap) (hc : h.get rb = some (.cells [.int .u64 R] 100)) : CallS Try.prog [rb] 55 [.pointer (some ⟨rb, 0, none⟩)] h fun v h' => v = .int .u64 (xorNextN R : Nat) ∧ h'.get rb = some (.cells [.int .u64 (xorNextN R : Nat)] 100) := by
 have p64 : (18446744073709551616 : Nat) = 2 ^ 64 := by decide
 obtain ⟨A, hA⟩ : ∃ A, A = R ^^^ (R * 2 ^ 13 % 18446744073709551616) := ⟨_, rfl⟩
 have lA : A < 18446744073709551616 := by rw [hA, p64]; exact Nat.xor_lt_two_pow (by omega) (by omega)
 obtain ⟨B, hB⟩ : ∃ B, B = A ^^^ (A / 2 ^ 7) := ⟨_, rfl⟩
 have lB : B < 18446744073709551616 := by rw [hB, p64]; exact Nat.xor_lt_two_pow (by omega) (by omega)
 have hC : xorNextN R = B ^^^ (B * 2 ^ 17 % 18446744073709551616) := by rw [hB, hA]; rfl
 (refine CallS.of1 Try.func55 rfl Try.ntmps55 Try.results55 rfl ?_)
 (refine Go.run (g:=?_))
 refine Go.loud (by kernel_rfl) rfl ?_
 (refine Go.runL (g:=?_))
 refine GoL.shift rfl rfl rfl rfl rfl rfl (shl64 R 13 (by omega)) ?_
 (refine Go.runL (g:=?_))
 refine GoL.xorN rfl rfl rfl rfl rfl rfl hR (Nat.mod_lt _ (by decide)) ?_
 rw [← hA]
 (refine Go.runL (g:=?_))
 refine GoL.st (g:=?_)
 (refine Go.runL (g:=?_))
 refine GoL.endN (g:=?_)
 refine Go.name ?_
 intro h1 e1
 have c1 : h1.get rb = some (.cells [.int .u64 A] 100) := by subst e1; exact get_put_self hc
 clear e1
 (refine Go.run (g:=?_))
 refine Go.loud (by kernel_rfl) rfl ?_
 (refine Go.runL (g:=?_))
 refine GoL.xorN rfl rfl rfl rfl rfl rfl lA (show A / 2 ^ 7 < 18446744073709551616 from by omega) ?_
 rw [← hB]
 (refine Go.runL (g:=?_))
 refine GoL.st (g:=?_)
 (refine Go.runL (g:=?_))
 refine GoL.endN (g:=?_)
 refine Go.name ?_
 intro h2 e2
 have c2 : h2.get rb = some (.cells [.int .u64 B] 100) := by subst e2; exact get_put_self c1
 clear e2
 (refine Go.run (g:=?_))
 refine Go.loud (by kernel_rfl) rfl ?_
 (refine Go.runL (g:=?_))
 refine GoL.shift rfl rfl rfl rfl rfl rfl (shl64 B 17 (by omega)) ?_
 (refine Go.runL (g:=?_))
 refine GoL.xorN rfl rfl rfl rfl rfl rfl lB (Nat.mod_lt _ (by decide)) ?_
 rw [← hC]
 (refine Go.runL (g:=?_))
 refine GoL.st (g:=?_)
 (refine Go.runL (g:=?_))
 refine GoL.endN (g:=?_)
 refine Go.name ?_
 intro h3 e3
 have c3 : h3.get rb = some (.cells [.int .u64 (xorNextN R : Nat)] 100) := by subst e3; exact get_put_self c2
 clear e3
 (refine Go.run (g:=?_))
 (first|refine Go.finA rfl ?_|refine Go.finB rfl (hq:=?_))
 exact ⟨rfl, c3⟩
def bst (a n m i0 : Nat) (st : UInt64 × Array Int) : Nat → UInt64 × Array Int
 | 0 => st
 | t + 1 => breakStep a n m (bst a n m i0 st t) (i0 + t)
theorem partEq_range (a : Nat) : ∀ (n i j : Nat) (d : Array Int), j + 1 - i ≤ n → 1 ≤ i → i ≤ (partEqLoop ltInt a i j d).1 ∧ (partEqLoop ltInt a i j d).1 ≤ max i (j + 1)
 | 0, i, j, d, h, h1 => by
  rw [partEqLoop]
  try simp only
  have bI := scanUp_ge (fun x => !ltInt d[a]! x) d j i
  have bJ := scanDown_le (fun x => ltInt d[a]! x) d (scanUp (fun x => !ltInt d[a]! x) d j i) j
  rw [if_pos (by omega)]
  exact bI
 | n + 1, i, j, d, h, h1 => by
  rw [partEqLoop]
  try simp only
  have bI := scanUp_ge (fun x => !ltInt d[a]! x) d j i
  have bJ := scanDown_le (fun x => ltInt d[a]! x) d (scanUp (fun x => !ltInt d[a]! x) d j i) j
  generalize scanUp (fun x => !ltInt d[a]! x) d j i = I at *
  generalize scanDown (fun x => ltInt d[a]! x) d I j = J at *
  split
  · exact bI
  ·
   split
   ·
    have := partEq_range a n (I + 1) (J - 1) (swp d I J) (by omega) (by omega)
    omega
   · exact bI
theorem partEq_mid (d : Array Int) {a b pv : Nat} (h : a + 1 ≤ b) : a < (partitionEqual ltInt d a b pv).1 ∧ (partitionEqual ltInt d a b pv).1 ≤ b := by
 have := partEq_range a _ (a + 1) (b - 1) (swp d a pv) (Nat.le_refl _) (by omega)
 unfold partitionEqual
 omega
theorem part_mid (d : Array Int) {a b pv : Nat} (h1 : a ≤ pv) (h2 : pv < b) (h3 : b ≤ d.size) : a ≤ (partition ltInt d a b pv).1 ∧ (partition ltInt d a b pv).1 < b := by
 obtain ⟨x, y, -⟩ := partition_holds ltInt swo_ltInt d a b pv h1 h2 h3
 exact ⟨x, y⟩
def pq4 (d : Array Int) (a b limit : Nat) (wb wp : Bool) (pivot : Nat) : Array Int :=
 if a > 0 && !ltInt d[a - 1]! d[pivot]! then
  match partitionEqual ltInt d a b pivot with
  | (mid, d4) => if _h : a < mid ∧ mid ≤ b then pdq ltInt d4 mid b limit wb wp else d4
 else
  match partition ltInt d a b pivot with
  | (mid, alreadyPartitioned, d4) =>
   if _h : a ≤ mid ∧ mid < b then
    if mid - a < b - mid then
     pdq ltInt (pdq ltInt d4 a mid limit true true) (mid + 1) b limit (decide (mid - a ≥ (b - a) / 8)) alreadyPartitioned
    else
     pdq ltInt (pdq ltInt d4 (mid + 1) b limit true true) a mid limit (decide (b - mid ≥ (b - a) / 8)) alreadyPartitioned
   else d4
def pq3 (d : Array Int) (a b limit : Nat) (wb wp : Bool) (pivot : Nat) (hint : Hint) : Array Int :=
 if (if wb && wp && hint = .increasing then partialInsertionSort ltInt d a b else (d, false)).2 then (if wb && wp && hint = .increasing then partialInsertionSort ltInt d a b else (d, false)).1
 else pq4 (if wb && wp && hint = .increasing then partialInsertionSort ltInt d a b else (d, false)).1 a b limit wb wp pivot
def pq2 (d : Array Int) (a b limit : Nat) (wb wp : Bool) : Array Int :=
 pq3 (if (choosePivot ltInt d a b).2 = .decreasing then reverseRange d a b else d) a b limit wb wp (if (choosePivot ltInt d a b).2 = .decreasing then (b - 1) - ((choosePivot ltInt d a b).1 - a) else (choosePivot ltInt d a b).1) (if (choosePivot ltInt d a b).2 = .decreasing then Hint.increasing else (choosePivot ltInt d a b).2)
theorem pdq_unfold {d : Array Int} {a b limit : Nat} {wb wp : Bool} (h1 : ¬ b - a ≤ 12) (h2 : ¬ limit = 0) : pdq ltInt d a b limit wb wp = pq2 (if !wb then breakPatterns d a b else d) a b (if !wb then limit - 1 else limit) wb wp := by
 rw [pdq, if_neg h1, if_neg h2]
 rfl
theorem pq4_eq {d : Array Int} {a b limit : Nat} {wb wp : Bool} {pivot : Nat} (h0 : a + 1 ≤ b) (h : (decide (a > 0) && !ltInt d[a - 1]! d[pivot]!) = true) : pq4 d a b limit wb wp pivot = pdq ltInt (partitionEqual ltInt d a b pivot).2 (partitionEqual ltInt d a b pivot).1 b limit wb wp := by
 unfold pq4
 rw [if_pos h]
 show (if _h : a < (partitionEqual ltInt d a b pivot).1 ∧ (partitionEqual ltInt d a b pivot).1 ≤ b then pdq ltInt (partitionEqual ltInt d a b pivot).2 (partitionEqual ltInt d a b pivot).1 b limit wb wp else (partitionEqual ltInt d a b pivot).2) = _
 rw [dif_pos (partEq_mid d h0)]
theorem pq4_ne {d : Array Int} {a b limit : Nat} {wb wp : Bool} {pivot : Nat} (h1 : a ≤ pivot) (h2 : pivot < b) (h3 : b ≤ d.size) (h : (decide (a > 0) && !ltInt d[a - 1]! d[pivot]!) = false) : pq4 d a b limit wb wp pivot =
  if (partition ltInt d a b pivot).1 - a < b - (partition ltInt d a b pivot).1 then
   pdq ltInt (pdq ltInt (partition ltInt d a b pivot).2.2 a (partition ltInt d a b pivot).1 limit true true) ((partition ltInt d a b pivot).1 + 1) b limit (decide ((partition ltInt d a b pivot).1 - a ≥ (b - a) / 8)) (partition ltInt d a b pivot).2.1
  else
   pdq ltInt (pdq ltInt (partition ltInt d a b pivot).2.2 ((partition ltInt d a b pivot).1 + 1) b limit true true) a (partition ltInt d a b pivot).1 limit (decide (b - (partition ltInt d a b pivot).1 ≥ (b - a) / 8)) (partition ltInt d a b pivot).2.1 := by
 unfold pq4
 rw [if_neg (by rw [h]; decide)]
 have hm := part_mid d h1 h2 h3
 generalize partition ltInt d a b pivot = r at *
 obtain ⟨mid, ap, d4⟩ := r
 exact dif_pos hm
section
variable {P : Program} {W : Nat → Prop} {q : Bool} {N : Nat} {k k' : List It} {x : Exit} {ov : Ov} {tm : List Value} {df : List Nat} {h : AHeap} {Q : PQ} {a b c : Code}
theorem Gx.seq (g : Gx P W q (.code a :: .code b :: k) x tm df h Q) : Gx P W q (.code (.seq a b) :: k) x tm df h Q := by
 refine ⟨fun e => ?_, fun hx => (g.2 hx).2 hx⟩
 obtain ⟨x₁, tm₁, df₁, h₁, r₁, n₁, g₁⟩ := g.1 e
 by_cases hx : x₁ = .normal
 ·
  obtain ⟨x₂, tm₂, df₂, h₂, r₂, n₂, g₂⟩ := g₁.1 hx
  subst hx
  exact ⟨x₂, tm₂, df₂, h₂, .seq r₁ r₂, n₂.trans n₁, g₂⟩
 · exact ⟨x₁, tm₁, df₁, h₁, .seq_out r₁ hx, n₁, g₁.2 hx⟩
end
end Go.Proofs.Ytfdglljlenkkbaa
namespace Go.Proofs.Ytfdglljlenkkbaa
open Go.Sort
set_option maxRecDepth 100000
attribute [local irreducible] Go GoR GoL
set_option maxHeartbeats 32000000 in
theorem brkI_spec (a : Option Addr) (cap : Nat) (d : Array Int) (x y : Nat) (hxy : x + 12 < y) (hy : y ≤ d.size) (hn : d.size ≤ 1000000) (h : AHeap) (hS : KvI h a cap d) : SortsI 43 a cap d [.int .i64 x, .int .i64 y] h (breakPatterns d x y) := by
 unfold SortsI breakPatterns
 unfold KvI at hS
 generalize hL : d.size = L at *
 obtain ⟨n, hyn⟩ : ∃ n, n = y - x := ⟨_, rfl⟩
 have hn12 : 12 < n := by omega
 have hnL : x + n ≤ L := by omega
 rw [← hyn]
 have hba : ∀ i ∈ blk a, i < h.n := hS.lt
 have hW : ∀ i ∈ blk a, i ∈ blk a ∨ h.n ≤ i := fun i hi => .inl hi
 rw [if_pos (show n ≥ 8 from by omega)]
 obtain ⟨M, hM⟩ : ∃ M, M = 1 <<< bitsLen n := ⟨_, rfl⟩
 have hMn : M ≤ 2 * n := by
  rw [hM, Nat.shiftLeft_eq, Nat.one_mul]
  have : Nat.log2 n + 1 = bitsLen n := by unfold bitsLen; rw [if_neg (by omega)]
  rw [← this, Nat.pow_succ]
  have := Nat.log2_self_le (n := n) (by omega)
  omega
 have hM1 : 1 ≤ M := by rw [hM, Nat.shiftLeft_eq, Nat.one_mul]; exact Nat.two_pow_pos _
 try simp only
 rw [← hM]
 (refine CallS.of3 Try.func43 rfl Try.ntmps43 Try.results43 rfl ?_)
 (refine Go.run (g:=?_))
 rw [← hyn]
 (refine Go.run (g:=?_))
 refine GoR.name ?_
 intro h2 e2
 have kp2 : Keeps (blk a) h h2 := by subst e2; exact (Keeps.ofSame ((Same.refl h).push _)).pt (.inr (Nat.le_refl _)) _
 have n2 : h2.n = h.n + 1 := by subst e2; rfl
 have rc2 : h2.get h.n = some (.cells [.int .u64 n] 100) := by subst e2; exact AHeap.get_put_same _ (by simp) _
 have sv2 : Sv h2 3 1 a L cap (ksI d) := by subst e2; exact hS.same (((Same.refl h).push _).put (Nat.le_refl _) _)
 clear e2
 refine GoR.call rfl rfl rfl rfl rfl rfl rfl (((npow_spec n (by omega) _).argA).mono ?_)
 rintro _ H2 ⟨rfl, rfl⟩ -
 rw [← hM]
 clear hM
 (refine Go.run (g:=?_))
 obtain ⟨i0, hi0⟩ : ∃ i0, i0 = x + n / 4 * 2 - 1 := ⟨_, rfl⟩
 rw [← hi0]
 obtain ⟨F, hF⟩ : ∃ F, F = (bst x n M i0 (UInt64.ofNat n, d) 3).2 := ⟨_, rfl⟩
 rw [show (breakStep x n M (breakStep x n M (breakStep x n M (UInt64.ofNat n, d) i0) (i0 + 1)) (i0 + 2)).2 = F from hF.symm]
 refine Go.loop (α := Nat × UInt64 × Array Int × AHeap) (fun s => [(9, .int .i64 (i0 + s.1 : Nat)), (7, .pointer (some ⟨h.n, 0, none⟩)), (8, .int .u64 M), (6, .int .i64 n), (0, .slice a L cap), (1, .int .i64 x)]) (fun _ => []) (fun s => s.2.2.2) (fun s => s.1 ≤ 3 ∧ s.2.2.1.size = L ∧ Keeps (blk a) h s.2.2.2 ∧ h.n < s.2.2.2.n ∧ Sv s.2.2.2 3 1 a L cap (ksI s.2.2.1) ∧ s.2.2.2.get h.n = some (.cells [.int .u64 s.2.1.toNat] 100) ∧ (s.2.1, s.2.2.1) = bst x n M i0 (UInt64.ofNat n, d) s.1) (fun s => 3 - s.1) (0, UInt64.ofNat n, d, H2) ?_ ?_ rfl rfl ?_
 ·
  refine ⟨by simp only; omega, hL, kp2, by simp only; omega, sv2, ?_, rfl⟩
  simp only
  rw [show (UInt64.ofNat n).toNat = n from by simp; omega]
  exact rc2
 · exact ⟨rfl, rfl, rfl, rfl, rfl, rfl, trivial⟩
 clear kp2 n2 rc2 sv2 hS
 rintro ⟨t, R, g, H⟩ ⟨ht, he, kp, hnn, sv, rc, eq⟩
 simp only at ht he kp hnn sv rc eq ⊢
 rcases Nat.lt_or_ge t 3 with t0 | t0
 case inr =>
  obtain rfl : t = 3 := by omega
  have eq : g = F := by rw [hF, ← eq]
  subst eq
  (refine Go.run (g:=?_))
  (first|refine Go.finA rfl ?_|refine Go.finB rfl (hq:=?_))
  exact ⟨rfl, he, sv⟩
 (refine Go.run (g:=?_))
 refine GoR.callW rfl rfl rfl rfl rfl rfl rfl (((xor_spec h.n R.toNat R.toNat_lt H rc).argA).mono ?_)
 rintro _ H3 ⟨rfl, rc3⟩ kq
 refine ⟨fun i hi => .inr (by simp only [List.mem_singleton] at hi; omega), ?_⟩
 obtain ⟨R2, hR2⟩ : ∃ R2, R2 = xorNext R := ⟨_, rfl⟩
 have eR2 : xorNextN R.toNat = R2.toNat := by rw [hR2, xorNext_toNat]
 rw [eR2] at rc3 ⊢
 obtain ⟨O, hO⟩ : ∃ O, O = R2.toNat &&& (M - 1) := ⟨_, rfl⟩
 have hOM : O ≤ M - 1 := by rw [hO]; exact Nat.and_le_right
 have lR2 := R2.toNat_lt
 have sv3 := sv.keeps kq (fun i hi hm => by simp only [List.mem_singleton] at hm; have := hba i hi; omega)
 have kp3 : Keeps (blk a) h H3 := ⟨by have := kp.1; have := kq.1; omega, fun i hi hn => by rw [kq.2 i (by have := kp.1; omega) (by simp; omega)]; exact kp.2 i hi hn⟩
 (refine Go.run (g:=?_))
 refine GoR.andN rfl rfl rfl rfl rfl rfl lR2 (show M - 1 < 18446744073709551616 from by omega) ?_
 rw [← hO]
 have step : bst x n M i0 (UInt64.ofNat n, d) (t + 1) = (R2, swp g (i0 + t) (x + (if O ≥ n then O - n else O))) := by
  show breakStep x n M (bst x n M i0 (UInt64.ofNat n, d) t) (i0 + t) = _
  rw [← eq, hO, hR2]; rfl
 have hl := ksI_len g
 have c1 : (ksI g)[i0 + t]? = some (.int .i64 g[i0 + t]!) := ksI_get (by omega)
 clear hO hR2 eR2 rc sv kp kq eq
 rcases Nat.lt_or_ge O n with z | z
 ·
  rw [if_neg (by omega)] at step
  have c2 : (ksI g)[x + O]? = some (.int .i64 g[x + O]!) := ksI_get (by omega)
  have sv := sv3
  clear sv3
  refine Go.runN (g:=?_)
  refine Go.loud (by kernel_rfl) rfl ?_
  (refine Go.runL (g:=?_))
  refine GoL.store1' rfl rfl rfl rfl rfl rfl (hS := sv) (hw := hW) (g:=?_)
  intro H3 sv3 k3 n3
  (refine Go.runL (g:=?_))
  refine GoL.store1' rfl rfl rfl rfl rfl rfl (hS := sv3) (hw := hW) (g:=?_)
  intro H4 sv4 k4 n4
  (refine Go.runL (g:=?_))
  (refine GoL.end_ (g:=?_))
  rw [ksI_swp] at sv4
  have rc4 := k4.get (k3.get rc3 (fun hm => by have := hba _ hm; omega)) (fun hm => by have := hba _ hm; omega)
  (refine Go.run (g:=?_))
  exact Go.again (t + 1, R2, swp g (i0 + t) (x + O), H4) ⟨by simp only; omega, by simp only [swp_size]; exact he, (kp3.tr k3).tr k4, by simp only; exact AHeap.lt rc4, sv4, rc4, step.symm⟩ (by simp only; omega) ⟨rfl, rfl, rfl, rfl, rfl, rfl, trivial⟩ rfl rfl
 ·
  rw [if_pos z] at step
  have c2 : (ksI g)[x + (O - n)]? = some (.int .i64 g[x + (O - n)]!) := ksI_get (by omega)
  have sv := sv3
  clear sv3
  refine Go.runN (g:=?_)
  refine Go.loud (by kernel_rfl) rfl ?_
  (refine Go.runL (g:=?_))
  refine GoL.store1' rfl rfl rfl rfl rfl rfl (hS := sv) (hw := hW) (g:=?_)
  intro H3 sv3 k3 n3
  (refine Go.runL (g:=?_))
  refine GoL.store1' rfl rfl rfl rfl rfl rfl (hS := sv3) (hw := hW) (g:=?_)
  intro H4 sv4 k4 n4
  (refine Go.runL (g:=?_))
  (refine GoL.end_ (g:=?_))
  rw [ksI_swp] at sv4
  have rc4 := k4.get (k3.get rc3 (fun hm => by have := hba _ hm; omega)) (fun hm => by have := hba _ hm; omega)
  (refine Go.run (g:=?_))
  exact Go.again (t + 1, R2, swp g (i0 + t) (x + (O - n)), H4) ⟨by simp only; omega, by simp only [swp_size]; exact he, (kp3.tr k3).tr k4, by simp only; exact AHeap.lt rc4, sv4, rc4, step.symm⟩ (by simp only; omega) ⟨rfl, rfl, rfl, rfl, rfl, rfl, trivial⟩ rfl rfl
end Go.Proofs.Ytfdglljlenkkbaa
namespace Go.Proofs.Ytfdglljlenkkbaa
open Go.Sort
set_option maxRecDepth 100000
attribute [local irreducible] Go GoR GoL
set_option maxHeartbeats 64000000 in
theorem pdqI_spec (a : Option Addr) (cap : Nat) : ∀ (m : Nat) (d : Array Int) (x y lim : Nat) (hm : y - x < m) (hxy : x ≤ y) (hy : y ≤ d.size) (hn : d.size ≤ 1000000) (hlim : lim ≤ 100) (h : AHeap) (hS : KvI h a cap d), SortsI 36 a cap d [.int .i64 x, .int .i64 y, .int .i64 lim] h (pdq ltInt d x y lim true true) := by
 intro m
 induction m with
 | zero => intro d x y lim hm; omega
 | succ m ih =>
 intro d x y lim hm hxy hy hn hlim h hS
 unfold SortsI
 unfold KvI at hS
 unfold SortsI KvI at ih
 generalize hL : d.size = L at *
 have hW : ∀ i ∈ blk a, i ∈ blk a ∨ h.n ≤ i := fun i hi => .inl hi
 obtain ⟨F, hF⟩ : ∃ F, F = pdq ltInt d x y lim true true := ⟨_, rfl⟩
 rw [← hF]
 (refine CallS.of4 Try.func36 rfl Try.ntmps36 Try.results36 rfl ?_)
 (refine Go.run (g:=?_))
 refine Go.loop (α := (Nat × Nat) × Nat × (Bool × Bool) × Array Int × AHeap) (fun s => [(1, .int .i64 s.1.1), (2, .int .i64 s.1.2), (3, .int .i64 s.2.1), (8, .bool s.2.2.1.1), (9, .bool s.2.2.1.2), (0, .slice a L cap)]) (fun _ => []) (fun s => s.2.2.2.2) (fun s => s.1.1 ≤ s.1.2 ∧ s.1.2 ≤ L ∧ s.1.2 - s.1.1 < m + 1 ∧ s.2.1 ≤ 100 ∧ s.2.2.2.1.size = L ∧ Keeps (blk a) h s.2.2.2.2 ∧ Sv s.2.2.2.2 3 1 a L cap (ksI s.2.2.2.1) ∧ F = pdq ltInt s.2.2.2.1 s.1.1 s.1.2 s.2.1 s.2.2.1.1 s.2.2.1.2) (fun s => s.1.2 - s.1.1) ((x, y), lim, (true, true), d, h) ?_ ?_ rfl rfl ?_
 · exact ⟨hxy, hy, hm, hlim, hL, Keeps.rf _ _, hS, hF⟩
 · exact ⟨rfl, rfl, rfl, rfl, rfl, rfl, trivial⟩
 clear hF hS hL hm hxy hy hlim
 clear d x y lim
 rintro ⟨⟨x, y⟩, lim, ⟨wb, wp⟩, d, H⟩ ⟨hxy, hy, hm, hlim, he, kp, sv, eq⟩
 simp only at hxy hy hm hlim he kp sv eq ⊢
 have svs : KvI H a cap d := by unfold KvI; rw [he]; exact sv
 rcases Nat.lt_or_ge 12 (y - x) with z0 | z0
 case inr =>
  rw [pdq, if_pos z0] at eq
  have sp := insI_spec a cap d x y hxy (by omega) (by omega) H svs
  unfold SortsI at sp
  rw [he] at sp
  (refine Go.run (g:=?_))
  refine GoR.callW rfl rfl rfl rfl rfl rfl rfl (((sp).argA).mono ?_)
  rintro _ H1 ⟨rfl, e1, sv1⟩ k1
  refine ⟨hW, ?_⟩
  (refine Go.run (g:=?_))
  (first|refine Go.finA rfl ?_|refine Go.finB rfl (hq:=?_))
  exact ⟨rfl, by rw [eq]; exact e1, by rw [eq]; exact sv1⟩
 rcases Nat.lt_or_ge 0 lim with z1 | z1
 case inr =>
  obtain rfl : lim = 0 := by omega
  rw [pdq, if_neg (by omega), if_pos rfl] at eq
  have sp := heapI_spec a cap d x y (by omega) (by omega) (by omega) H svs
  unfold SortsI at sp
  rw [he] at sp
  (refine Go.run (g:=?_))
  refine GoR.callW rfl rfl rfl rfl rfl rfl rfl (((sp).argA).mono ?_)
  rintro _ H1 ⟨rfl, e1, sv1⟩ k1
  refine ⟨hW, ?_⟩
  (refine Go.run (g:=?_))
  (first|refine Go.finA rfl ?_|refine Go.finB rfl (hq:=?_))
  exact ⟨rfl, by rw [eq]; exact e1, by rw [eq]; exact sv1⟩
 rw [pdq_unfold (by omega) (by omega)] at eq
 obtain ⟨d1, hd1⟩ : ∃ d1, d1 = (if !wb then breakPatterns d x y else d) := ⟨_, rfl⟩
 obtain ⟨l1, hl1⟩ : ∃ l1, l1 = (if !wb then lim - 1 else lim) := ⟨_, rfl⟩
 rw [← hd1, ← hl1] at eq
 obtain ⟨n, hn0⟩ : ∃ n, n = y - x := ⟨_, rfl⟩
 (refine Go.run (g:=?_))
 rw [← hn0]
 (refine Go.run (g:=?_))
 refine Go.join1 (α := AHeap) (fun _ => [(3, .int .i64 l1), (8, .bool wb), (9, .bool wp), (10, .int .i64 n), (0, .slice a L cap), (1, .int .i64 x), (2, .int .i64 y)]) (fun _ => []) (fun H => H) (fun H => d1.size = L ∧ Keeps (blk a) h H ∧ Sv H 3 1 a L cap (ksI d1)) ?_ ?_
 ·
  clear eq
  cases wb with
  | true =>
   have hd1 : d1 = d := hd1
   have hl1 : l1 = lim := hl1
   subst hd1 hl1
   (refine Go.run (g:=?_))
   exact Go.joined H ⟨he, kp, sv⟩ ⟨rfl, rfl, rfl, rfl, rfl, rfl, rfl, trivial⟩ rfl rfl
  | false =>
   have hd1 : d1 = breakPatterns d x y := hd1
   have hl1 : l1 = lim - 1 := hl1
   subst hl1
   have sp := brkI_spec a cap d x y (by omega) (by omega) (by omega) H svs
   unfold SortsI at sp
   rw [he] at sp
   (refine Go.run (g:=?_))
   refine GoR.callW rfl rfl rfl rfl rfl rfl rfl (((sp).argA).mono ?_)
   rintro _ H1 ⟨rfl, e1, sv1⟩ k1
   refine ⟨hW, ?_⟩
   (refine Go.run (g:=?_))
   exact Go.joined H1 ⟨by rw [hd1]; exact e1, kp.tr k1, by rw [hd1]; exact sv1⟩ ⟨rfl, rfl, rfl, rfl, rfl, rfl, rfl, trivial⟩ rfl rfl
 have hl1b : l1 ≤ 100 := by rw [hl1]; split <;> omega
 clear hd1 hl1 sv kp he svs
 rintro H1 ⟨e1, kp1, sv1⟩
 have svs : KvI H1 a cap d1 := by unfold KvI; rw [e1]; exact sv1
 unfold pq2 at eq
 have sp := pivI_spec a cap d1 x y (by omega) (by omega) (by omega) H1 svs
 rw [e1] at sp
 obtain ⟨r1, r2⟩ := choosePivot_holds ltInt d1 x y (by omega)
 generalize choosePivot ltInt d1 x y = c at *
 obtain ⟨p, hint⟩ := c
 simp only at sp r1 r2 eq
 (refine Go.run (g:=?_))
 refine GoR.call rfl rfl rfl rfl rfl rfl rfl (((sp).argA).mono ?_)
 rintro _ H2 ⟨rfl, -⟩ s2
 have kp2 := kp1.sm s2
 have sv2 := sv1.same s2
 have svs2 := Sv.same svs s2
 clear svs sv1 kp1 sp
 obtain ⟨d2, hd2⟩ : ∃ d2, d2 = (if hint = .decreasing then reverseRange d1 x y else d1) := ⟨_, rfl⟩
 obtain ⟨pv, hpv⟩ : ∃ pv, pv = (if hint = .decreasing then (y - 1) - (p - x) else p) := ⟨_, rfl⟩
 obtain ⟨ht, hht⟩ : ∃ ht, ht = (if hint = .decreasing then Hint.increasing else hint) := ⟨_, rfl⟩
 rw [← hd2, ← hpv, ← hht] at eq
 obtain ⟨hv, hhv⟩ : ∃ hv, hv = hintN hint := ⟨_, rfl⟩
 rw [← hhv]
 have pv1 : x ≤ pv ∧ pv < y := by rw [hpv]; split <;> omega
 (refine Go.run (g:=?_))
 refine Go.join1 (α := AHeap) (fun _ => [(11, .int .i64 pv), (12, .int .i64 (hintN ht)), (3, .int .i64 l1), (8, .bool wb), (9, .bool wp), (10, .int .i64 n), (0, .slice a L cap), (1, .int .i64 x), (2, .int .i64 y)]) (fun _ => []) (fun H => H) (fun H => d2.size = L ∧ Keeps (blk a) h H ∧ Sv H 3 1 a L cap (ksI d2)) ?_ ?_
 ·
  clear eq
  have hl0 : ∀ hh, hh ≠ .decreasing → hint = hh → d2 = d1 ∧ pv = p ∧ ht = hh := fun hh h1 h2 => by subst h2; rw [if_neg h1] at hd2 hpv hht; exact ⟨hd2, hpv, hht⟩
  cases hint with
  | unknown =>
   have hhv : hv = 0 := hhv
   subst hhv
   obtain ⟨rfl, rfl, rfl⟩ := hl0 _ (by decide) rfl
   (refine Go.run (g:=?_))
   exact Go.joined H2 ⟨e1, kp2, sv2⟩ ⟨rfl, rfl, rfl, rfl, rfl, rfl, rfl, rfl, rfl, trivial⟩ rfl rfl
  | increasing =>
   have hhv : hv = 1 := hhv
   subst hhv
   obtain ⟨rfl, rfl, rfl⟩ := hl0 _ (by decide) rfl
   (refine Go.run (g:=?_))
   exact Go.joined H2 ⟨e1, kp2, sv2⟩ ⟨rfl, rfl, rfl, rfl, rfl, rfl, rfl, rfl, rfl, trivial⟩ rfl rfl
  | decreasing =>
   have hhv : hv = 2 := hhv
   subst hhv
   rw [if_pos rfl] at hd2 hpv hht
   subst hht hpv
   have sp := revI_spec a cap d1 x y (by omega) (by omega) (by omega) H2 svs2
   unfold SortsI at sp
   rw [e1] at sp
   (refine Go.run (g:=?_))
   refine GoR.callW rfl rfl rfl rfl rfl rfl rfl (((sp).argA).mono ?_)
   rintro _ H3 ⟨rfl, e3, sv3⟩ k3
   refine ⟨hW, ?_⟩
   (refine Go.run (g:=?_))
   exact Go.joined H3 ⟨by rw [hd2]; exact e3, kp2.tr k3, by rw [hd2]; exact sv3⟩ ⟨rfl, rfl, rfl, rfl, rfl, rfl, rfl, rfl, rfl, trivial⟩ rfl rfl
 clear hd2 hpv hht svs2 sv2 kp2 e1 r1 r2 hhv
 clear hv
 rintro H3 ⟨e3, kp3, sv3⟩
 unfold pq3 at eq
 obtain ⟨pi, hpi⟩ : ∃ pi, pi = (if (wb && wp && ht = .increasing) = true then partialInsertionSort ltInt d2 x y else (d2, false)) := ⟨_, rfl⟩
 rw [← hpi] at eq
 refine Go.seq ?_
 obtain ⟨hv, hhv⟩ : ∃ hv, hv = hintN ht := ⟨_, rfl⟩
 rw [← hhv]
 refine Go.join1 (α := AHeap) (fun _ => [(11, .int .i64 pv), (3, .int .i64 l1), (8, .bool wb), (9, .bool wp), (10, .int .i64 n), (0, .slice a L cap), (1, .int .i64 x), (2, .int .i64 y)]) (fun _ => []) (fun H => H) (fun H => pi.2 = false ∧ pi.1.size = L ∧ Keeps (blk a) h H ∧ Sv H 3 1 a L cap (ksI pi.1)) ?_ ?_
 ·
  have no : (wb && wp && decide (ht = .increasing)) = false → pi.2 = false ∧ pi.1.size = L ∧ Keeps (blk a) h H3 ∧ Sv H3 3 1 a L cap (ksI pi.1) := fun hb => by
   rw [if_neg (by rw [hb]; decide)] at hpi
   subst hpi
   exact ⟨rfl, e3, kp3, sv3⟩
  cases wb with
  | false =>
   (refine Go.run (g:=?_))
   exact Go.joined H3 (no rfl) ⟨rfl, rfl, rfl, rfl, rfl, rfl, rfl, rfl, trivial⟩ rfl rfl
  | true =>
  cases wp with
  | false =>
   (refine Go.run (g:=?_))
   exact Go.joined H3 (no rfl) ⟨rfl, rfl, rfl, rfl, rfl, rfl, rfl, rfl, trivial⟩ rfl rfl
  | true =>
  cases ht with
  | unknown =>
   have hhv : hv = 0 := hhv
   subst hhv
   (refine Go.run (g:=?_))
   exact Go.joined H3 (no rfl) ⟨rfl, rfl, rfl, rfl, rfl, rfl, rfl, rfl, trivial⟩ rfl rfl
  | decreasing =>
   have hhv : hv = 2 := hhv
   subst hhv
   (refine Go.run (g:=?_))
   exact Go.joined H3 (no rfl) ⟨rfl, rfl, rfl, rfl, rfl, rfl, rfl, rfl, trivial⟩ rfl rfl
  | increasing =>
   clear no
   have hhv : hv = 1 := hhv
   subst hhv
   have hpi : pi = partialInsertionSort ltInt d2 x y := hpi
   have sp := pinsI_spec a cap d2 x y (by omega) (by omega) (by omega) H3 (by unfold KvI; rw [e3]; exact sv3)
   rw [e3, ← hpi] at sp
   (refine Go.run (g:=?_))
   refine GoR.callW rfl rfl rfl rfl rfl rfl rfl (((sp).argA).mono ?_)
   rintro _ H4 ⟨rfl, e4, sv4⟩ k4
   refine ⟨hW, ?_⟩
   clear sp
   cases hb : pi.2 with
   | false =>
    (refine Go.run (g:=?_))
    exact Go.joined H4 ⟨rfl, e4, kp3.tr k4, sv4⟩ ⟨rfl, rfl, rfl, rfl, rfl, rfl, rfl, rfl, trivial⟩ rfl rfl
   | true =>
    rw [hb, if_pos rfl] at eq
    subst eq
    (refine Go.run (g:=?_))
    (first|refine Go.finA rfl ?_|refine Go.finB rfl (hq:=?_))
    exact ⟨rfl, e4, sv4⟩
 clear hhv e3 kp3 sv3 hpi
 clear hv
 rintro H5 ⟨hb5, e5, kp5, sv5⟩
 rw [hb5, if_neg (by decide)] at eq
 clear hb5
 generalize pi.1 = d3 at *
 clear pi d2 d1 d
 have hl := ksI_len d3
 have c1 : (ksI d3)[pv]? = some (.int .i64 d3[pv]!) := ksI_get (by omega)
 have svs5 : KvI H5 a cap d3 := by unfold KvI; rw [e5]; exact sv5
 have dn : ∀ b, (decide (x > 0) && !ltInt d3[x - 1]! d3[pv]!) = b → True := fun _ _ => trivial
 refine Go.seq ?_
 refine Go.join1 (α := Unit) (fun _ => [(11, .int .i64 pv), (3, .int .i64 l1), (8, .bool wb), (9, .bool wp), (10, .int .i64 n), (0, .slice a L cap), (1, .int .i64 x), (2, .int .i64 y)]) (fun _ => []) (fun _ => H5) (fun _ => (decide (x > 0) && !ltInt d3[x - 1]! d3[pv]!) = false) ?_ ?_
 ·
  rcases Nat.lt_or_ge 0 x with x0 | x0
  case inr =>
   (refine Go.run (g:=?_))
   exact Go.joined () (by rw [decide_eq_false (by omega)]; rfl) ⟨rfl, rfl, rfl, rfl, rfl, rfl, rfl, rfl, trivial⟩ rfl rfl
  have c2 : (ksI d3)[x - 1]? = some (.int .i64 d3[x - 1]!) := ksI_get (by omega)
  (refine Go.run (g:=?_))
  refine GoR.call rfl rfl rfl rfl rfl rfl rfl (((lessI_spec _ _ _).argA).mono ?_)
  rintro _ H6 ⟨rfl, rfl⟩ -
  cases hq : decide (d3[x - 1]! < d3[pv]!) with
  | true =>
   (refine Go.run (g:=?_))
   exact Go.joined () (by rw [show ltInt d3[x - 1]! d3[pv]! = true from hq]; simp) ⟨rfl, rfl, rfl, rfl, rfl, rfl, rfl, rfl, trivial⟩ rfl rfl
  | false =>
   rw [pq4_eq (by omega) (by rw [show ltInt d3[x - 1]! d3[pv]! = false from hq, decide_eq_true x0]; rfl)] at eq
   have hmid := partEq_mid d3 (a := x) (b := y) (pv := pv) (by omega)
   have sp := parteqI_spec a cap d3 x y pv (by omega) (by omega) (by omega) (by omega) (by omega) H6 svs5
   rw [e5] at sp
   generalize partitionEqual ltInt d3 x y pv = r at *
   obtain ⟨mid, d4⟩ := r
   simp only at sp hmid eq
   (refine Go.run (g:=?_))
   refine GoR.callW rfl rfl rfl rfl rfl rfl rfl (((sp).argA).mono ?_)
   rintro _ H7 ⟨rfl, e7, sv7⟩ k7
   refine ⟨hW, ?_⟩
   (refine Go.run (g:=?_))
   exact Go.again ((mid, y), l1, (wb, wp), d4, H7) ⟨by simp only; omega, by simp only; omega, by simp only; omega, hl1b, e7, kp5.tr k7, sv7, eq⟩ (by simp only; omega) ⟨rfl, rfl, rfl, rfl, rfl, rfl, trivial⟩ rfl rfl
 clear dn
 intro _ hcond
 rw [pq4_ne (by omega) (by omega) (by omega) hcond] at eq
 have hmid := part_mid d3 (a := x) (b := y) (pv := pv) (by omega) (by omega) (by omega)
 have sp := partI_spec a cap d3 x y pv (by omega) (by omega) (by omega) (by omega) (by omega) H5 svs5
 rw [e5] at sp
 clear hcond
 generalize partition ltInt d3 x y pv = r at *
 obtain ⟨mid, ap, d4⟩ := r
 simp only at sp hmid eq
 (refine Go.run (g:=?_))
 refine GoR.callW rfl rfl rfl rfl rfl rfl rfl (((sp).argA).mono ?_)
 rintro _ H6 ⟨rfl, e6, sv6⟩ k6
 refine ⟨hW, ?_⟩
 have kp6 := kp5.tr k6
 clear sp c1 svs5 sv5 kp5 k6
 have svs6 : Sv H6 3 1 a d4.size cap (ksI d4) := by rw [e6]; exact sv6
 rcases Nat.lt_or_ge (mid - x) (y - mid) with z2 | z2
 ·
  rw [if_pos z2] at eq
  have rc0 := ih d4 x mid l1 (by omega) (by omega) (by omega) (by omega) hl1b H6 svs6
  rw [e6] at rc0
  (refine Go.run (g:=?_))
  refine GoR.callW rfl rfl rfl rfl rfl rfl rfl (((rc0).argA).mono ?_)
  rintro _ H7 ⟨rfl, e7, sv7⟩ k7
  refine ⟨hW, ?_⟩
  (refine Go.run (g:=?_))
  exact Go.again ((mid + 1, y), l1, (_, ap), pdq ltInt d4 x mid l1 true true, H7) ⟨by simp only; omega, by simp only; omega, by simp only; omega, hl1b, e7, kp6.tr k7, sv7, by rw [eq]; simp only; congr 1; rw [hn0]; exact decide_eq_decide.2 (by omega)⟩ (by simp only; omega) ⟨rfl, rfl, rfl, rfl, rfl, rfl, trivial⟩ rfl rfl
 ·
  rw [if_neg (by omega)] at eq
  have rc0 := ih d4 (mid + 1) y l1 (by omega) (by omega) (by omega) (by omega) hl1b H6 svs6
  rw [e6] at rc0
  (refine Go.run (g:=?_))
  refine GoR.callW rfl rfl rfl rfl rfl rfl rfl (((rc0).argA).mono ?_)
  rintro _ H7 ⟨rfl, e7, sv7⟩ k7
  refine ⟨hW, ?_⟩
  (refine Go.run (g:=?_))
  exact Go.again ((x, mid), l1, (_, ap), pdq ltInt d4 (mid + 1) y l1 true true, H7) ⟨by simp only; omega, by simp only; omega, by simp only; omega, hl1b, e7, kp6.tr k7, sv7, by rw [eq]; simp only; congr 1; rw [hn0]; exact decide_eq_decide.2 (by omega)⟩ (by simp only; omega) ⟨rfl, rfl, rfl, rfl, rfl, rfl, trivial⟩ rfl rfl
set_option maxHeartbeats 8000000 in
theorem sortI_spec (a : Option Addr) (cap : Nat) (d : Array Int) (hn : d.size ≤ 1000000) (h : AHeap) (hS : KvI h a cap d) : CallS Try.prog (blk a) 28 [.slice a d.size cap] h fun v h' => v = .tuple #[] ∧ (sort ltInt d).size = d.size ∧ Sv h' 3 1 a d.size cap (ksI (sort ltInt d)) := by
 have hb : bitsLen d.size ≤ 20 := (bitsLen_le_iff _ 20).2 (by omega)
 have sp := pdqI_spec a cap (d.size + 1) d 0 d.size (bitsLen d.size) (by omega) (Nat.zero_le _) (Nat.le_refl _) hn (by omega) h hS
 unfold sort
 unfold SortsI at sp
 have hln := len_spec d.size hn
 generalize bitsLen d.size = B at *
 generalize hL : d.size = L at *
 (refine CallS.of1 Try.func28 rfl Try.ntmps28 Try.results28 rfl ?_)
 (refine Go.run (g:=?_))
 refine GoR.call rfl rfl rfl rfl rfl rfl rfl (((hln _).argA).mono ?_)
 rintro _ H2 ⟨rfl, rfl⟩ -
 (refine Go.run (g:=?_))
 refine GoR.callW rfl rfl rfl rfl rfl rfl rfl (((sp).argA).mono ?_)
 rintro _ H1 ⟨rfl, e1, sv1⟩ k1
 refine ⟨fun i hi => .inl hi, ?_⟩
 (refine Go.run (g:=?_))
 (first|refine Go.finA rfl ?_|refine Go.finB rfl (hq:=?_))
 exact ⟨rfl, e1, sv1⟩
end Go.Proofs.Ytfdglljlenkkbaa
namespace Go.Proofs.Ytfdglljlenkkbaa
set_option maxRecDepth 100000
attribute [local irreducible] Go GoR GoL
def i64s (ds : List Int) : List Value := ds.map fun d => .int .i64 d
theorem i64s_len (ds : List Int) : (i64s ds).length = ds.length := by simp [i64s]
theorem i64s_get {ds : List Int} {i : Nat} (q : i < ds.length) : (i64s ds)[i]? = some (.int .i64 ds[i]) := by simp [i64s, q]
set_option maxHeartbeats 16000000 in
theorem index_spec (a : Option Addr) (c : Nat) (ds : List Int) (x : Int) (hl : ds.length ≤ 1000000) (h : AHeap) (hz : Rv Try.prog h 1 a ds.length c (i64s ds)) : CallS Try.prog [] 35 [.slice a ds.length c, .int .i64 x] h fun v h' => ∃ i : Int, v = .int .i64 i := by
 (refine CallS.of2 Try.func35 rfl Try.ntmps35 Try.results35 rfl ?_)
 (refine Go.run (g:=?_))
 refine Go.loop (α := Nat) (fun i => [(8, .int .i64 i), (7, .int .i64 ds.length), (0, .slice a ds.length c), (1, .int .i64 x)]) (fun _ => []) (fun _ => h) (fun i => i ≤ ds.length) (fun i => ds.length - i) 0 (Nat.zero_le _) ⟨rfl, rfl, rfl, rfl, trivial⟩ rfl rfl ?_
 rintro i hi
 rcases Nat.lt_or_ge i ds.length with i0 | i0
 ·
  have hg := i64s_get i0
  have hb : i < (i64s ds).length := by rw [i64s_len]; exact i0
  generalize ds[i] = d at *
  by_cases e : x = d
  ·
   (refine Go.run (g:=?_))
   (first|refine Go.finA rfl ?_|refine Go.finB rfl (hq:=?_))
   exact ⟨_, rfl⟩
  ·
   (refine Go.run (g:=?_))
   exact Go.again (i + 1) i0 (by omega) ⟨rfl, rfl, rfl, rfl, trivial⟩ rfl rfl
 ·
  (refine Go.run (g:=?_))
  (first|refine Go.finA rfl ?_|refine Go.finB rfl (hq:=?_))
  exact ⟨_, rfl⟩
theorem contains_spec (a : Option Addr) (c : Nat) (ds : List Int) (x : Int) (hl : ds.length ≤ 1000000) (h : AHeap) (hz : Rv Try.prog h 1 a ds.length c (i64s ds)) : CallS Try.prog [] 27 [.slice a ds.length c, .int .i64 x] h fun v h' => ∃ b : Bool, v = .bool b := by
 (refine CallS.of2 Try.func27 rfl Try.ntmps27 Try.results27 rfl ?_)
 (refine Go.run (g:=?_))
 refine GoR.call rfl rfl rfl rfl rfl rfl rfl (((index_spec a c ds x hl _ hz).argA).mono ?_)
 rintro _ h2 ⟨i, rfl⟩ s2
 (refine Go.run (g:=?_))
 (first|refine Go.finA rfl ?_|refine Go.finB rfl (hq:=?_))
 exact ⟨_, rfl⟩
theorem sorti_spec (a : Option Addr) (c : Nat) (ds : List Int) (hl : ds.length ≤ 1000000) (h : AHeap) (hz : Sv h 3 1 a ds.length c (i64s ds)) : CallS Try.prog (blk a) 28 [.slice a ds.length c] h fun v h' => v = .tuple #[] ∧ ∃ es : List Int, es.length = ds.length ∧ Sv h' 3 1 a ds.length c (i64s es) := by
 have k := sortI_spec a c ds.toArray (by simpa using hl) h (by simpa [KvI, ksI, i64s] using hz)
 refine (k.args (by simp)).mono ?_
 rintro v h' ⟨rfl, h1, h2⟩
 refine ⟨rfl, (Go.Sort.sort Go.Sort.ltInt ds.toArray).toList, by simpa using h1, by simpa [ksI, i64s] using h2⟩
end Go.Proofs.Ytfdglljlenkkbaa
namespace Go.Proofs.Ytfdglljlenkkbaa
set_option maxRecDepth 100000
attribute [local irreducible] Go GoR GoL
def zAck : List Value := [.int .i64 0, .bool false, .slice none 0 0, .int .i64 0, .int .u64 0, .slice none 0 0]
structure AckO (h h' : AHeap) (fb cum next : Nat) (ra : Option Addr) (rc : Nat) (l : List FE) (n0 c : Nat) (gs : List (Nat × Nat)) (v : Value) : Prop where
 o : ∃ (k m : Nat) (fr : Nat) (ba : Option Addr) (B : List (Nat × Nat)) (pth : Int) (tks : Nat) (la : Option Addr) (ln lc : Nat) (rec : Bool) (unt : Nat), v = .tuple #[.agg #[.int .i64 (fr : Nat), .bool (!decide (c = cum)), .slice ba B.length B.length, .int .i64 pth, .int .u64 (tks : Nat), .slice la ln lc], .int .i64 0] ∧ PB h' ba B ∧ BOk c gs l B ∧ k ≤ l.length ∧ m ≤ l.length ∧ FlO h' fb c next (subA ra k) (rc - k) ((mixL markE (l.map (ackE c gs)) m).drop k) rec unt n0 ∧ fr = sumL FE.dl (l.take k) ∧ (∀ e ∈ l.take k, drpB c e = true) ∧ (∀ q : k < l.length, drpB c l[k] = false) ∧ unt < 4294967296 ∧ ((∀ e ∈ l, newB c gs e = false) → m = 0 ∧ B = [] ∧ pth = -1 ∧ ln = 0)
set_option maxHeartbeats 64000000 in
theorem ack_spec (fb cum next : Nat) (ra : Option Addr) (rc : Nat) (l : List FE) (rec : Bool) (unt n0 c now : Nat) (ga : Option Addr) (gc : Nat) (gs : List (Nat × Nat)) (hmay : mayB cum next c gs = true) (hc : c < 4294967296) (hcum : cum < 4294967296) (hnx : next < 4294967296) (hun : unt < 4294967296) (hnow : now < 18446744073709551616) (hgs : ∀ g ∈ gs, g.1 < 65536 ∧ g.2 < 65536) (hgl : gs.length ≤ 1000) (hl : l.length ≤ 1000) (hts : ∀ e ∈ l, e.tsn < 4294967296) (hdl : ∀ e ∈ l, 0 < e.dl ∧ e.dl ≤ 255) (hpa : ∀ e ∈ l, e.path < 9223372036854775808) (hat : ∀ e ∈ l, e.at_ < 18446744073709551616) (hms : ∀ e ∈ l, e.missed ≤ 1000000) (h : AHeap) (F : FlO h fb cum next ra rc l rec unt n0) (hn0 : n0 ≤ h.n) (hz : Rv Try.prog h 2 ga gs.length gc (gcs gs)) (hgo : ∀ j ∈ blk ga, j < n0) : CallS Try.prog (fb :: l.map FE.b) 12 [.pointer (some ⟨fb, 0, none⟩), .int .u32 (c : Nat), .slice ga gs.length gc, .int .u64 (now : Nat)] h fun v h' => AckO h h' fb cum next ra rc l n0 c gs v := by
 have hfl := F.lt
 have fc := F.fc
 have hbl : ∀ e ∈ l, e.b < h.n := fun e he => hfl _ (by unfold wrF; exact List.mem_cons_of_mem _ (List.mem_append_right _ (List.mem_map_of_mem he)))
 have hfb : fb < h.n := hfl _ (by simp [wrF])
 (refine CallS.of4 Try.func12 rfl Try.ntmps12 Try.results12 rfl ?_)
 (refine Go.run (g:=?_))
 refine GoR.name ?_
 intro h1 e1
 have s1 : Same h h1 := by subst e1; exact (((Same.refl h).push _).push _).push _
 have n1 : h1.n = h.n + 3 := by subst e1; rfl
 have c1 : h1.get h.n = some (.cells [.int .u32 (c : Nat)] 22) := by subst e1; exact get_push_lt (get_push_lt (AHeap.get_push_same h _))
 have g1 : h1.get (h.n + 1) = some (.cells [.slice ga gs.length gc] 29) := by subst e1; exact get_push_lt (AHeap.get_push_same (h.push _) _)
 have r1 : h1.get (h.n + 2) = some (.cells zAck 43) := by subst e1; exact AHeap.get_push_same ((h.push _).push _) _
 clear e1
 rw [show (h.push (AObj.cells [.int .u32 (c : Nat)] 22)).n = h.n + 1 from rfl, show ((h.push (AObj.cells [.int .u32 (c : Nat)] 22)).push (AObj.cells [.slice ga gs.length gc] 29)).n = h.n + 2 from rfl]
 refine GoR.eqRef rfl rfl rfl rfl (.inl rfl) rfl rfl (aEq_nilF flU _) ?_
 have F1 := F.same s1
 have hz1 := hz.same s1
 (refine Go.run (g:=?_))
 refine GoR.call rfl rfl rfl rfl rfl rfl rfl (((may_spec fb cum next ra rc l rec unt n0 c ga gc gs hc hcum hnx hgs hgl _ F1 hz1).argA).mono ?_)
 rintro _ h2 rfl s2
 rw [hmay]
 have c2 := s2.get c1
 have g2 := s2.get g1
 have r2 := s2.get r1
 have F2 := F1.same s2
 have hz2 := hz1.same s2
 have fc2 := F2.fc
 have m2 := s2.1
 clear c1 g1 r1 hz1
 refine Go.runN (g:=?_)
 refine Go.loud (by kernel_rfl) rfl ?_
 (refine Go.runL (g:=?_))
 have hadv : decide ((c : Int) = (cum : Int)) = decide (c = cum) := decide_eq_decide.2 (by omega)
 refine GoL.store (off := 0) (n := 6) (v := .agg #[.int .i64 0, .bool (!decide ((c : Int) = (cum : Int))), .slice none 0 0, .int .i64 (-1), .int .u64 0, .slice none 0 0]) (l := [.int .i64 0, .bool (!decide ((c : Int) = (cum : Int))), .slice none 0 0, .int .i64 (-1), .int .u64 0, .slice none 0 0]) rfl rfl rfl rfl rfl (AHeap.get_push_same h2 _) rfl rfl (by simp) rfl rfl (.inr (by omega)) ?_
 refine GoL.endN (g:=?_)
 rw [hadv]
 refine Go.name ?_
 intro h3 e3
 have s3 : Same h2 h3 := by subst e3; exact ((Same.refl h2).push _).put (Nat.le_refl _) _
 have n3 : h3.n = h2.n + 1 := by subst e3; rfl
 have t3 : h3.get h2.n = some (.cells [.int .i64 0, .bool (!decide (c = cum)), .slice none 0 0, .int .i64 (-1), .int .u64 0, .slice none 0 0] 43) := by subst e3; exact AHeap.get_put_same _ (by simp) _
 clear e3
 obtain ⟨adv, hae⟩ : ∃ adv, adv = (!decide (c = cum)) := ⟨_, rfl⟩
 rw [← hae] at t3 ⊢
 have c3 := s3.get c2
 have g3 := s3.get g2
 have r3 := s3.get r2
 have F3 := F2.same s3
 have fc3 := F3.fc
 have hz3 := hz2.same s3
 clear c2 g2 r2 fc2 hz2
 (refine Go.run (g:=?_))
 have A0 : AI h.n h2.n fb (fcs cum next ra l.length rc rec unt) ra rc l n0 c ga gc gs adv 0 none [] 0 (-1) 0 h3 := ⟨by rw [mixL_zero]; exact F3.w, t3, ⟨r3, c3, g3, hz3, hgo, hn0⟩, .nil, (fun j hj => by cases hj), BOk.nil c gs, Nat.le_refl _, fun _ => ⟨rfl, rfl, rfl⟩, by omega, by omega⟩
 clear c3 g3 r3 hz3 t3 fc3
 refine Go.loop (α := Nat × Option Addr × List (Nat × Nat) × Nat × Int × Nat × AHeap) (fun x => [(42, .int .i64 x.1), (41, .int .i64 l.length), (40, .slice ra l.length rc), (0, .pointer (some ⟨fb, 0, none⟩)), (3, .int .u64 (now : Nat)), (5, .pointer (some ⟨h.n, 0, none⟩)), (8, .pointer (some ⟨h.n + 2, 0, none⟩)), (10, .func (.func 22) #[] #[.pointer (some ⟨h.n, 0, none⟩), .pointer (some ⟨h.n + 1, 0, none⟩)]), (11, .pointer (some ⟨h2.n, 0, none⟩)), (12, .int .i64 (lastI x.2.2.2.1))]) (fun _ => []) (fun x => x.2.2.2.2.2.2) (fun x => x.1 ≤ l.length ∧ AI h.n h2.n fb (fcs cum next ra l.length rc rec unt) ra rc l n0 c ga gc gs adv x.1 x.2.1 x.2.2.1 x.2.2.2.1 x.2.2.2.2.1 x.2.2.2.2.2.1 x.2.2.2.2.2.2) (fun x => l.length - x.1) (0, none, [], 0, -1, 0, h3) ⟨Nat.zero_le _, A0⟩ ⟨rfl, rfl, rfl, rfl, rfl, rfl, rfl, rfl, rfl, rfl, trivial⟩ rfl rfl ?_
 clear A0 F3 F2 F1 s3 s2
 have hma := fun (i : Nat) (q : i < l.length) => mixL_at (ackE c gs) q
 have hml := mixL_len (ackE c gs) l
 have hms' := fun (i : Nat) (q : i < l.length) => mixL_succ (ackE c gs) q
 have hmp := mixL_ptrs (fun e => (ackE_b c gs e).1) l
 rintro ⟨i, ba, B, m, pth, tks, H⟩ ⟨hi, A⟩
 simp only at hi A ⊢
 rcases Nat.lt_or_ge i l.length with i0 | i0
 ·
  have qm : i < (mixL (ackE c gs) l i).length := by rw [hml]; exact i0
  have rv := A.F.row.rv (P := Try.prog)
  rw [hml, hmp] at rv
  have en := A.F.ent _ (List.getElem_mem qm)
  rw [hma i i0] at en
  have gp := ptrs_get i0
  have hlen := ptrs_len l
  have hib : i < (ptrs l).length := by rw [hlen]; exact i0
  have hmem := List.getElem_mem i0
  have htk : l.take (i + 1) = l.take i ++ [l[i]] := by simp
  have hskip := fun (H : AHeap) (A : AI h.n h2.n fb (fcs cum next ra l.length rc rec unt) ra rc l n0 c ga gc gs adv i ba B m pth tks H) => A.skip i0
  have hnew := fun (H H' : AHeap) (ba : Option Addr) (B : List (Nat × Nat)) (pth : Int) (tks : Nat) (F : FlW H fb (fcs cum next ra l.length rc rec unt) ra rc (mixL (ackE c gs) l i) n0) t (S : AS h.n c ga gc gs n0 H) pb bo ok tn h0 (kk : Keeps [l[i].b] H H') g => AI.new_ (n := h.n) (tb := h2.n) (ba := ba) (B := B) (pth := pth) (tks := tks) (adv := adv) F t S pb bo i0 ok tn hbl h0 kk g
  rw [htk] at hnew
  have hdl1 := hdl _ hmem
  have hpa1 := hpa _ hmem
  have hat1 := hat _ hmem
  have hbl1 := hbl _ hmem
  have hma1 := hma i i0
  have hwe : l[i].b ∈ l.map FE.b := List.mem_map_of_mem hmem
  generalize l[i] = e at *
  have en' := en
  unfold FE.cs at en'
  have hts1 := hts e hmem
  have htold := told_spec c e.tsn h.n (h.n + 1) ga gc gs hc hts1 hgs hgl H A.S.cc A.S.gg A.S.gz
  have At := A.t
  by_cases h2' : e.st = 2
  ·
   have nb : newB c gs e = false := by unfold newB; rw [decide_eq_true h2']; rfl
   (refine Go.run (g:=?_))
   exact Go.again (i + 1, ba, B, m, pth, tks, H) ⟨i0, hskip H A nb⟩ (by simp only; omega) ⟨rfl, rfl, rfl, rfl, rfl, rfl, rfl, rfl, rfl, rfl, trivial⟩ rfl rfl
  ·
   (refine Go.run (g:=?_))
   refine GoR.call rfl rfl rfl rfl rfl rfl rfl (((htold).argA).mono ?_)
   rintro _ H1 rfl s1
   have A1 := A.by_ s1
   have en1 := s1.get en'
   have At1 := A1.t
   have m1 := s1.1
   cases hT : toldN c gs e.tsn with
   | false =>
    have nb : newB c gs e = false := by unfold newB; rw [hT, Bool.and_false]
    (refine Go.run (g:=?_))
    exact Go.again (i + 1, ba, B, m, pth, tks, H1) ⟨i0, hskip H1 A1 nb⟩ (by simp only; omega) ⟨rfl, rfl, rfl, rfl, rfl, rfl, rfl, rfl, rfl, rfl, trivial⟩ rfl rfl
   | true =>
   have nb : newB c gs e = true := by unfold newB; rw [hT, decide_eq_false h2']; rfl
   have hak : ackE c gs e = { e with st := 2 } := by unfold ackE; rw [if_pos nb]
   by_cases h0' : e.st = 0
   ·
    refine Go.runN (g:=?_)
    refine Go.loud (by kernel_rfl) rfl ?_
    (refine Go.runL (g:=?_))
    have bl1 := A1.ok.lt (fun x hx => (hdl x (List.mem_of_mem_take hx)).2) (fun x hx => hpa x (List.mem_of_mem_take hx)) (by rw [List.length_take]; omega)
    have bn1 : B.length ≤ 1000 := by have := A1.ok.n; rw [List.length_take] at this; omega
    refine GoL.call rfl rfl rfl rfl rfl rfl rfl (((add_spec ba B e.path e.dl hpa1 bl1 (by omega) (by omega) H1 A1.pb).argA).mono ?_)
    rintro _ H2 ⟨ba', B', rfl, pb2, AR, ob2⟩ k2
    have m2 := k2.1
    have tn1 := A1.tn
    have bo1 := A1.bo
    refine ⟨fun j hj => .inr (by have := bo1 j hj; omega), ?_⟩
    have At2 := k2.get At1 (fun hm => by have := bo1 _ hm; omega)
    (refine Go.runL (g:=?_))
    refine GoL.store (off := 0 + 2) (n := 1) (v := .slice ba' B'.length B'.length) (l := [.slice ba' B'.length B'.length]) rfl rfl rfl rfl rfl At2 rfl rfl (by simp) rfl rfl (.inr (by omega)) ?_
    have hdis : ∀ b ∈ blk ba, b ≠ h2.n ∧ b ≠ e.b := fun b hb => by have := bo1 b hb; omega
    have hdis2 := hdis
    refine GoL.endC (g:=?_)
    clear hdis hdis2
    refine Go.name ?_
    intro H3 e3
    have k3 : Keeps [h2.n] H2 H3 := by subst e3; exact (Keeps.rf _ _).pt (.inl (by simp)) _
    have n3 : H3.n = H2.n := by subst e3; rfl
    have t3 : H3.get h2.n = some (.cells [.int .i64 0, .bool adv, .slice ba' B'.length B'.length, .int .i64 pth, .int .u64 (tks : Nat), .slice none 0 0] 43) := by subst e3; exact get_put_self At2
    clear e3
    have bo3 : ∀ j ∈ blk ba', h2.n < j := fun j hj => (ob2 j hj).elim (bo1 j) (fun q => by omega)
    have F3 : FlW H3 fb (fcs cum next ra l.length rc rec unt) ra rc (mixL (ackE c gs) l i) n0 := by
     have F2' := A1.F.keeps k2 (fun j hj => by rw [sv_tyF A1.pb.sv j hj]; decide)
     exact F2'.keepsL k3 At2 (fun c t e => by cases e; decide)
    have S3 : AS h.n c ga gc gs n0 H3 := (A1.S.keeps k2 (fun j hj => by have := bo1 j hj; omega)).keeps k3 (fun j hj => by rw [List.mem_singleton.1 hj]; omega)
    have pb3 : PB H3 ba' B' := pb2.keeps k3 (fun j hj hm => by have := bo3 j hj; rw [List.mem_singleton.1 hm] at this; omega)
    have ok3 : BOk c gs (l.take i ++ [e]) B' := A1.ok.add nb h0' hdl1.1 AR
    have en3 := k3.get (k2.get en1 (fun hm => by have := bo1 _ hm; omega)) (by simp; omega)
    cases hag : e.again with
    | true =>
     rw [hag] at en3
     (refine Go.run (g:=?_))
     refine GoR.store (off := 0 + 8) (n := 1) (v := .int .i64 2) (l := [.int .i64 2]) rfl rfl rfl rfl rfl en3 rfl rfl (by simp) rfl rfl (.inl (List.mem_cons_of_mem _ hwe)) ?_
     refine GoR.name ?_
     intro H5 e5
     have k5 : Keeps [e.b] H3 H5 := by subst e5; exact (Keeps.rf _ _).pt (.inl (by simp)) _
     have g5 : H5.get e.b = some (.cells (ackE c gs e).cs 66) := by subst e5; rw [hak]; unfold FE.cs; simp only [hag]; exact get_put_self en3
     have n5 : H5.n = H3.n := by subst e5; rfl
     clear e5
     (refine Go.run (g:=?_))
     exact Go.again (i + 1, ba', B', i + 1, pth, tks, H5) ⟨i0, hnew H3 H5 ba' B' pth tks F3 t3 S3 pb3 bo3 ok3 (by omega) nb k5 g5⟩ (by simp only; omega) ⟨rfl, rfl, rfl, rfl, rfl, rfl, rfl, rfl, rfl, rfl, trivial⟩ rfl rfl
    | false =>
     rw [hag] at en3
     refine Go.runN (g:=?_)
     refine Go.loud (by kernel_rfl) rfl ?_
     (refine Go.runL (g:=?_))
     refine GoL.minN rfl rfl rfl rfl rfl rfl ?_
     obtain ⟨mn, hmn, hmn2⟩ : ∃ mn : Nat, (if (e.at_ : Int) < (now : Int) then (e.at_ : Int) else (now : Int)) = (mn : Int) ∧ mn ≤ now := by
      split
      · exact ⟨e.at_, rfl, by omega⟩
      · exact ⟨now, rfl, by omega⟩
     rw [hmn]
     refine GoL.bin (v := .int .u64 ((now - mn : Nat) : Int)) rfl rfl rfl rfl rfl rfl (by simp [iBin, IntKind.wrap, IntKind.bits, IntKind.signed]; omega) ?_
     (refine Go.runL (g:=?_))
     refine GoL.store (off := 0 + 3) (n := 1) (v := .int .i64 (e.path : Nat)) (l := [.int .i64 (e.path : Nat)]) rfl rfl rfl rfl rfl t3 rfl rfl (by simp) rfl rfl (.inr (by omega)) ?_
     (refine Go.runL (g:=?_))
     refine GoL.store (off := 0 + 4) (n := 1) (v := .int .u64 (now - mn : Nat)) (l := [.int .u64 (now - mn : Nat)]) rfl rfl rfl rfl rfl (get_put_self t3) rfl rfl (by simp [setL]) rfl rfl (.inr (by omega)) ?_
     refine GoL.endN (g:=?_)
     refine Go.name ?_
     intro H4 e4
     have k4 : Keeps [h2.n] H3 H4 := by subst e4; exact ((Keeps.rf _ _).pt (.inl (by simp)) _).pt (.inl (by simp)) _
     have n4 : H4.n = H3.n := by subst e4; rfl
     have t4 : H4.get h2.n = some (.cells [.int .i64 0, .bool adv, .slice ba' B'.length B'.length, .int .i64 (e.path : Nat), .int .u64 (now - mn : Nat), .slice none 0 0] 43) := by subst e4; exact get_put_self (get_put_self t3)
     clear e4
     have F4 := F3.keepsL k4 t3 (fun c t e => by cases e; decide)
     have S4 := S3.keeps k4 (fun j hj => by rw [List.mem_singleton.1 hj]; omega)
     have pb4 : PB H4 ba' B' := pb3.keeps k4 (fun j hj hm => by have := bo3 j hj; rw [List.mem_singleton.1 hm] at this; omega)
     have en4 := k4.get en3 (by simp; omega)
     (refine Go.run (g:=?_))
     refine GoR.store (off := 0 + 8) (n := 1) (v := .int .i64 2) (l := [.int .i64 2]) rfl rfl rfl rfl rfl en4 rfl rfl (by simp) rfl rfl (.inl (List.mem_cons_of_mem _ hwe)) ?_
     refine GoR.name ?_
     intro H5 e5
     have k5 : Keeps [e.b] H4 H5 := by subst e5; exact (Keeps.rf _ _).pt (.inl (by simp)) _
     have g5 : H5.get e.b = some (.cells (ackE c gs e).cs 66) := by subst e5; rw [hak]; unfold FE.cs; simp only [hag]; exact get_put_self en4
     have n5 : H5.n = H4.n := by subst e5; rfl
     clear e5
     (refine Go.run (g:=?_))
     exact Go.again (i + 1, ba', B', i + 1, (e.path : Nat), (now - mn), H5) ⟨i0, hnew H4 H5 ba' B' (e.path : Nat) (now - mn) F4 t4 S4 pb4 bo3 ok3 (by omega) nb k5 g5⟩ (by simp only; omega) ⟨rfl, rfl, rfl, rfl, rfl, rfl, rfl, rfl, rfl, rfl, trivial⟩ rfl rfl
   ·
    (refine Go.run (g:=?_))
    refine GoR.store (off := 0 + 8) (n := 1) (v := .int .i64 2) (l := [.int .i64 2]) rfl rfl rfl rfl rfl en1 rfl rfl (by simp) rfl rfl (.inl (List.mem_cons_of_mem _ hwe)) ?_
    refine GoR.name ?_
    intro H2 e2
    have k2 : Keeps [e.b] H1 H2 := by subst e2; exact (Keeps.rf _ _).pt (.inl (by simp)) _
    have n2 : H2.n = H1.n := by subst e2; rfl
    have g2 : H2.get e.b = some (.cells (ackE c gs e).cs 66) := by subst e2; rw [hak]; exact get_put_self en1
    clear e2
    (refine Go.run (g:=?_))
    exact Go.again (i + 1, ba, B, i + 1, pth, tks, H2) ⟨i0, hnew H1 H2 ba B pth tks A1.F A1.t A1.S A1.pb A1.bo (A1.ok.skip (fun z => h0' z.2)) A1.tn nb k2 g2⟩ (by simp only; omega) ⟨rfl, rfl, rfl, rfl, rfl, rfl, rfl, rfl, rfl, rfl, trivial⟩ rfl rfl
 ·
  obtain rfl : i = l.length := by omega
  have AF := A.F
  rw [mixL_all] at AF
  have fcH := AF.fc
  unfold fcs at fcH
  have ok := A.ok
  have nn := A.nn
  rw [List.take_length] at ok nn
  have hm := A.mi
  have tn := A.tn
  have rl := AF.row.le
  rw [List.length_map] at rl
  have rv0 := AF.row.rv (P := Try.prog)
  rw [List.length_map] at rv0
  (refine Go.run (g:=?_))
  refine GoR.bin rfl rfl rfl rfl rfl rfl (lastI_add m (by omega)) ?_
  refine GoR.sliceV (lo' := none) (hi' := some (.int .i64 (m : Nat))) (l := 0) (r := m) rfl rfl rfl rfl rfl rfl rfl rv0 rfl (by simp [bnd]) (by omega) (by omega) ?_
  rw [subA_zero, Nat.sub_zero, Nat.sub_zero]
  (refine Go.run (g:=?_))
  obtain ⟨L, hL⟩ : ∃ L, L = l.map (ackE c gs) := ⟨_, rfl⟩
  have hLl : L.length = l.length := by rw [hL, List.length_map]
  have hLg : ∀ k (q : k < l.length), ∃ q' : k < L.length, L[k] = ackE c gs l[k] := fun k q => ⟨by omega, by simp [hL]⟩
  have hLb : ∀ e ∈ L, e.b < h.n := fun e he => by
   rw [hL] at he
   obtain ⟨x, hx, rfl⟩ := List.mem_map.1 he
   rw [(ackE_b c gs x).1]; exact hbl x hx
  rw [← hL] at AF
  have hLm : ∀ e ∈ L, e.missed ≤ 1000000 := fun e he => by
   rw [hL] at he
   obtain ⟨x, hx, rfl⟩ := List.mem_map.1 he
   have : (ackE c gs x).missed = x.missed := by unfold ackE; split <;> rfl
   rw [this]; exact hms x hx
  have hLw : ∀ e ∈ L, e.b ∈ l.map FE.b := fun e he => by
   rw [hL] at he
   obtain ⟨x, hx, rfl⟩ := List.mem_map.1 he
   rw [(ackE_b c gs x).1]; exact List.mem_map_of_mem hx
  have pb := A.pb
  have bo := A.bo
  have S := A.S
  have At := A.t
  clear hms' hma hmp hml
  refine Go.join2 (α := Nat × AHeap) (fun x => [(0, .pointer (some ⟨fb, 0, none⟩)), (5, .pointer (some ⟨h.n, 0, none⟩)), (8, .pointer (some ⟨h.n + 2, 0, none⟩)), (11, .pointer (some ⟨h2.n, 0, none⟩)), (15, .slice ra m rc)]) (fun _ => []) (fun x => x.2) (fun x => (x.1 ≤ l.length ∧ FlW x.2 fb (fcs cum next (subA ra x.1) (l.length - x.1) (rc - x.1) rec unt) ra rc L n0 ∧ x.2.get h2.n = some (.cells [.int .i64 (sumL FE.dl (l.take x.1) : Nat), .bool adv, .slice ba B.length B.length, .int .i64 pth, .int .u64 (tks : Nat), .slice none 0 0] 43) ∧ AS h.n c ga gc gs n0 x.2 ∧ PB x.2 ba B ∧ (∀ e ∈ l.take x.1, drpB c e = true) ∧ h2.n < x.2.n) ∧ (∀ q : x.1 < l.length, drpB c l[x.1] = false)) ?first ?rest
  case first =>
   refine Go.loop (α := Nat × AHeap) (fun x => [(0, .pointer (some ⟨fb, 0, none⟩)), (5, .pointer (some ⟨h.n, 0, none⟩)), (8, .pointer (some ⟨h.n + 2, 0, none⟩)), (11, .pointer (some ⟨h2.n, 0, none⟩)), (15, .slice ra m rc)]) (fun _ => []) (fun x => x.2) (fun x => x.1 ≤ l.length ∧ FlW x.2 fb (fcs cum next (subA ra x.1) (l.length - x.1) (rc - x.1) rec unt) ra rc L n0 ∧ x.2.get h2.n = some (.cells [.int .i64 (sumL FE.dl (l.take x.1) : Nat), .bool adv, .slice ba B.length B.length, .int .i64 pth, .int .u64 (tks : Nat), .slice none 0 0] 43) ∧ AS h.n c ga gc gs n0 x.2 ∧ PB x.2 ba B ∧ (∀ e ∈ l.take x.1, drpB c e = true) ∧ h2.n < x.2.n) (fun x => l.length - x.1) (0, H) ⟨Nat.zero_le _, by rw [subA_z]; exact AF, At, S, pb, (fun e he => by cases he), tn.2⟩ ⟨rfl, rfl, rfl, rfl, rfl, trivial⟩ rfl rfl ?_
   clear AF fcH A pb S At rv0
   rintro ⟨k, H⟩ ⟨hk, AF, At, S, pb, hdr, htb⟩
   simp only at hk AF At S pb hdr htb ⊢
   have fcH := AF.fc
   unfold fcs at fcH
   have Scc := S.cc
   rcases Nat.lt_or_ge k l.length with k0 | k0
   ·
    obtain ⟨q', hLk⟩ := hLg k k0
    have rowk := AF.rowd (i := k) (by omega)
    rw [hLl] at rowk
    have rvk := rowk.rv (P := Try.prog)
    have gp0 : (ptrs (L.drop k))[0]? = some (.pointer (some ⟨l[k].b, 0, none⟩)) := by
     rw [ptrs_drop, List.getElem?_drop, Nat.add_zero, ptrs_get q', hLk, (ackE_b c gs _).1]
    have hpl : 0 < (ptrs (L.drop k)).length := by rw [ptrs_len, List.length_drop]; omega
    have enk := AF.ent _ (List.getElem_mem q')
    rw [hLk, (ackE_b c gs _).1] at enk
    have hmem := List.getElem_mem k0
    have htk : l.take (k + 1) = l.take k ++ [l[k]] := by simp
    have hts1 := hts _ hmem
    have hdl1 := hdl _ hmem
    have hdrp : drpB c l[k] = decide (2147483648 ≤ spanN 1 (spanN c l[k].tsn)) := rfl
    have hsub1 := sub32 c l[k].tsn hc hts1
    have hsub2 := sub32 1 (spanN c l[k].tsn) (by decide) (span_lt _ _)
    have hbk := hbl _ hmem
    have hab := ackE_b c gs l[k]
    have hdk : ∀ b, drpB c l[k] = b → ∀ q : k < l.length, drpB c (l[k]'q) = b := fun b h q => h
    have htsn : (ackE c gs l[k]).tsn = l[k].tsn := by unfold ackE; split <;> rfl
    generalize spanN c l[k].tsn = s1 at *
    generalize spanN 1 s1 = s2' at *
    generalize l[k] = e at *
    generalize ackE c gs e = e1 at *
    unfold FE.cs at enk
    rw [htsn] at enk
    have hlk : 0 < l.length - k := by omega
    have hs1 : True → _ := fun _ => hsub1
    have hs2 : True → _ := fun _ => hsub2
    clear hsub1 hsub2
    rcases Nat.lt_or_ge s2' 2147483648 with w0 | w0
    ·
     have hdf : True → drpB c e = false := fun _ => by rw [hdrp]; exact decide_eq_false (by omega)
     clear hdrp
     (refine Go.run (g:=?_))
     refine GoR.bin rfl rfl rfl rfl rfl rfl (hs1 trivial) ?_
     (refine Go.run (g:=?_))
     refine GoR.bin rfl rfl rfl rfl rfl rfl (hs2 trivial) ?_
     (refine Go.run (g:=?_))
     exact Go.joined (k, H) ⟨⟨hk, AF, At, S, pb, hdr, htb⟩, hdk _ (hdf trivial)⟩ ⟨rfl, rfl, rfl, rfl, rfl, trivial⟩ rfl rfl
    ·
     have hdt : True → drpB c e = true := fun _ => by rw [hdrp]; exact decide_eq_true w0
     clear hdrp
     (refine Go.run (g:=?_))
     refine GoR.bin rfl rfl rfl rfl rfl rfl (hs1 trivial) ?_
     (refine Go.run (g:=?_))
     refine GoR.bin rfl rfl rfl rfl rfl rfl (hs2 trivial) ?_
     have hsm : sumL FE.dl (l.take k) ≤ 255 * 1000 := by
      have h1 := sumL_le (f := FE.dl) (l := l.take k) (B := 255) (fun x hx => (hdl x (List.mem_of_mem_take hx)).2)
      have h2 : (l.take k).length ≤ 1000 := by rw [List.length_take]; omega
      omega
     have hd1 : e1.dl = e.dl := hab.2.2.1
     refine Go.runN (g:=?_)
     refine Go.loud (by kernel_rfl) rfl ?_
     (refine Go.runL (g:=?_))
     refine GoL.store (off := 0) (n := 1) (v := .int .i64 (sumL FE.dl (l.take k) + e1.dl : Nat)) (l := [.int .i64 (sumL FE.dl (l.take k) + e1.dl : Nat)]) rfl rfl rfl rfl rfl At rfl rfl (by simp) rfl rfl (.inr (by omega)) ?_
     refine GoL.endN (g:=?_)
     refine Go.name ?_
     intro H3 e3
     have k3 : Keeps [h2.n] H H3 := by subst e3; exact (Keeps.rf _ _).pt (.inl (by simp)) _
     have n3 : H3.n = H.n := by subst e3; rfl
     have At3 : H3.get h2.n = some (.cells [.int .i64 (sumL FE.dl (l.take (k + 1)) : Nat), .bool adv, .slice ba B.length B.length, .int .i64 pth, .int .u64 (tks : Nat), .slice none 0 0] 43) := by
      subst e3
      have : sumL FE.dl (l.take (k + 1)) = sumL FE.dl (l.take k) + e1.dl := by rw [htk, sumL_append, hd1]; simp [sumL]
      rw [this]; exact get_put_self At
     clear e3
     have F3 := AF.keepsL k3 At (fun c t e => by cases e; decide)
     have S3 := S.keeps k3 (fun j hj => by rw [List.mem_singleton.1 hj]; omega)
     have pb3 : PB H3 ba B := pb.keeps k3 (fun j hj hm => by have := bo j hj; rw [List.mem_singleton.1 hm] at this; omega)
     have fc3 := F3.fc
     unfold fcs at fc3
     have rv3 := (F3.rowd (i := k) (by omega)).rv (P := Try.prog)
     rw [hLl] at rv3
     have le3 := rv3.le
     (refine Go.run (g:=?_))
     refine GoR.sliceV (lo' := some (.int .i64 1)) (hi' := none) (l := 1) (r := l.length - k) rfl rfl rfl rfl rfl rfl rfl rv3 rfl rfl (by omega) le3 ?_
     rw [Nat.mul_one, subA_add, Nat.sub_sub, Nat.sub_sub]
     (refine Go.run (g:=?_))
     refine Go.name ?_
     intro H4 e4
     have k4 : Keeps [fb] H3 H4 := by subst e4; exact (Keeps.rf _ _).pt (.inl (by simp)) _
     have g4 : H4.get fb = some (.cells (fcs cum next (subA ra (k + 1)) (l.length - (k + 1)) (rc - (k + 1)) rec unt) 62) := by subst e4; exact get_put_self fc3
     have n4 : H4.n = H3.n := by subst e4; rfl
     clear e4
     have F4 := F3.setF k4 g4
     have fb0 := AF.own.1
     refine Go.again (k + 1, H4) ⟨k0, F4, k4.get At3 (by simp; omega), S3.keeps k4 (fun j hj => by rw [List.mem_singleton.1 hj]; exact ⟨fb0, .inl hfb⟩), pb3.keeps k4 (fun j hj hm => by have := bo j hj; rw [List.mem_singleton.1 hm] at this; omega), fun x hx => ?_, by simp only; omega⟩ (by simp only; omega) ⟨rfl, rfl, rfl, rfl, rfl, trivial⟩ rfl rfl
     simp only at hx
     rw [htk] at hx
     rcases List.mem_append.1 hx with hx | hx
     · exact hdr x hx
     · rw [List.mem_singleton.1 hx]; exact hdt trivial
   ·
    (refine Go.run (g:=?_))
    exact Go.joined (k, H) ⟨⟨hk, AF, At, S, pb, hdr, htb⟩, fun q => by omega⟩ ⟨rfl, rfl, rfl, rfl, rfl, trivial⟩ rfl rfl
  case rest =>
   clear AF fcH A pb S At rv0
   rintro ⟨k, H⟩ ⟨⟨hk, AF, At, S, pb, hdr, htb⟩, hdn⟩
   simp only at hk AF At S pb hdr htb hdn ⊢
   have fcH := AF.fc
   unfold fcs at fcH
   have Scc := S.cc
   (refine Go.run (g:=?_))
   refine Go.name ?_
   intro H1 e1
   have k1 : Keeps [fb] H H1 := by subst e1; exact (Keeps.rf _ _).pt (.inl (by simp)) _
   have g1 : H1.get fb = some (.cells (fcs c next (subA ra k) (l.length - k) (rc - k) rec unt) 62) := by subst e1; exact get_put_self fcH
   have n1' : H1.n = H.n := by subst e1; rfl
   clear e1
   have fb0 := AF.own.1
   have F1 := AF.setF k1 g1
   have At1 := k1.get At (by simp; omega)
   have S1 := S.keeps k1 (fun j hj => by rw [List.mem_singleton.1 hj]; exact ⟨fb0, .inl hfb⟩)
   have pb1 : PB H1 ba B := pb.keeps k1 (fun j hj hm => by have := bo j hj; rw [List.mem_singleton.1 hm] at this; omega)
   clear AF fcH Scc
   refine Go.join1 (α := Bool × AHeap) (fun _ => [(0, .pointer (some ⟨fb, 0, none⟩)), (5, .pointer (some ⟨h.n, 0, none⟩)), (8, .pointer (some ⟨h.n + 2, 0, none⟩)), (11, .pointer (some ⟨h2.n, 0, none⟩)), (15, .slice ra m rc)]) (fun _ => []) (fun x => x.2) (fun x => FlW x.2 fb (fcs c next (subA ra k) (l.length - k) (rc - k) x.1 unt) ra rc L n0 ∧ x.2.get h2.n = some (.cells [.int .i64 (sumL FE.dl (l.take k) : Nat), .bool adv, .slice ba B.length B.length, .int .i64 pth, .int .u64 (tks : Nat), .slice none 0 0] 43) ∧ AS h.n c ga gc gs n0 x.2 ∧ PB x.2 ba B ∧ h2.n < x.2.n) ?first2 ?rest2
   case first2 =>
    have fc1 := F1.fc
    unfold fcs at fc1
    have Sc1 := S1.cc
    cases rec with
    | false =>
     refine Go.runN (g:=?_)
     refine Go.loud (by kernel_rfl) rfl ?_
     (refine Go.runL (g:=?_))
     refine GoL.store (off := 0 + 3) (n := 1) (v := .bool false) (l := [.bool false]) rfl rfl rfl rfl rfl fc1 rfl rfl (by simp) rfl rfl (.inl (by simp)) ?_
     refine GoL.endN (g:=?_)
     refine Go.name ?_
     intro H2 e2
     have k2 : Keeps [fb] H1 H2 := by subst e2; exact (Keeps.rf _ _).pt (.inl (by simp)) _
     have g2 : H2.get fb = some (.cells (fcs c next (subA ra k) (l.length - k) (rc - k) false unt) 62) := by subst e2; exact get_put_self fc1
     have n2 : H2.n = H1.n := by subst e2; rfl
     clear e2
     (refine Go.run (g:=?_))
     exact Go.joined (false, H2) ⟨F1.setF k2 g2, k2.get At1 (by simp; omega), S1.keeps k2 (fun j hj => by rw [List.mem_singleton.1 hj]; exact ⟨fb0, .inl hfb⟩), pb1.keeps k2 (fun j hj hm => by have := bo j hj; rw [List.mem_singleton.1 hm] at this; omega), by simp only; omega⟩ ⟨rfl, rfl, rfl, rfl, rfl, trivial⟩ rfl rfl
    | true =>
     have hbs := before_spec c unt hc hun H1
     refine Go.runN (g:=?_)
     refine Go.loud (by kernel_rfl) rfl ?_
     (refine Go.runL (g:=?_))
     refine GoL.call rfl rfl rfl rfl rfl rfl rfl ((hbs.argA).mono ?_)
     rintro _ H1' ⟨rfl, rfl⟩ -
     refine ⟨(fun j hj => by cases hj), ?_⟩
     (refine Go.runL (g:=?_))
     refine GoL.store (off := 0 + 3) (n := 1) (v := .bool (bef32 c unt)) (l := [.bool (bef32 c unt)]) rfl rfl rfl rfl rfl fc1 rfl rfl (by simp) rfl rfl (.inl (by simp)) ?_
     have hdis : ∀ b ∈ ([] : List Nat), b ≠ h.n := fun b hb => by cases hb
     have hdis2 := hdis
     refine GoL.endC (g:=?_)
     clear hdis hdis2
     refine Go.name ?_
     intro H2 e2
     have k2 : Keeps [fb] H1' H2 := by subst e2; exact (Keeps.rf _ _).pt (.inl (by simp)) _
     have g2 : H2.get fb = some (.cells (fcs c next (subA ra k) (l.length - k) (rc - k) (bef32 c unt) unt) 62) := by subst e2; exact get_put_self fc1
     have n2 : H2.n = H1'.n := by subst e2; rfl
     clear e2
     (refine Go.run (g:=?_))
     exact Go.joined (bef32 c unt, H2) ⟨F1.setF k2 g2, k2.get At1 (by simp; omega), S1.keeps k2 (fun j hj => by rw [List.mem_singleton.1 hj]; exact ⟨fb0, .inl hfb⟩), pb1.keeps k2 (fun j hj hm => by have := bo j hj; rw [List.mem_singleton.1 hm] at this; omega), by simp only; omega⟩ ⟨rfl, rfl, rfl, rfl, rfl, trivial⟩ rfl rfl
   case rest2 =>
    clear F1 At1 S1 pb1 At S pb g1
    rintro ⟨rec, H⟩ ⟨F1, At, S, pb, htb⟩
    simp only at F1 At S pb htb ⊢
    (refine Go.run (g:=?_))
    refine Go.loop (α := Nat × Option Addr × Nat × List Int × AHeap) (fun x => [(178, .int .i64 x.1), (177, .int .i64 m), (176, .slice ra m rc), (0, .pointer (some ⟨fb, 0, none⟩)), (8, .pointer (some ⟨h.n + 2, 0, none⟩)), (11, .pointer (some ⟨h2.n, 0, none⟩))]) (fun _ => []) (fun x => x.2.2.2.2) (fun x => x.1 ≤ m ∧ FlW x.2.2.2.2 fb (fcs c next (subA ra k) (l.length - k) (rc - k) rec unt) ra rc (mixL markE L x.1) n0 ∧ x.2.2.2.2.get h2.n = some (.cells [.int .i64 (sumL FE.dl (l.take k) : Nat), .bool adv, .slice ba B.length B.length, .int .i64 pth, .int .u64 (tks : Nat), .slice x.2.1 x.2.2.2.1.length x.2.2.1] 43) ∧ AS h.n c ga gc gs n0 x.2.2.2.2 ∧ PB x.2.2.2.2 ba B ∧ Sv x.2.2.2.2 3 1 x.2.1 x.2.2.2.1.length x.2.2.1 (i64s x.2.2.2.1) ∧ (∀ j ∈ blk x.2.1, h2.n < j) ∧ x.2.2.2.1.length ≤ x.1 ∧ h2.n < x.2.2.2.2.n) (fun x => m - x.1) (0, none, 0, [], H) ⟨Nat.zero_le _, by rw [mixL_zero]; exact F1, At, S, pb, .nil, (fun j hj => by cases hj), Nat.le_refl _, htb⟩ ⟨rfl, rfl, rfl, rfl, rfl, rfl, trivial⟩ rfl rfl ?_
    clear F1 At S pb
    rintro ⟨i, la, lc, ds, H⟩ ⟨hi, F1, At, S, pb, lv, lo, dn, htb⟩
    simp only at hi F1 At S pb lv lo dn htb ⊢
    have lvr := lv.rv (P := Try.prog)
    rcases Nat.lt_or_ge i m with i0 | i0
    ·
     have hLi : i < L.length := by omega
     have qm : i < (mixL markE L i).length := by rw [mixL_len]; exact hLi
     have em := mixL_at markE hLi
     have es := mixL_succ markE hLi
     have rvm := (F1.row.front (r := m) (by rw [mixL_len]; omega)).rv (P := Try.prog)
     rw [mixL_ptrs (fun e => (markE_b e).1)] at rvm
     have gp : ((ptrs L).take (m * 1))[i]? = some (.pointer (some ⟨L[i].b, 0, none⟩)) := by rw [List.getElem?_take_of_lt (by omega), ptrs_get hLi]
     have hpl : i < ((ptrs L).take (m * 1)).length := by rw [List.length_take, ptrs_len]; omega
     have en := F1.ent _ (List.getElem_mem qm)
     rw [em] at en
     have eb := hLb _ (List.getElem_mem hLi)
     have eo := F1.own.2.2 _ (List.getElem_mem qm)
     have emi := hLm _ (List.getElem_mem hLi)
     have ew := hLw _ (List.getElem_mem hLi)
     have hself : (mixL markE L i).set i L[i] = mixL markE L i := by
      conv => lhs; rw [← em]
      exact List.set_getElem_self _
     have hF : ∀ (H H' : AHeap), FlW H fb (fcs c next (subA ra k) (l.length - k) (rc - k) rec unt) ra rc (mixL markE L i) n0 → Keeps [L[i].b] H H' → H'.get L[i].b = some (.cells (markE L[i]).cs 66) → FlW H' fb (fcs c next (subA ra k) (l.length - k) (rc - k) rec unt) ra rc (mixL markE L (i + 1)) n0 := fun H H' F k g => by
      rw [es]
      exact F.upd qm (by rw [em]; exact (markE_b _).1) (by rw [em]; exact (markE_b _).2) (by rw [em]; exact k) (by rw [em]; exact g)
     rw [em] at eo
     generalize L[i] = e at *
     have en' := en
     unfold FE.cs at en'
     by_cases h0 : e.st = 0
     ·
      (refine Go.run (g:=?_))
      refine GoR.store (off := 0 + 10) (n := 1) (v := .int .i64 (e.missed + 1 : Nat)) (l := [.int .i64 (e.missed + 1 : Nat)]) rfl rfl rfl rfl rfl en' rfl rfl (by simp) rfl rfl (.inl (List.mem_cons_of_mem _ ew)) ?_
      refine GoR.name ?_
      intro H2 e2
      have k2 : Keeps [e.b] H H2 := by subst e2; exact (Keeps.rf _ _).pt (.inl (by simp)) _
      have n2 : H2.n = H.n := by subst e2; rfl
      have g2 : H2.get e.b = some (.cells [.int .u32 (e.tsn : Nat), .int .u8 (0 : Nat), .int .u16 (3 : Nat), .int .u16 (0 : Nat), .int .u32 (0 : Nat), .slice e.da e.dl e.dc, .int .i64 (e.path : Nat), .int .u64 (e.at_ : Nat), .int .i64 (e.st : Nat), .bool e.again, .int .i64 (e.missed + 1 : Nat)] 66) := by subst e2; exact get_put_self en'
      clear e2
      have neb : ∀ j, h.n ≤ j → j ∉ [e.b] := fun j hj hm => by rw [List.mem_singleton.1 hm] at hj; omega
      have At2 := k2.get At (neb _ (by omega))
      have S2 := S.keeps k2 (fun j hj => by rw [List.mem_singleton.1 hj]; exact ⟨eo, .inl eb⟩)
      have pb2 : PB H2 ba B := pb.keeps k2 (fun j hj => neb j (by have := bo j hj; omega))
      have lv2 := lv.keeps k2 (fun j hj => neb j (by have := lo j hj; omega))
      by_cases hm3 : e.missed + 1 < 3
      ·
       have hme : markE e = { e with missed := e.missed + 1 } := by unfold markE; rw [if_pos h0, if_pos (.inl hm3)]
       have F2 := hF H H2 F1 k2 (by rw [hme]; exact g2)
       (refine Go.run (g:=?_))
       exact Go.again (i + 1, la, lc, ds, H2) ⟨i0, F2, At2, S2, pb2, lv2, lo, by simp only; omega, by simp only; omega⟩ (by simp only; omega) ⟨rfl, rfl, rfl, rfl, rfl, rfl, trivial⟩ rfl rfl
      ·
       cases hag : e.again with
       | true =>
        have hme : markE e = { e with missed := e.missed + 1 } := by unfold markE; rw [if_pos h0, if_pos (.inr hag)]
        have F2 := hF H H2 F1 k2 (by rw [hme]; exact g2)
        rw [hag] at g2
        (refine Go.run (g:=?_))
        exact Go.again (i + 1, la, lc, ds, H2) ⟨i0, F2, At2, S2, pb2, lv2, lo, by simp only; omega, by simp only; omega⟩ (by simp only; omega) ⟨rfl, rfl, rfl, rfl, rfl, rfl, trivial⟩ rfl rfl
       | false =>
        have hme : markE e = { e with missed := e.missed + 1, st := 1 } := by unfold markE; rw [if_pos h0, if_neg (fun z => z.elim hm3 (fun q => by rw [hag] at q; cases q))]
        have g2' := g2
        rw [hag] at g2
        (refine Go.run (g:=?_))
        refine GoR.store (off := 0 + 8) (n := 1) (v := .int .i64 1) (l := [.int .i64 1]) rfl rfl rfl rfl rfl g2 rfl rfl (by simp) rfl rfl (.inl (List.mem_cons_of_mem _ ew)) ?_
        refine GoR.name ?_
        intro H3 e3
        have k3 : Keeps [e.b] H2 H3 := by subst e3; exact (Keeps.rf _ _).pt (.inl (by simp)) _
        have n3 : H3.n = H2.n := by subst e3; rfl
        have g3 : H3.get e.b = some (.cells (markE e).cs 66) := by subst e3; rw [hme]; unfold FE.cs; simp only [hag]; exact get_put_self g2
        clear e3 g2 g2'
        have F3 := hF H H3 F1 (k2.tr k3) g3
        have At3 := k3.get At2 (neb _ (by omega))
        have S3 := S2.keeps k3 (fun j hj => by rw [List.mem_singleton.1 hj]; exact ⟨eo, .inl eb⟩)
        have pb3 : PB H3 ba B := pb2.keeps k3 (fun j hj => neb j (by have := bo j hj; omega))
        have lv3 := lv2.keeps k3 (fun j hj => neb j (by have := lo j hj; omega))
        have lvr3 := lv3.rv (P := Try.prog)
        have fc3 := F3.fc
        unfold fcs at fc3
        have en3 := g3
        unfold FE.cs at en3
        have hp3 : (markE e).path = e.path := by rw [hme]
        rw [hp3] at en3
        cases rec with
        | true =>
         (refine Go.run (g:=?_))
         exact Go.again (i + 1, la, lc, ds, H3) ⟨i0, F3, At3, S3, pb3, lv3, lo, by simp only; omega, by simp only; omega⟩ (by simp only; omega) ⟨rfl, rfl, rfl, rfl, rfl, rfl, trivial⟩ rfl rfl
        | false =>
         (refine Go.run (g:=?_))
         refine GoR.call rfl rfl rfl rfl rfl rfl rfl (((contains_spec la lc ds e.path (by omega) _ lvr3).argA).mono ?_)
         rintro _ H4 ⟨bb, rfl⟩ s4
         have F4 := F3.same s4
         have At4 := s4.get At3
         have S4 := S3.same s4
         have pb4 := pb3.same s4
         have lv4 := lv3.same s4
         have en4 := s4.get en3
         have m4 := s4.1
         cases bb with
         | true =>
          (refine Go.run (g:=?_))
          exact Go.again (i + 1, la, lc, ds, H4) ⟨i0, F4, At4, S4, pb4, lv4, lo, by simp only; omega, by simp only; omega⟩ (by simp only; omega) ⟨rfl, rfl, rfl, rfl, rfl, rfl, trivial⟩ rfl rfl
         | false =>
          refine Go.runN (g:=?_)
          refine Go.loud (by kernel_rfl) rfl ?_
          (refine Go.runL (g:=?_))
          refine GoL.buildRo (c := [.int .i64 (e.path : Nat)]) rfl rfl rfl rfl rfl (by decide) (by rfl) (by rfl) ?_
          intro b5 H5 hb5 rb5 ob5 s5 n5
          refine GoL.appendV rfl rfl rfl rfl rfl rfl (lv4.same s5) hb5 (fun j hj => .inr (by have := lo j hj; omega)) (by omega) (by omega) (by rfl) ?_
          intro la' lc' H6 rd6 wr6 hwr6 hrd6 sv6 k6 o6
          have n6 := k6.1
          have At6 := k6.get (s5.get At4) (fun hm => by have := lo _ hm; omega)
          (refine Go.runL (g:=?_))
          refine GoL.store (off := 0 + 5) (n := 1) (v := .slice la' (ds.length + 1) lc') (l := [.slice la' (ds.length + 1) lc']) rfl rfl rfl rfl rfl At6 rfl rfl (by simp) rfl rfl (.inr (by omega)) ?_
          have hdis : ∀ b ∈ wr6, b ≠ h2.n ∧ b ≠ e.b ∧ b < H4.n := fun b hb => by
           have q1 := lo b (hwr6 b hb)
           have q2 := lv4.lt b (hwr6 b hb)
           omega
          have hdis2 := hdis
          refine GoL.endC (g:=?_)
          clear hdis hdis2
          refine Go.name ?_
          intro H7 e7
          have k7 : Keeps [h2.n] H6 H7 := by subst e7; exact (Keeps.rf _ _).pt (.inl (by simp)) _
          have n7 : H7.n = H6.n := by subst e7; rfl
          have At7 : H7.get h2.n = some (.cells [.int .i64 (sumL FE.dl (l.take k) : Nat), .bool adv, .slice ba B.length B.length, .int .i64 pth, .int .u64 (tks : Nat), .slice la' (ds.length + 1) lc'] 43) := by subst e7; exact get_put_self At6
          clear e7
          have lo' : ∀ j ∈ blk la', h2.n < j := fun j hj => (o6 j hj).elim (lo j) (fun q => by omega)
          have F7 : FlW H7 fb (fcs c next (subA ra k) (l.length - k) (rc - k) false unt) ra rc (mixL markE L (i + 1)) n0 := by
           have Fa := (F4.same s5).keeps k6 (fun j hj => by rw [sv_tyF (lv4.same s5) j hj]; decide)
           exact Fa.keepsL k7 At6 (fun c t e => by cases e; decide)
          have S7 := ((S4.same s5).keeps k6 (fun j hj => by have := lo j hj; omega)).keeps k7 (fun j hj => by rw [List.mem_singleton.1 hj]; omega)
          have pb7 : PB H7 ba B := by
           have p5 := pb4.same s5
           have p6 := p5.keeps k6 (fun j hj hm => by
            have e1 := sv_tyF p5.sv j hj
            rw [sv_tyF (lv4.same s5) j hm] at e1; cases e1)
           exact p6.keeps k7 (fun j hj hm => by have := bo j hj; rw [List.mem_singleton.1 hm] at this; omega)
          have lv7 : Sv H7 3 1 la' (ds ++ [(e.path : Int)]).length lc' (i64s (ds ++ [(e.path : Int)])) := by
           have := sv6.keeps k7 (fun j hj hm => by have := lo' j hj; rw [List.mem_singleton.1 hm] at this; omega)
           rw [List.length_append]
           simpa [i64s] using this
          rw [show ds.length + 1 = (ds ++ [(e.path : Int)]).length from by simp] at At7
          (refine Go.run (g:=?_))
          exact Go.again (i + 1, la', lc', ds ++ [(e.path : Int)], H7) ⟨i0, F7, At7, S7, pb7, lv7, lo', by simp only [List.length_append, List.length_singleton]; omega, by simp only; omega⟩ (by simp only; omega) ⟨rfl, rfl, rfl, rfl, rfl, rfl, trivial⟩ rfl rfl
     ·
      have hme : markE e = e := by unfold markE; rw [if_neg h0]
      rw [hme, hself] at es
      (refine Go.run (g:=?_))
      exact Go.again (i + 1, la, lc, ds, H) ⟨i0, by rw [es]; exact F1, At, S, pb, lv, lo, by simp only; omega, htb⟩ (by simp only; omega) ⟨rfl, rfl, rfl, rfl, rfl, rfl, trivial⟩ rfl rfl
    ·
     obtain rfl : i = m := by omega
     (refine Go.run (g:=?_))
     refine GoR.callW rfl rfl rfl rfl rfl rfl rfl (((sorti_spec la lc ds (by omega) _ lv).argA).mono ?_)
     rintro _ H2 ⟨rfl, es, hes, lv2⟩ k2
     refine ⟨fun j hj => .inr (by have := lo j hj; omega), ?_⟩
     have m2' := k2.1
     have F2 := F1.keeps k2 (fun j hj => by rw [sv_tyF lv j hj]; decide)
     have At2 := k2.get At (fun hm => by have := lo _ hm; omega)
     have S2 := S.keeps k2 (fun j hj => by have := lo j hj; omega)
     have pb2 : PB H2 ba B := pb.keeps k2 (fun j hj hm => by
      have e1 := sv_tyF pb.sv j hj
      rw [sv_tyF lv j hm] at e1; cases e1)
     have fc2 := F2.fc
     unfold fcs at fc2
     have r2 := S2.r
     have hlenm : (mixL markE L i).length = l.length := by rw [mixL_len, hLl]
     have hd32 := d32 next hnx
     clear F1 At S pb lv lvr
     have fin : ∀ (H3 : AHeap) (rec' : Bool) (unt' : Nat), unt' < 4294967296 → FlW H3 fb (fcs c next (subA ra k) (l.length - k) (rc - k) rec' unt') ra rc (mixL markE L i) n0 → PB H3 ba B → AckO h H3 fb cum next ra rc l n0 c gs (.tuple #[.agg #[.int .i64 (sumL FE.dl (l.take k) : Nat), .bool adv, .slice ba B.length B.length, .int .i64 pth, .int .u64 (tks : Nat), .slice la ds.length lc], .int .i64 0]) := fun H3 rec' unt' hu F3 P3 => by
      refine ⟨k, i, _, ba, B, pth, tks, la, ds.length, lc, rec', unt', by rw [hae], P3, ok, hk, hm, ?_, rfl, hdr, hdn, hu, fun ha => ?_⟩
      ·
       rw [← hlenm] at F3
       have := F3.o (by rw [hlenm]; exact hk)
       rw [hL] at this
       exact this
      ·
       obtain ⟨q1, q2, q3⟩ := nn ha
       exact ⟨q1, q2, q3, by omega⟩
     rcases Nat.eq_zero_or_pos ds.length with z0 | z0
     ·
      (refine Go.run (g:=?_))
      refine Go.name ?_
      intro H3 e3
      have k3 : Keeps [h.n + 2] H2 H3 := by subst e3; exact (Keeps.rf _ _).pt (.inl (by simp)) _
      have r3 : H3.get (h.n + 2) = some (.cells [.int .i64 (sumL FE.dl (l.take k) : Nat), .bool adv, .slice ba B.length B.length, .int .i64 pth, .int .u64 (tks : Nat), .slice la ds.length lc] 43) := by subst e3; exact get_put_self r2
      clear e3
      refine Go.fin (.inr rfl) (.cellN rfl inferInstance r3 (by simp) rfl (.tmp rfl .nil)) ?_
      exact fin H3 rec unt hun (F2.keepsL k3 r2 (fun c t e => by cases e; decide)) (pb2.keeps k3 (fun j hj hm => by have := bo j hj; rw [List.mem_singleton.1 hm] at this; omega))
     ·
      (refine Go.run (g:=?_))
      refine GoR.bin rfl rfl rfl rfl rfl rfl hd32 ?_
      (refine Go.run (g:=?_))
      refine Go.name ?_
      intro H3 e3
      obtain ⟨Ha, ga, ka, kb⟩ : ∃ Ha : AHeap, Ha.get fb = some (.cells (fcs c next (subA ra k) (l.length - k) (rc - k) true ((next + 4294967295) % 4294967296)) 62) ∧ Keeps [fb] H2 Ha ∧ H3 = Ha.put (h.n + 2) (some (.cells [.int .i64 (sumL FE.dl (l.take k) : Nat), .bool adv, .slice ba B.length B.length, .int .i64 pth, .int .u64 (tks : Nat), .slice la ds.length lc] 43)) := ⟨_, get_put_self (get_put_self fc2), ((Keeps.rf _ _).pt (.inl (by simp)) _).pt (.inl (by simp)) _, e3⟩
      clear e3
      have ra2 := ka.get r2 (by simp; omega)
      have k3 : Keeps [h.n + 2] Ha H3 := by subst kb; exact (Keeps.rf _ _).pt (.inl (by simp)) _
      have r3 : H3.get (h.n + 2) = some (.cells [.int .i64 (sumL FE.dl (l.take k) : Nat), .bool adv, .slice ba B.length B.length, .int .i64 pth, .int .u64 (tks : Nat), .slice la ds.length lc] 43) := by subst kb; exact get_put_self ra2
      clear kb
      refine Go.fin (.inr rfl) (.cellN rfl inferInstance r3 (by simp) rfl (.tmp rfl .nil)) ?_
      exact fin H3 true ((next + 4294967295) % 4294967296) (Nat.mod_lt _ (by decide)) ((F2.setF ka ga).keepsL k3 ra2 (fun c t e => by cases e; decide)) ((pb2.keeps ka (fun j hj hm => by have := bo j hj; rw [List.mem_singleton.1 hm] at this; omega)).keeps k3 (fun j hj hm => by have := bo j hj; rw [List.mem_singleton.1 hm] at this; omega))
end Go.Proofs.Ytfdglljlenkkbaa
namespace Go.Proofs.Ytfdglljlenkkbaa
set_option maxRecDepth 100000
attribute [local irreducible] Go GoR GoL
def zAk : List Value := [.int .i64 0, .bool false, .slice none 0 0, .int .i64 0, .int .u64 0, .slice none 0 0]
set_option maxHeartbeats 16000000 in
theorem ackerr_spec (fb cum next : Nat) (ra : Option Addr) (rc : Nat) (l : List FE) (rec : Bool) (unt n0 c now : Nat) (ga : Option Addr) (gc : Nat) (gs : List (Nat × Nat)) (hmay : mayB cum next c gs = false) (hc : c < 4294967296) (hcum : cum < 4294967296) (hnx : next < 4294967296) (hgs : ∀ g ∈ gs, g.1 < 65536 ∧ g.2 < 65536) (hgl : gs.length ≤ 1000) (h : AHeap) (F : FlO h fb cum next ra rc l rec unt n0) (hz : Rv Try.prog h 2 ga gs.length gc (gcs gs)) : CallS Try.prog [] 12 [.pointer (some ⟨fb, 0, none⟩), .int .u32 (c : Nat), .slice ga gs.length gc, .int .u64 (now : Nat)] h fun v h' => v = .tuple #[.agg zAk.toArray, .int .i64 2] := by
 (refine CallS.of4 Try.func12 rfl Try.ntmps12 Try.results12 rfl ?_)
 (refine Go.run (g:=?_))
 refine GoR.name ?_
 intro h1 e1
 have s1 : Same h h1 := by subst e1; exact (((Same.refl h).push _).push _).push _
 have n1 : h1.n = h.n + 3 := by subst e1; rfl
 have c1 : h1.get h.n = some (.cells [.int .u32 (c : Nat)] 22) := by subst e1; exact get_push_lt (get_push_lt (AHeap.get_push_same h _))
 have g1 : h1.get (h.n + 1) = some (.cells [.slice ga gs.length gc] 29) := by subst e1; exact get_push_lt (AHeap.get_push_same (h.push _) _)
 have r1 : h1.get (h.n + 2) = some (.cells [.int .i64 0, .bool false, .slice none 0 0, .int .i64 0, .int .u64 0, .slice none 0 0] 43) := by subst e1; exact AHeap.get_push_same ((h.push _).push _) _
 clear e1
 rw [show (h.push (AObj.cells [.int .u32 (c : Nat)] 22)).n = h.n + 1 from rfl, show ((h.push (AObj.cells [.int .u32 (c : Nat)] 22)).push (AObj.cells [.slice ga gs.length gc] 29)).n = h.n + 2 from rfl]
 refine GoR.eqRef rfl rfl rfl rfl (.inl rfl) rfl rfl (aEq_nilF flU _) ?_
 have F1 := F.same s1
 have hz1 := hz.same s1
 (refine Go.run (g:=?_))
 refine GoR.call rfl rfl rfl rfl rfl rfl rfl (((may_spec fb cum next ra rc l rec unt n0 c ga gc gs hc hcum hnx hgs hgl _ F1 hz1).argA).mono ?_)
 rintro _ h2 rfl s2
 rw [hmay]
 have r2 := s2.get r1
 (refine Go.run (g:=?_))
 refine Go.name ?_
 intro h3 e3
 have r3 : h3.get (h.n + 2) = some (.cells [.int .i64 0, .bool false, .slice none 0 0, .int .i64 0, .int .u64 0, .slice none 0 0] 43) := by subst e3; exact get_put_self r2
 clear e3
 refine Go.fin (.inr rfl) (.cellN rfl inferInstance r3 (by simp) rfl (.tmp rfl .nil)) ?_
 rfl
structure DV where
 kind : Nat
 size : Nat
 off : Nat
 path : Int
 next : Int
 cc : Int
 ga : Option Addr
 gc : Nat
 gs : List (Nat × Nat)
 now : Nat
def DV.cs (x : DV) : List Value := [.int .u8 (x.kind : Nat), .int .u8 (x.size : Nat), .int .u8 (x.off : Nat), .int .i64 x.path, .int .i64 x.next, .int .i32 x.cc, .slice x.ga x.gs.length x.gc, .int .u64 (x.now : Nat)]
def dvs (l : List DV) : List Value := (l.map DV.cs).flatten
theorem dvs_cons (x : DV) (l : List DV) : dvs (x :: l) = x.cs ++ dvs l := rfl
theorem dvs_len (l : List DV) : (dvs l).length = l.length * 8 := by
 induction l with
 | nil => rfl
 | cons x l ih => rw [dvs_cons, List.length_append, ih, List.length_cons]; show 8 + _ = _; omega
theorem dvs_get : ∀ {l : List DV} {i : Nat} (hi : i < l.length), ((dvs l).drop (i * 8)).take 8 = l[i].cs
 | x :: l, 0, _ => rfl
 | x :: l, i + 1, hi => by
  have := dvs_get (l := l) (i := i) (by simpa using hi)
  rw [show (i + 1) * 8 = i * 8 + 1 + 1 + 1 + 1 + 1 + 1 + 1 + 1 by omega]
  exact this
structure DOk (h : AHeap) (la : Option Addr) (lc : Nat) (l : List DV) : Prop where
 row : Rv Try.prog h 8 la l.length lc (dvs l)
 g : ∀ x ∈ l, Rv Try.prog h 2 x.ga x.gs.length x.gc (gcs x.gs)
 b : ∀ x ∈ l, x.kind < 256 ∧ x.size < 256 ∧ x.off < 256 ∧ x.now < 18446744073709551616 ∧ -9223372036854775808 ≤ x.path ∧ x.path < 9223372036854775808 ∧ -9223372036854775808 ≤ x.next ∧ x.next < 9223372036854775808 ∧ -2147483648 ≤ x.cc ∧ x.cc < 2147483648 ∧ ∀ g ∈ x.gs, g.1 < 65536 ∧ g.2 < 65536
theorem DOk.same {h h' : AHeap} {la : Option Addr} {lc : Nat} {l : List DV} (k : DOk h la lc l) (s : Same h h') : DOk h' la lc l := ⟨k.row.same s, fun x hx => (k.g x hx).same s, k.b⟩
def heavyD (l : List DV) : Bool := l.any (fun x => decide (100 < x.gs.length)) || decide (300 < l.length)
end Go.Proofs.Ytfdglljlenkkbaa
namespace Go.Proofs.Ytfdglljlenkkbaa
set_option maxRecDepth 100000
attribute [local irreducible] Go GoR GoL
set_option maxHeartbeats 16000000 in
theorem heavy18_spec (la : Option Addr) (lc : Nat) (l : List DV) (hl : l.length ≤ 140737488355328) (h : AHeap) (D : DOk h la lc l) : CallS Try.prog [] 5 [.slice la l.length lc] h fun v h' => v = .bool (heavyD l) := by
 (refine CallS.of1 Try.func5 rfl Try.ntmps5 Try.results5 rfl ?_)
 (refine Go.run (g:=?_))
 refine Go.loop (α := Nat × AHeap) (fun x => [(7, .int .i64 x.1), (6, .int .i64 l.length), (5, .slice la l.length lc), (0, .slice la l.length lc)]) (fun _ => []) (fun x => x.2) (fun x => x.1 ≤ l.length ∧ Same h x.2 ∧ (l.take x.1).any (fun x => decide (100 < x.gs.length)) = false) (fun x => l.length - x.1) (0, h) ⟨Nat.zero_le _, .refl h, rfl⟩ ⟨rfl, rfl, rfl, rfl, trivial⟩ rfl rfl ?_
 rintro ⟨i, H⟩ ⟨hi, sH, hno⟩
 simp only at hi sH hno ⊢
 rcases Nat.lt_or_ge i l.length with i0 | i0
 ·
  have rvH := (D.same sH).row
  have mH := sH.1
  have c0 := dvs_get i0
  have hb2 : i * 8 + 8 ≤ (dvs l).length := by rw [dvs_len]; omega
  have hb3 : i * 8 < (dvs l).length := by rw [dvs_len]; omega
  have htk : l.take (i + 1) = l.take i ++ [l[i]] := by simp
  have hdr : ∀ p : DV → Bool, l.any p = ((l.take i).any p || (p l[i] || (l.drop (i + 1)).any p)) := fun p => by
   have e : l = l.take i ++ l[i] :: l.drop (i + 1) := by rw [← List.drop_eq_getElem_cons i0, List.take_append_drop]
   exact (congrArg (List.any · p) e).trans (by rw [List.any_append, List.any_cons])
  generalize l[i] = x at *
  unfold DV.cs at c0
  have hno' : True → _ := fun _ => hno
  have hdr' : True → _ := fun _ => hdr
  have htk' : True → _ := fun _ => htk
  clear hno hdr htk D
  rcases Nat.lt_or_ge 100 x.gs.length with w0 | w0
  ·
   (refine Go.run (g:=?_))
   (first|refine Go.finA rfl ?_|refine Go.finB rfl (hq:=?_))
   unfold heavyD
   rw [hdr' trivial, decide_eq_true w0]; simp; rfl
  ·
   (refine Go.run (g:=?_))
   refine Go.name ?_
   intro H2 e2
   have s2 : Same H H2 := by subst e2; exact ((Same.refl H).push _).put (Nat.le_refl _) _
   clear e2
   refine Go.again (i + 1, H2) ⟨i0, sH.trans s2, ?_⟩ (by simp only; omega) ⟨rfl, rfl, rfl, rfl, trivial⟩ rfl rfl
   simp only
   rw [htk' trivial, List.any_append, hno' trivial]; simp; omega
 ·
  rw [List.take_of_length_le i0] at hno
  (refine Go.run (g:=?_))
  (first|refine Go.finA rfl ?_|refine Go.finB rfl (hq:=?_))
  unfold heavyD
  rw [hno, Bool.false_or]
  exact congrArg Value.bool (decide_eq_decide.2 (by omega))
end Go.Proofs.Ytfdglljlenkkbaa
namespace Go.Proofs.Ytfdglljlenkkbaa
set_option maxRecDepth 100000
attribute [local irreducible] Go GoR GoL
theorem a32 (a b : Nat) : iBin .add .u32 (a : Int) (b : Int) = some (.int .u32 (((a + b) % 4294967296 : Nat) : Int)) := by
 have q : (((a + b) % 4294967296 : Nat) : Int) = ((a : Int) + (b : Int)) % 4294967296 := by omega
 simp [iBin, IntKind.wrap, IntKind.bits, IntKind.signed, q]
set_option maxHeartbeats 16000000 in
theorem piece_spec (nx : Nat) (x : DV) (hs : x.size < 256) (ho : x.off < 256) (h : AHeap) : CallS Try.prog [] 8 [.int .u32 (nx : Nat), .agg x.cs.toArray] h fun v h' => ∃ a c, v = .agg (pcs ((nx + x.off) % 4294967296) a x.size c).toArray ∧ Sv h' 5 1 a x.size c (List.replicate x.size (.int .u8 0)) := by
 have hadd := a32 nx x.off
 unfold DV.cs
 (refine CallS.of2 Try.func8 rfl Try.ntmps8 Try.results8 rfl ?_)
 refine Go.runN (g:=?_)
 refine Go.loud (by kernel_rfl) rfl ?_
 (refine Go.runL (g:=?_))
 refine GoL.bin rfl rfl rfl rfl rfl rfl hadd ?_
 (refine Go.runL (g:=?_))
 refine GoL.makeN rfl rfl rfl rfl rfl rfl (Nat.le_refl _) (by omega) (by omega) ?_
 refine GoL.name ?_
 intro h3 e3
 have n3 : h3.n = h.n + 3 := by subst e3; rfl
 have z3 : h3.get (h.n + 2) = some (.cells (List.replicate x.size (.int .u8 0)) 5) := by subst e3; exact AHeap.get_push_same ((h.push _).push _) _
 have p3 : h3.get (h.n + 1) = some (.cells [.int .u32 0, .int .u8 0, .int .u16 0, .int .u16 0, .int .u32 0, .slice none 0 0] 36) := by subst e3; exact get_push_lt (AHeap.get_push_same (h.push _) _)
 clear e3
 (refine Go.runL (g:=?_))
 refine GoL.store (off := 0) (n := 6) (v := .agg #[.int .u32 ((nx + x.off) % 4294967296 : Nat), .int .u8 0, .int .u16 3, .int .u16 0, .int .u32 0, .slice (some ⟨h.n + 2, 0, none⟩) x.size x.size]) (l := [.int .u32 ((nx + x.off) % 4294967296 : Nat), .int .u8 0, .int .u16 3, .int .u16 0, .int .u32 0, .slice (some ⟨h.n + 2, 0, none⟩) x.size x.size]) rfl rfl rfl rfl rfl p3 rfl rfl (by simp) rfl rfl (.inr (Nat.le_succ _)) ?_
 refine GoL.endN (g:=?_)
 refine Go.name ?_
 intro h4 e4
 have k4 : Keeps [h.n + 1] h3 h4 := by subst e4; exact (Keeps.rf _ _).pt (.inl (by simp)) _
 have p4 : h4.get (h.n + 1) = some (.cells (pcs ((nx + x.off) % 4294967296) (some ⟨h.n + 2, 0, none⟩) x.size x.size) 36) := by subst e4; exact get_put_self p3
 clear e4
 have z4 := k4.get z3 (by simp)
 (refine Go.run (g:=?_))
 refine Go.fin (.inr rfl) (.cellN rfl inferInstance p4 (by simp [pcs]) rfl .nil) ?_
 exact ⟨some ⟨h.n + 2, 0, none⟩, x.size, rfl, .mk z4 (by simp) (Nat.le_refl _) (by rw [List.drop_zero, List.take_of_length_le (by simp)])⟩
end Go.Proofs.Ytfdglljlenkkbaa
namespace Go.Proofs.Ytfdglljlenkkbaa
open Go.RowKit
set_option maxRecDepth 100000
def asB18 : Value → AHeap → List Nat → Option Bool
 | .bool b, _, _ => some b
 | _, _, _ => none
theorem asB18_true {v : Value} {h : AHeap} {wr : List Nat} (e : asB18 v h wr = some true) : v = .bool true := by
 unfold asB18 at e
 split at e
 · cases e; rfl
 · cases e
theorem works18Run : callK (A := Bool) Try.prog noS (fev Try.prog noS 50000) 6 [] emptyH asB18 = some true := by kernel_rfl
theorem works18 (h : AHeap) : CallS Try.prog [] 6 [] h fun u h' => u = .bool true ∧ h' = h := by
 obtain ⟨v, h', wr, hc, he⟩ := callRun_of (noS_ok _) works18Run
 obtain rfl := asB18_true he
 exact CallS.known noGlobals hc rfl h
end Go.Proofs.Ytfdglljlenkkbaa
namespace Go.Proofs.Ytfdglljlenkkbaa
def ky (e : FE) : Nat × Nat := (e.tsn, e.dl)
def keyL : Nat → List Nat → List (Nat × Nat)
 | _, [] => []
 | a, z :: zs => (a % 4294967296, z) :: keyL (a + 1) zs
theorem keyL_len : ∀ (a : Nat) (zs : List Nat), (keyL a zs).length = zs.length
 | _, [] => rfl
 | a, z :: zs => by simp [keyL, keyL_len (a + 1) zs]
theorem keyL_drop : ∀ (k a : Nat) (zs : List Nat), (keyL a zs).drop k = keyL (a + k) (zs.drop k)
 | 0, a, zs => by simp
 | k + 1, a, [] => by simp [keyL]
 | k + 1, a, z :: zs => by
  simp only [keyL, List.drop_succ_cons]
  rw [keyL_drop k (a + 1) zs, show a + 1 + k = a + (k + 1) from by omega]
theorem keyL_snoc : ∀ (a : Nat) (zs : List Nat) (z : Nat), keyL a (zs ++ [z]) = keyL a zs ++ [((a + zs.length) % 4294967296, z)]
 | a, [], z => by simp [keyL]
 | a, y :: zs, z => by
  simp only [List.cons_append, keyL, keyL_snoc (a + 1) zs z, List.length_cons]
  rw [show a + 1 + zs.length = a + (zs.length + 1) from by omega]
theorem keyL_get : ∀ (a : Nat) (zs : List Nat) (j : Nat) (q : j < (keyL a zs).length), ((keyL a zs)[j]).1 = (a + j) % 4294967296
 | a, [], j, q => by simp [keyL] at q
 | a, z :: zs, 0, q => by simp [keyL]
 | a, z :: zs, j + 1, q => by
  simp only [keyL, List.getElem_cons_succ]
  rw [keyL_get (a + 1) zs j, show a + 1 + j = a + (j + 1) from by omega]
structure EOk (M : Nat) (e : FE) : Prop where
 d0 : 0 < e.dl
 d1 : e.dl ≤ 255
 p : e.path < 9223372036854775808
 a : e.at_ < 18446744073709551616
 m : e.missed ≤ M
structure PI (T : Nat) (zs : List Nat) (n cum next : Nat) (fl : List FE) (M : Nat) : Prop where
 n1 : n ≤ zs.length
 cum : cum = (T + n + 4294967295) % 4294967296
 nx : next = (T + zs.length) % 4294967296
 key : fl.map ky = keyL (T + n) (zs.drop n)
 ok : ∀ e ∈ fl, EOk M e
 z1 : ∀ z ∈ zs, z ≤ 255
section
variable {T : Nat} {zs : List Nat} {n cum next : Nat} {fl : List FE} {M : Nat}
theorem PI.len (k : PI T zs n cum next fl M) : fl.length = zs.length - n := by
 have := congrArg List.length k.key
 rwa [List.length_map, keyL_len, List.length_drop] at this
theorem PI.ts (k : PI T zs n cum next fl M) {j : Nat} (q : j < fl.length) : fl[j].tsn = (T + n + j) % 4294967296 := by
 have hq : j < (keyL (T + n) (zs.drop n)).length := by rw [← k.key, List.length_map]; exact q
 have h1 := keyL_get (T + n) (zs.drop n) j hq
 have h2 : (fl.map ky)[j]'(by rw [List.length_map]; exact q) = (keyL (T + n) (zs.drop n))[j] := by simp only [k.key]
 rw [List.getElem_map] at h2
 rw [← h2] at h1
 exact h1
theorem PI.lt (k : PI T zs n cum next fl M) : cum < 4294967296 ∧ next < 4294967296 ∧ ∀ e ∈ fl, e.tsn < 4294967296 := by
 refine ⟨by rw [k.cum]; exact Nat.mod_lt _ (by decide), by rw [k.nx]; exact Nat.mod_lt _ (by decide), fun e he => ?_⟩
 obtain ⟨j, q, rfl⟩ := List.getElem_of_mem he
 rw [k.ts q]; exact Nat.mod_lt _ (by decide)
theorem PI.nil (T : Nat) (hT : T < 4294967296) : PI T [] 0 ((T + 4294967295) % 4294967296) T [] 0 := ⟨Nat.le_refl _, rfl, by simp [Nat.mod_eq_of_lt hT], rfl, (fun e he => by cases he), (fun e he => by cases he)⟩
theorem PI.mono (k : PI T zs n cum next fl M) {M' : Nat} (h : M ≤ M') : PI T zs n cum next fl M' := ⟨k.n1, k.cum, k.nx, k.key, fun e he => ⟨(k.ok e he).d0, (k.ok e he).d1, (k.ok e he).p, (k.ok e he).a, Nat.le_trans (k.ok e he).m h⟩, k.z1⟩
theorem PI.sent (k : PI T zs n cum next fl M) {e : FE} (ht : e.tsn = next) (ho : EOk M e) : PI T (zs ++ [e.dl]) n cum ((next + 1) % 4294967296) (fl ++ [e]) M := by
 have n1 := k.n1
 refine ⟨by rw [List.length_append]; omega, k.cum, ?_, ?_, fun x hx => ?_, fun z hz => ?_⟩
 · rw [k.nx, List.length_append, List.length_singleton]; omega
 ·
  rw [List.map_append, k.key, List.drop_append_of_le_length n1, keyL_snoc]
  congr 1
  simp only [List.map_cons, List.map_nil, ky, ht, k.nx, List.length_drop]
  rw [show T + n + (zs.length - n) = T + zs.length from by omega]
 ·
  rcases List.mem_append.1 hx with hx | hx
  · exact k.ok x hx
  · rw [List.mem_singleton.1 hx]; exact ho
 ·
  rcases List.mem_append.1 hz with hz | hz
  · exact k.z1 z hz
  · rw [List.mem_singleton.1 hz]; exact ho.d1
theorem PI.same (k : PI T zs n cum next fl M) {fl' : List FE} (h : fl'.map ky = fl.map ky) {M' : Nat} (ho : ∀ e ∈ fl', EOk M' e) : PI T zs n cum next fl' M' := ⟨k.n1, k.cum, k.nx, h.trans k.key, ho, k.z1⟩
theorem may_d {C c len : Nat} {gs : List (Nat × Nat)} (hC : C < 4294967296) (hc : c < 4294967296) (hl : len ≤ 1000) (h : mayB C ((C + 1 + len) % 4294967296) c gs = true) : spanN C c ≤ len := by
 unfold mayB bef32 at h
 simp only [Bool.and_eq_true, Bool.not_eq_true', Bool.and_eq_false_iff, decide_eq_true_eq, decide_eq_false_iff_not] at h
 obtain ⟨h1, ⟨h2, h3⟩, -⟩ := h
 unfold spanN at *
 omega
theorem drp_at {T n c j t cum : Nat} (hcum : cum = (T + n + 4294967295) % 4294967296) (hc : c < 4294967296) (ht : t = (T + n + j) % 4294967296) (hd : spanN cum c ≤ 1000) (hj : j ≤ 1000) : (2147483648 ≤ spanN 1 (spanN c t)) ↔ j < spanN cum c := by
 unfold spanN at *
 omega
theorem ackE_ky (c : Nat) (gs : List (Nat × Nat)) (e : FE) : ky (ackE c gs e) = ky e := by unfold ackE; split <;> rfl
theorem markE_ky (e : FE) : ky (markE e) = ky e := by unfold markE; split <;> (try split) <;> rfl
theorem ackE_ok {c : Nat} {gs : List (Nat × Nat)} {e : FE} (h : EOk M e) : EOk M (ackE c gs e) := by unfold ackE; split <;> exact ⟨h.d0, h.d1, h.p, h.a, h.m⟩
theorem markE_ok {e : FE} (h : EOk M e) : EOk (M + 1) (markE e) := by
 have := h.m
 unfold markE
 split
 · split <;> exact ⟨h.d0, h.d1, h.p, h.a, by simp only; omega⟩
 · exact ⟨h.d0, h.d1, h.p, h.a, by omega⟩
def ackL (c : Nat) (gs : List (Nat × Nat)) (m k : Nat) (fl : List FE) : List FE := (mixL markE (fl.map (ackE c gs)) m).drop k
theorem ackL_ky (c : Nat) (gs : List (Nat × Nat)) (m k : Nat) (fl : List FE) : (ackL c gs m k fl).map ky = (fl.map ky).drop k := by
 unfold ackL mixL
 rw [List.map_drop, List.map_append, List.map_map, ← List.map_take, ← List.map_drop, List.map_map, List.map_map]
 have e1 : (ky ∘ markE) ∘ ackE c gs = ky := by funext e; simp only [Function.comp, markE_ky, ackE_ky]
 have e2 : ky ∘ ackE c gs = ky := by funext e; simp only [Function.comp, ackE_ky]
 rw [e1, e2, ← List.map_append, List.take_append_drop]
theorem ackL_ok {c : Nat} {gs : List (Nat × Nat)} {m k : Nat} (h : ∀ e ∈ fl, EOk M e) : ∀ e ∈ ackL c gs m k fl, EOk (M + 1) e := fun e he => by
 unfold ackL mixL at he
 have he := List.mem_of_mem_drop he
 rcases List.mem_append.1 he with he | he
 ·
  obtain ⟨x, hx, rfl⟩ := List.mem_map.1 he
  obtain ⟨y, hy, rfl⟩ := List.mem_map.1 (List.mem_of_mem_take hx)
  exact markE_ok (ackE_ok (h y hy))
 ·
  obtain ⟨y, hy, rfl⟩ := List.mem_map.1 (List.mem_of_mem_drop he)
  have := ackE_ok (c := c) (gs := gs) (h y hy)
  exact ⟨this.d0, this.d1, this.p, this.a, Nat.le_succ_of_le this.m⟩
theorem PI.dropK (K : PI T zs n cum next fl M) (hz : zs.length ≤ 1000) {c : Nat} (hc : c < 4294967296) {gs : List (Nat × Nat)} (hm : mayB cum next c gs = true) {k : Nat} (h1 : k ≤ fl.length) (h2 : ∀ e ∈ fl.take k, drpB c e = true) (h3 : ∀ q : k < fl.length, drpB c fl[k] = false) : k = spanN cum c ∧ spanN cum c ≤ fl.length := by
 have hl := K.len
 have n1 := K.n1
 have hn : next = (cum + 1 + fl.length) % 4294967296 := by rw [K.nx, K.cum]; omega
 rw [hn] at hm
 have hd := may_d K.lt.1 hc (by omega) hm
 refine ⟨?_, hd⟩
 rcases Nat.lt_trichotomy k (spanN cum c) with q | q | q
 ·
  have q' : k < fl.length := by omega
  have := h3 q'
  unfold drpB at this
  rw [decide_eq_false_iff_not] at this
  exact absurd ((drp_at K.cum hc (K.ts q') (by omega) (by omega)).2 q) this
 · exact q
 ·
  have q' : spanN cum c < fl.length := by omega
  have := h2 fl[spanN cum c] (by rw [List.mem_iff_getElem]; exact ⟨spanN cum c, by rw [List.length_take]; omega, by simp⟩)
  unfold drpB at this
  rw [decide_eq_true_iff] at this
  have := (drp_at K.cum hc (K.ts q') (by omega) (by omega)).1 this
  omega
theorem PI.ack (K : PI T zs n cum next fl M) {c : Nat} (hc : c < 4294967296) (gs : List (Nat × Nat)) (m : Nat) (h1 : spanN cum c ≤ fl.length) : PI T zs (n + spanN cum c) c next (ackL c gs m (spanN cum c) fl) (M + 1) := by
 have hl := K.len
 have n1 := K.n1
 refine ⟨by omega, ?_, K.nx, ?_, ackL_ok K.ok, K.z1⟩
 ·
  have := K.cum
  have hcl := K.lt.1
  unfold spanN at *
  omega
 · rw [ackL_ky, K.key, keyL_drop, List.drop_drop, Nat.add_assoc]
end
end Go.Proofs.Ytfdglljlenkkbaa
namespace Go.Proofs.Ytfdglljlenkkbaa
theorem sumL_map (f : FE → Nat) (g : FE → FE) (l : List FE) : sumL f (l.map g) = sumL (fun e => f (g e)) l := by
 induction l with
 | nil => rfl
 | cons e l ih => simp [sumL, ih]
theorem sumL_mono {f g : FE → Nat} {l : List FE} (h : ∀ e ∈ l, f e ≤ g e) : sumL f l ≤ sumL g l := by
 induction l with
 | nil => exact Nat.le_refl _
 | cons e l ih =>
  have h1 := h e (List.mem_cons_self ..)
  have h2 := ih (fun e he => h e (List.mem_cons_of_mem _ he))
  simp only [sumL]; omega
theorem sumL_add (f g : FE → Nat) (l : List FE) : sumL (fun e => f e + g e) l = sumL f l + sumL g l := by
 induction l with
 | nil => rfl
 | cons e l ih => simp only [sumL, ih]; omega
theorem sumL_congr {f g : FE → Nat} {l : List FE} (h : ∀ e ∈ l, f e = g e) : sumL f l = sumL g l := Nat.le_antisymm (sumL_mono fun e he => Nat.le_of_eq (h e he)) (sumL_mono fun e he => Nat.le_of_eq (h e he).symm)
theorem sumL_drop (f : FE → Nat) (l : List FE) (k : Nat) : sumL f (l.drop k) ≤ sumL f l := by
 conv => rhs; rw [← List.take_append_drop k l, sumL_append]
 omega
theorem sumL_set (f : FE → Nat) {l : List FE} {i : Nat} (q : i < l.length) (e : FE) : sumL f (l.set i e) + f l[i] = sumL f l + f e := by
 have d1 : l = l.take i ++ l[i] :: l.drop (i + 1) := by rw [← List.drop_eq_getElem_cons q, List.take_append_drop]
 have d2 : l.set i e = l.take i ++ e :: l.drop (i + 1) := List.set_eq_take_append_cons_drop (l := l) (i := i) (a := e) |>.trans (if_pos q)
 have h1 : sumL f l = sumL f (l.take i) + (f l[i] + sumL f (l.drop (i + 1))) := by
  conv => lhs; rw [d1, sumL_append]
  simp [sumL]
 rw [d2, sumL_append, h1]
 simp only [sumL]; omega
theorem out_ack (c : Nat) (gs : List (Nat × Nat)) (k : Nat) (fl : List FE) : sumL (outE k) (fl.map (ackE c gs)) + sumL (bytE c gs k) fl = sumL (outE k) fl := by
 rw [sumL_map, ← sumL_add]
 refine sumL_congr fun e _ => ?_
 unfold ackE bytE outE
 cases h : newB c gs e <;> simp
theorem mark_le {f : FE → Nat} (hf : ∀ e, f (markE e) ≤ f e) (L : List FE) (m : Nat) : sumL f (mixL markE L m) ≤ sumL f L := by
 unfold mixL
 rw [sumL_append, sumL_map]
 have := sumL_mono (f := fun e => f (markE e)) (g := f) (l := L.take m) (fun e _ => hf e)
 conv => rhs; rw [← List.take_append_drop m L, sumL_append]
 omega
theorem out_mark (k : Nat) (e : FE) : outE k (markE e) ≤ outE k e := by
 unfold markE outE
 split
 ·
  rename_i h0
  split <;> simp
 · exact Nat.le_refl _
theorem tot_mark (e : FE) : totE (markE e) ≤ totE e := by
 unfold markE totE
 split
 ·
  rename_i h0
  split <;> simp_all
 · exact Nat.le_refl _
theorem out_ackL (c : Nat) (gs : List (Nat × Nat)) (m d k : Nat) (fl : List FE) : sumL (outE k) (ackL c gs m d fl) + sumL (bytE c gs k) fl ≤ sumL (outE k) fl := by
 have h1 := sumL_drop (outE k) (mixL markE (fl.map (ackE c gs)) m) d
 have h2 := mark_le (out_mark k) (fl.map (ackE c gs)) m
 have h3 := out_ack c gs k fl
 unfold ackL
 omega
theorem tot_ackL (c : Nat) (gs : List (Nat × Nat)) (m d : Nat) (fl : List FE) : sumL totE (ackL c gs m d fl) ≤ sumL totE fl := by
 have h1 := sumL_drop totE (mixL markE (fl.map (ackE c gs)) m) d
 have h2 := mark_le tot_mark (fl.map (ackE c gs)) m
 have h3 : sumL totE (fl.map (ackE c gs)) ≤ sumL totE fl := by
  rw [sumL_map]
  refine sumL_mono fun e _ => ?_
  unfold ackE totE
  split <;> simp
 unfold ackL
 omega
theorem tot_out {l : List FE} (h : ∀ e ∈ l, e.path ≤ 3) : sumL totE l = sumL (outE 0) l + sumL (outE 1) l + sumL (outE 2) l + sumL (outE 3) l := by
 rw [← sumL_add, ← sumL_add, ← sumL_add]
 refine sumL_congr fun e he => ?_
 have := h e he
 unfold totE outE
 by_cases h0 : e.st = 0
 ·
  have : e.path = 0 ∨ e.path = 1 ∨ e.path = 2 ∨ e.path = 3 := by omega
  rcases this with q | q | q | q <;> simp [h0, q]
 · simp [h0]
theorem ackL_path {c : Nat} {gs : List (Nat × Nat)} {m d : Nat} {fl : List FE} (h : ∀ e ∈ fl, e.path ≤ 3) : ∀ e ∈ ackL c gs m d fl, e.path ≤ 3 := fun e he => by
 unfold ackL mixL at he
 have he := List.mem_of_mem_drop he
 have ka : ∀ x : FE, (ackE c gs x).path = x.path := fun x => by unfold ackE; split <;> rfl
 have km : ∀ x : FE, (markE x).path = x.path := fun x => by unfold markE; split <;> (try split) <;> rfl
 rcases List.mem_append.1 he with he | he
 ·
  obtain ⟨x, hx, rfl⟩ := List.mem_map.1 he
  obtain ⟨y, hy, rfl⟩ := List.mem_map.1 (List.mem_of_mem_take hx)
  rw [km, ka]; exact h y hy
 ·
  obtain ⟨y, hy, rfl⟩ := List.mem_map.1 (List.mem_of_mem_drop he)
  rw [ka]; exact h y hy
theorem firstM_one {l : List FE} {i j : Nat} (h : FirstM l i) (k : FirstM l j) : i = j := by
 obtain ⟨q1, s1, n1⟩ := h
 obtain ⟨q2, s2, n2⟩ := k
 rcases Nat.lt_trichotomy i j with q | q | q
 · exact absurd s1 (n2 i q1 q)
 · exact q
 · exact absurd s2 (n1 j q2 q)
theorem out_again {l : List FE} {i : Nat} (h : FirstM l i) (q : i < l.length) (now k : Nat) : sumL (outE k) (l.set i (agE now l[i])) = sumL (outE k) l + (if l[i].path = k then l[i].dl else 0) := by
 obtain ⟨_, s1, _⟩ := h
 have := sumL_set (outE k) q (agE now l[i])
 have e1 : outE k l[i] = 0 := by unfold outE; rw [if_neg (fun z => by omega)]
 have e2 : outE k (agE now l[i]) = if l[i].path = k then l[i].dl else 0 := by unfold outE agE; simp
 omega
theorem out_exp (p : Int) (nx k : Nat) (l : List FE) : sumL (outE k) (l.map (expE p nx)) = if (k : Int) = p then 0 else sumL (outE k) l := by
 rw [sumL_map]
 have z : ∀ l : List FE, sumL (fun _ => 0) l = 0 := fun l => by
  induction l with
  | nil => rfl
  | cons e l ih => simp only [sumL, ih]
 by_cases h : (k : Int) = p
 ·
  rw [if_pos h, ← z l]
  refine sumL_congr fun e _ => ?_
  unfold expE outE
  split
  · simp
  ·
   rename_i hn
   rw [if_neg (fun q => hn ⟨q.1, by rw [q.2]; exact h⟩)]
 ·
  rw [if_neg h]
  refine sumL_congr fun e _ => ?_
  unfold expE outE
  split
  ·
   rename_i hq
   rw [if_neg (by simp), if_neg (fun q => h (by rw [← q.2]; exact hq.2))]
  · rfl
theorem out_snoc (l : List FE) (e : FE) (k : Nat) (h : e.st = 0) : sumL (outE k) (l ++ [e]) = sumL (outE k) l + (if e.path = k then e.dl else 0) := by
 rw [sumL_append]
 simp only [sumL, Nat.add_zero]
 unfold outE
 simp [h]
theorem sumP_take (p : Nat) (B : List (Nat × Nat)) {j : Nat} (q : j < B.length) : sumP p (B.take (j + 1)) = sumP p (B.take j) + (if B[j].1 = p then B[j].2 else 0) := by
 rw [show B.take (j + 1) = B.take j ++ [B[j]] from by simp, sumP_append]
 simp [sumP]
theorem sumP_le (p : Nat) (B : List (Nat × Nat)) (j : Nat) : sumP p (B.take j) ≤ sumP p B := by
 conv => rhs; rw [← List.take_append_drop j B, sumP_append]
 omega
def al4 (o : Nat → Nat) : List Int := [(o 0 : Nat), (o 1 : Nat), (o 2 : Nat), (o 3 : Nat)]
def setO4 (o : Nat → Nat) (k v : Nat) : Nat → Nat := fun j => if j = k then v else o j
theorem al4_get (o : Nat → Nat) {k : Nat} (hk : k < 4) : (i64s (al4 o))[k]? = some (.int .i64 (o k : Nat)) := by
 have : k = 0 ∨ k = 1 ∨ k = 2 ∨ k = 3 := by omega
 rcases this with rfl | rfl | rfl | rfl <;> rfl
theorem al4_set (o : Nat → Nat) {k : Nat} (hk : k < 4) (v : Nat) : setL (i64s (al4 o)) k [.int .i64 (v : Nat)] = i64s (al4 (setO4 o k v)) := by
 have : k = 0 ∨ k = 1 ∨ k = 2 ∨ k = 3 := by omega
 rcases this with rfl | rfl | rfl | rfl <;> rfl
theorem al4_len (o : Nat → Nat) : (i64s (al4 o)).length = 4 := rfl
theorem al4_congr {o o' : Nat → Nat} (h : ∀ k, k < 4 → o k = o' k) : al4 o = al4 o' := by
 unfold al4
 rw [h 0 (by omega), h 1 (by omega), h 2 (by omega), h 3 (by omega)]
theorem and3_lt (p : Int) : (BitVec.ofInt 64 p &&& BitVec.ofInt 64 3).toNat < 4 := by
 rw [BitVec.toNat_and]
 have : (BitVec.ofInt 64 3).toNat = 2 ^ 2 - 1 := by decide
 rw [this, Nat.and_two_pow_sub_one_eq_mod]
 exact Nat.mod_lt _ (by decide)
theorem wrap4 (t : Nat) (h : t < 4) : IntKind.i64.wrap (t : Int) = (t : Int) := by
 rw [IntKind.wrap_i64]; omega
theorem and3 (p : Int) : ∃ k : Nat, k < 4 ∧ iBin .and .i64 p 3 = some (.int .i64 (k : Nat)) := by
 have h := and3_lt p
 refine ⟨(BitVec.ofInt 64 p &&& BitVec.ofInt 64 3).toNat, h, ?_⟩
 have e : iBin .and .i64 p 3 = some (.int .i64 (IntKind.i64.wrap ((BitVec.ofInt 64 p &&& BitVec.ofInt 64 3).toNat : Nat))) := rfl
 rw [e, wrap4 _ h]
end Go.Proofs.Ytfdglljlenkkbaa
namespace Go.Proofs.Ytfdglljlenkkbaa
def oL (fl : List FE) : Nat → Nat := fun k => sumL (outE k) fl
structure AckU (h' : AHeap) (T fb next : Nat) (zs : List Nat) (fl : List FE) (M n0 : Nat) (v : Value) : Prop where
 o : ∃ (fr : Nat) (adv : Bool) (ba : Option Addr) (B : List (Nat × Nat)) (pth : Int) (tks : Nat) (la : Option Addr) (ln lc : Nat) (e : Int) (n' cum' : Nat) (ra' : Option Addr) (rc' : Nat) (rec' : Bool) (unt' : Nat) (fl' : List FE), v = .tuple #[.agg #[.int .i64 (fr : Nat), .bool adv, .slice ba B.length B.length, .int .i64 pth, .int .u64 (tks : Nat), .slice la ln lc], .int .i64 e] ∧ PB h' ba B ∧ (∀ b ∈ B, 0 < b.2 ∧ b.1 ≤ 3) ∧ B.length ≤ 1000 ∧ FlO h' fb cum' next ra' rc' fl' rec' unt' n0 ∧ PI T zs n' cum' next fl' (M + 1) ∧ unt' < 4294967296 ∧ (∀ e ∈ fl', e.path ≤ 3) ∧ (∀ q, oL fl' q + sumP q B ≤ oL fl q) ∧ sumL totE fl' ≤ sumL totE fl
theorem pb_nil (h : AHeap) : PB h none [] := .nil
theorem ackU_spec (T n M fb cum next : Nat) (zs : List Nat) (ra : Option Addr) (rc : Nat) (l : List FE) (rec : Bool) (unt n0 c now : Nat) (ga : Option Addr) (gc : Nat) (gs : List (Nat × Nat)) (K : PI T zs n cum next l M) (hzl : zs.length ≤ 1000) (hM : M ≤ 1000000) (pt : ∀ e ∈ l, e.path ≤ 3) (hc : c < 4294967296) (hun : unt < 4294967296) (hnow : now < 18446744073709551616) (hgs : ∀ g ∈ gs, g.1 < 65536 ∧ g.2 < 65536) (hgl : gs.length ≤ 1000) (h : AHeap) (F : FlO h fb cum next ra rc l rec unt n0) (hn0 : n0 ≤ h.n) (hz : Rv Try.prog h 2 ga gs.length gc (gcs gs)) (hgo : ∀ j ∈ blk ga, j < n0) : CallS Try.prog (fb :: l.map FE.b) 12 [.pointer (some ⟨fb, 0, none⟩), .int .u32 (c : Nat), .slice ga gs.length gc, .int .u64 (now : Nat)] h fun v h' => AckU h' T fb next zs l M n0 v := by
 have flen := K.len
 have kn1 := K.n1
 have hok := K.ok
 have hlt := K.lt
 cases hmay : mayB cum next c gs with
 | false =>
  obtain ⟨v, h', hr, rfl⟩ := ackerr_spec fb cum next ra rc l rec unt n0 c now ga gc gs hmay hc hlt.1 hlt.2.1 hgs hgl h F hz
  have s : Same h h' := .of_fr hr.fr
  exact ⟨_, h', hr.weak (fun i hi => by cases hi), ⟨0, false, none, [], 0, 0, none, 0, 0, 2, n, cum, ra, rc, rec, unt, l, rfl, pb_nil _, (fun b hb => by cases hb), by simp, F.same s, K.mono (by omega), hun, pt, (fun q => by simp [sumP]), Nat.le_refl _⟩⟩
 | true =>
  refine (ack_spec fb cum next ra rc l rec unt n0 c now ga gc gs hmay hc hlt.1 hlt.2.1 hun hnow hgs hgl (by omega) hlt.2.2 (fun e he => ⟨(hok e he).d0, (hok e he).d1⟩) (fun e he => (hok e he).p) (fun e he => (hok e he).a) (fun e he => by have := (hok e he).m; omega) h F hn0 hz hgo).mono ?_
  rintro v h' ⟨k, m, fr, ba, B, pth, tks, ka, kn, kc, rec4, unt4, rfl, PB4, ok4, hk, hm, F4, hfr, hd1, hd2, hu4, hno4⟩
  obtain ⟨hkd, hdl⟩ := K.dropK hzl hc hmay hk hd1 hd2
  have K4 := K.ack hc gs m hdl
  rw [← hkd] at K4
  refine ⟨fr, _, ba, B, pth, tks, ka, kn, kc, 0, n + k, c, subA ra k, rc - k, rec4, unt4, ackL c gs m k l, rfl, PB4, fun b hb => ?_, by have := ok4.n; omega, F4, K4, hu4, ackL_path pt, fun q => ?_, tot_ackL c gs m k l⟩
  ·
   obtain ⟨h1, e, he, h2⟩ := ok4.m b hb
   exact ⟨h1, by have := pt e he; omega⟩
  ·
   have := out_ackL c gs m k q l
   rw [ok4.s q]
   exact this
end Go.Proofs.Ytfdglljlenkkbaa