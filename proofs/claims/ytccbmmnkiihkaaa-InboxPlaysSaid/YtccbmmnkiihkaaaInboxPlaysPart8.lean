/- What the law leans on, part 8. No conditions. -/
import Derived.Sort.AssemblyPlain
import Derived.Test.YtccbmmnkiihkaaaInboxPlaysPart7
set_option linter.unusedVariables false
set_option linter.unusedSimpArgs false
namespace Go.Proofs.Ytccbmmnkiihkaaa
open Go.Sort
set_option maxRecDepth 100000
attribute [local irreducible] Go GoR GoL
set_option maxHeartbeats 64000000 in
theorem pdqU_spec (a : Option Addr) (cap : Nat) : ∀ (m : Nat) (d : Array Int) (x y lim : Nat) (hm : y - x < m) (hxy : x ≤ y) (hy : y ≤ d.size) (hn : d.size ≤ 1000000) (hlim : lim ≤ 100) (h : AHeap) (hS : KvU h a cap d), SortsU 67 a cap d [.int .i64 x, .int .i64 y, .int .i64 lim] h (pdq ltInt d x y lim true true) := by
 intro m
 induction m with
 | zero => intro d x y lim hm; omega
 | succ m ih =>
 intro d x y lim hm hxy hy hn hlim h hS
 unfold SortsU
 unfold KvU at hS
 unfold SortsU KvU at ih
 generalize hL : d.size = L at *
 have hW : ∀ i ∈ blk a, i ∈ blk a ∨ h.n ≤ i := fun i hi => .inl hi
 obtain ⟨F, hF⟩ : ∃ F, F = pdq ltInt d x y lim true true := ⟨_, rfl⟩
 rw [← hF]
 (refine CallS.of4 Try.func67 rfl Try.ntmps67 Try.results67 rfl ?_)
 (refine Go.run (g:=?_))
 refine Go.loop (α := (Nat × Nat) × Nat × (Bool × Bool) × Array Int × AHeap) (fun s => [(1, .int .i64 s.1.1), (2, .int .i64 s.1.2), (3, .int .i64 s.2.1), (8, .bool s.2.2.1.1), (9, .bool s.2.2.1.2), (0, .slice a L cap)]) (fun _ => []) (fun s => s.2.2.2.2) (fun s => s.1.1 ≤ s.1.2 ∧ s.1.2 ≤ L ∧ s.1.2 - s.1.1 < m + 1 ∧ s.2.1 ≤ 100 ∧ s.2.2.2.1.size = L ∧ Keeps (blk a) h s.2.2.2.2 ∧ Sv s.2.2.2.2 22 1 a L cap (ksU s.2.2.2.1) ∧ F = pdq ltInt s.2.2.2.1 s.1.1 s.1.2 s.2.1 s.2.2.1.1 s.2.2.1.2) (fun s => s.1.2 - s.1.1) ((x, y), lim, (true, true), d, h) ?_ ?_ rfl rfl ?_
 · exact ⟨hxy, hy, hm, hlim, hL, Keeps.rf _ _, hS, hF⟩
 · exact ⟨rfl, rfl, rfl, rfl, rfl, rfl, trivial⟩
 clear hF hS hL hm hxy hy hlim
 clear d x y lim
 rintro ⟨⟨x, y⟩, lim, ⟨wb, wp⟩, d, H⟩ ⟨hxy, hy, hm, hlim, he, kp, sv, eq⟩
 simp only at hxy hy hm hlim he kp sv eq ⊢
 have svs : KvU H a cap d := by unfold KvU; rw [he]; exact sv
 rcases Nat.lt_or_ge 12 (y - x) with z0 | z0
 case inr =>
  rw [pdq, if_pos z0] at eq
  have sp := insU_spec a cap d x y hxy (by omega) (by omega) H svs
  unfold SortsU at sp
  rw [he] at sp
  (refine Go.run (g:=?_))
  refine GoR.callW rfl rfl rfl rfl rfl rfl rfl (((sp).argA).mono ?_)
  rintro _ H1 ⟨rfl, e1, sv1⟩ k1
  refine ⟨hW, ?_⟩
  (refine Go.run (g:=?_))
  (first|refine Go.finA rfl ?_|refine Go.finB rfl (hq:=?_))
  exact ⟨rfl, by rw [eq]; exact e1, by rw [eq]; exact sv1⟩
 rcases Nat.lt_or_ge 0 lim with z1 | z1
 case inr =>
  obtain rfl : lim = 0 := by omega
  rw [pdq, if_neg (by omega), if_pos rfl] at eq
  have sp := heapU_spec a cap d x y (by omega) (by omega) (by omega) H svs
  unfold SortsU at sp
  rw [he] at sp
  (refine Go.run (g:=?_))
  refine GoR.callW rfl rfl rfl rfl rfl rfl rfl (((sp).argA).mono ?_)
  rintro _ H1 ⟨rfl, e1, sv1⟩ k1
  refine ⟨hW, ?_⟩
  (refine Go.run (g:=?_))
  (first|refine Go.finA rfl ?_|refine Go.finB rfl (hq:=?_))
  exact ⟨rfl, by rw [eq]; exact e1, by rw [eq]; exact sv1⟩
 rw [pdq_unfold (by omega) (by omega)] at eq
 obtain ⟨d1, hd1⟩ : ∃ d1, d1 = (if !wb then breakPatterns d x y else d) := ⟨_, rfl⟩
 obtain ⟨l1, hl1⟩ : ∃ l1, l1 = (if !wb then lim - 1 else lim) := ⟨_, rfl⟩
 rw [← hd1, ← hl1] at eq
 obtain ⟨n, hn0⟩ : ∃ n, n = y - x := ⟨_, rfl⟩
 (refine Go.run (g:=?_))
 rw [← hn0]
 (refine Go.run (g:=?_))
 refine Go.join1 (α := AHeap) (fun _ => [(3, .int .i64 l1), (8, .bool wb), (9, .bool wp), (10, .int .i64 n), (0, .slice a L cap), (1, .int .i64 x), (2, .int .i64 y)]) (fun _ => []) (fun H => H) (fun H => d1.size = L ∧ Keeps (blk a) h H ∧ Sv H 22 1 a L cap (ksU d1)) ?_ ?_
 ·
  clear eq
  cases wb with
  | true =>
   have hd1 : d1 = d := hd1
   have hl1 : l1 = lim := hl1
   subst hd1 hl1
   (refine Go.run (g:=?_))
   exact Go.joined H ⟨he, kp, sv⟩ ⟨rfl, rfl, rfl, rfl, rfl, rfl, rfl, trivial⟩ rfl rfl
  | false =>
   have hd1 : d1 = breakPatterns d x y := hd1
   have hl1 : l1 = lim - 1 := hl1
   subst hl1
   have sp := brkU_spec a cap d x y (by omega) (by omega) (by omega) H svs
   unfold SortsU at sp
   rw [he] at sp
   (refine Go.run (g:=?_))
   refine GoR.callW rfl rfl rfl rfl rfl rfl rfl (((sp).argA).mono ?_)
   rintro _ H1 ⟨rfl, e1, sv1⟩ k1
   refine ⟨hW, ?_⟩
   (refine Go.run (g:=?_))
   exact Go.joined H1 ⟨by rw [hd1]; exact e1, kp.tr k1, by rw [hd1]; exact sv1⟩ ⟨rfl, rfl, rfl, rfl, rfl, rfl, rfl, trivial⟩ rfl rfl
 have hl1b : l1 ≤ 100 := by rw [hl1]; split <;> omega
 clear hd1 hl1 sv kp he svs
 rintro H1 ⟨e1, kp1, sv1⟩
 have svs : KvU H1 a cap d1 := by unfold KvU; rw [e1]; exact sv1
 unfold pq2 at eq
 have sp := pivU_spec a cap d1 x y (by omega) (by omega) (by omega) H1 svs
 rw [e1] at sp
 obtain ⟨r1, r2⟩ := choosePivot_holds ltInt d1 x y (by omega)
 generalize choosePivot ltInt d1 x y = c at *
 obtain ⟨p, hint⟩ := c
 simp only at sp r1 r2 eq
 (refine Go.run (g:=?_))
 refine GoR.call rfl rfl rfl rfl rfl rfl rfl (((sp).argA).mono ?_)
 rintro _ H2 ⟨rfl, -⟩ s2
 have kp2 := kp1.sm s2
 have sv2 := sv1.same s2
 have svs2 := Sv.same svs s2
 clear svs sv1 kp1 sp
 obtain ⟨d2, hd2⟩ : ∃ d2, d2 = (if hint = .decreasing then reverseRange d1 x y else d1) := ⟨_, rfl⟩
 obtain ⟨pv, hpv⟩ : ∃ pv, pv = (if hint = .decreasing then (y - 1) - (p - x) else p) := ⟨_, rfl⟩
 obtain ⟨ht, hht⟩ : ∃ ht, ht = (if hint = .decreasing then Hint.increasing else hint) := ⟨_, rfl⟩
 rw [← hd2, ← hpv, ← hht] at eq
 obtain ⟨hv, hhv⟩ : ∃ hv, hv = hintN hint := ⟨_, rfl⟩
 rw [← hhv]
 have pv1 : x ≤ pv ∧ pv < y := by rw [hpv]; split <;> omega
 (refine Go.run (g:=?_))
 refine Go.join1 (α := AHeap) (fun _ => [(11, .int .i64 pv), (12, .int .i64 (hintN ht)), (3, .int .i64 l1), (8, .bool wb), (9, .bool wp), (10, .int .i64 n), (0, .slice a L cap), (1, .int .i64 x), (2, .int .i64 y)]) (fun _ => []) (fun H => H) (fun H => d2.size = L ∧ Keeps (blk a) h H ∧ Sv H 22 1 a L cap (ksU d2)) ?_ ?_
 ·
  clear eq
  have hl0 : ∀ hh, hh ≠ .decreasing → hint = hh → d2 = d1 ∧ pv = p ∧ ht = hh := fun hh h1 h2 => by subst h2; rw [if_neg h1] at hd2 hpv hht; exact ⟨hd2, hpv, hht⟩
  cases hint with
  | unknown =>
   have hhv : hv = 0 := hhv
   subst hhv
   obtain ⟨rfl, rfl, rfl⟩ := hl0 _ (by decide) rfl
   (refine Go.run (g:=?_))
   exact Go.joined H2 ⟨e1, kp2, sv2⟩ ⟨rfl, rfl, rfl, rfl, rfl, rfl, rfl, rfl, rfl, trivial⟩ rfl rfl
  | increasing =>
   have hhv : hv = 1 := hhv
   subst hhv
   obtain ⟨rfl, rfl, rfl⟩ := hl0 _ (by decide) rfl
   (refine Go.run (g:=?_))
   exact Go.joined H2 ⟨e1, kp2, sv2⟩ ⟨rfl, rfl, rfl, rfl, rfl, rfl, rfl, rfl, rfl, trivial⟩ rfl rfl
  | decreasing =>
   have hhv : hv = 2 := hhv
   subst hhv
   rw [if_pos rfl] at hd2 hpv hht
   subst hht hpv
   have sp := revU_spec a cap d1 x y (by omega) (by omega) (by omega) H2 svs2
   unfold SortsU at sp
   rw [e1] at sp
   (refine Go.run (g:=?_))
   refine GoR.callW rfl rfl rfl rfl rfl rfl rfl (((sp).argA).mono ?_)
   rintro _ H3 ⟨rfl, e3, sv3⟩ k3
   refine ⟨hW, ?_⟩
   (refine Go.run (g:=?_))
   exact Go.joined H3 ⟨by rw [hd2]; exact e3, kp2.tr k3, by rw [hd2]; exact sv3⟩ ⟨rfl, rfl, rfl, rfl, rfl, rfl, rfl, rfl, rfl, trivial⟩ rfl rfl
 clear hd2 hpv hht svs2 sv2 kp2 e1 r1 r2 hhv
 clear hv
 rintro H3 ⟨e3, kp3, sv3⟩
 unfold pq3 at eq
 obtain ⟨pi, hpi⟩ : ∃ pi, pi = (if (wb && wp && ht = .increasing) = true then partialInsertionSort ltInt d2 x y else (d2, false)) := ⟨_, rfl⟩
 rw [← hpi] at eq
 refine Go.seq ?_
 obtain ⟨hv, hhv⟩ : ∃ hv, hv = hintN ht := ⟨_, rfl⟩
 rw [← hhv]
 refine Go.join1 (α := AHeap) (fun _ => [(11, .int .i64 pv), (3, .int .i64 l1), (8, .bool wb), (9, .bool wp), (10, .int .i64 n), (0, .slice a L cap), (1, .int .i64 x), (2, .int .i64 y)]) (fun _ => []) (fun H => H) (fun H => pi.2 = false ∧ pi.1.size = L ∧ Keeps (blk a) h H ∧ Sv H 22 1 a L cap (ksU pi.1)) ?_ ?_
 ·
  have no : (wb && wp && decide (ht = .increasing)) = false → pi.2 = false ∧ pi.1.size = L ∧ Keeps (blk a) h H3 ∧ Sv H3 22 1 a L cap (ksU pi.1) := fun hb => by
   rw [if_neg (by rw [hb]; decide)] at hpi
   subst hpi
   exact ⟨rfl, e3, kp3, sv3⟩
  cases wb with
  | false =>
   (refine Go.run (g:=?_))
   exact Go.joined H3 (no rfl) ⟨rfl, rfl, rfl, rfl, rfl, rfl, rfl, rfl, trivial⟩ rfl rfl
  | true =>
  cases wp with
  | false =>
   (refine Go.run (g:=?_))
   exact Go.joined H3 (no rfl) ⟨rfl, rfl, rfl, rfl, rfl, rfl, rfl, rfl, trivial⟩ rfl rfl
  | true =>
  cases ht with
  | unknown =>
   have hhv : hv = 0 := hhv
   subst hhv
   (refine Go.run (g:=?_))
   exact Go.joined H3 (no rfl) ⟨rfl, rfl, rfl, rfl, rfl, rfl, rfl, rfl, trivial⟩ rfl rfl
  | decreasing =>
   have hhv : hv = 2 := hhv
   subst hhv
   (refine Go.run (g:=?_))
   exact Go.joined H3 (no rfl) ⟨rfl, rfl, rfl, rfl, rfl, rfl, rfl, rfl, trivial⟩ rfl rfl
  | increasing =>
   clear no
   have hhv : hv = 1 := hhv
   subst hhv
   have hpi : pi = partialInsertionSort ltInt d2 x y := hpi
   have sp := pinsU_spec a cap d2 x y (by omega) (by omega) (by omega) H3 (by unfold KvU; rw [e3]; exact sv3)
   rw [e3, ← hpi] at sp
   (refine Go.run (g:=?_))
   refine GoR.callW rfl rfl rfl rfl rfl rfl rfl (((sp).argA).mono ?_)
   rintro _ H4 ⟨rfl, e4, sv4⟩ k4
   refine ⟨hW, ?_⟩
   clear sp
   cases hb : pi.2 with
   | false =>
    (refine Go.run (g:=?_))
    exact Go.joined H4 ⟨rfl, e4, kp3.tr k4, sv4⟩ ⟨rfl, rfl, rfl, rfl, rfl, rfl, rfl, rfl, trivial⟩ rfl rfl
   | true =>
    rw [hb, if_pos rfl] at eq
    subst eq
    (refine Go.run (g:=?_))
    (first|refine Go.finA rfl ?_|refine Go.finB rfl (hq:=?_))
    exact ⟨rfl, e4, sv4⟩
 clear hhv e3 kp3 sv3 hpi
 clear hv
 rintro H5 ⟨hb5, e5, kp5, sv5⟩
 rw [hb5, if_neg (by decide)] at eq
 clear hb5
 generalize pi.1 = d3 at *
 clear pi d2 d1 d
 have hl := ksU_len d3
 have c1 : (ksU d3)[pv]? = some (.int .u16 d3[pv]!) := ksU_get (by omega)
 have svs5 : KvU H5 a cap d3 := by unfold KvU; rw [e5]; exact sv5
 have dn : ∀ b, (decide (x > 0) && !ltInt d3[x - 1]! d3[pv]!) = b → True := fun _ _ => trivial
 refine Go.seq ?_
 refine Go.join1 (α := Unit) (fun _ => [(11, .int .i64 pv), (3, .int .i64 l1), (8, .bool wb), (9, .bool wp), (10, .int .i64 n), (0, .slice a L cap), (1, .int .i64 x), (2, .int .i64 y)]) (fun _ => []) (fun _ => H5) (fun _ => (decide (x > 0) && !ltInt d3[x - 1]! d3[pv]!) = false) ?_ ?_
 ·
  rcases Nat.lt_or_ge 0 x with x0 | x0
  case inr =>
   (refine Go.run (g:=?_))
   exact Go.joined () (by rw [decide_eq_false (by omega)]; rfl) ⟨rfl, rfl, rfl, rfl, rfl, rfl, rfl, rfl, trivial⟩ rfl rfl
  have c2 : (ksU d3)[x - 1]? = some (.int .u16 d3[x - 1]!) := ksU_get (by omega)
  (refine Go.run (g:=?_))
  refine GoR.call rfl rfl rfl rfl rfl rfl rfl (((lessU_spec _ _ _).argA).mono ?_)
  rintro _ H6 ⟨rfl, rfl⟩ -
  cases hq : decide (d3[x - 1]! < d3[pv]!) with
  | true =>
   (refine Go.run (g:=?_))
   exact Go.joined () (by rw [show ltInt d3[x - 1]! d3[pv]! = true from hq]; simp) ⟨rfl, rfl, rfl, rfl, rfl, rfl, rfl, rfl, trivial⟩ rfl rfl
  | false =>
   rw [pq4_eq (by omega) (by rw [show ltInt d3[x - 1]! d3[pv]! = false from hq, decide_eq_true x0]; rfl)] at eq
   have hmid := partEq_mid d3 (a := x) (b := y) (pv := pv) (by omega)
   have sp := parteqU_spec a cap d3 x y pv (by omega) (by omega) (by omega) (by omega) (by omega) H6 svs5
   rw [e5] at sp
   generalize partitionEqual ltInt d3 x y pv = r at *
   obtain ⟨mid, d4⟩ := r
   simp only at sp hmid eq
   (refine Go.run (g:=?_))
   refine GoR.callW rfl rfl rfl rfl rfl rfl rfl (((sp).argA).mono ?_)
   rintro _ H7 ⟨rfl, e7, sv7⟩ k7
   refine ⟨hW, ?_⟩
   (refine Go.run (g:=?_))
   exact Go.again ((mid, y), l1, (wb, wp), d4, H7) ⟨by simp only; omega, by simp only; omega, by simp only; omega, hl1b, e7, kp5.tr k7, sv7, eq⟩ (by simp only; omega) ⟨rfl, rfl, rfl, rfl, rfl, rfl, trivial⟩ rfl rfl
 clear dn
 intro _ hcond
 rw [pq4_ne (by omega) (by omega) (by omega) hcond] at eq
 have hmid := part_mid d3 (a := x) (b := y) (pv := pv) (by omega) (by omega) (by omega)
 have sp := partU_spec a cap d3 x y pv (by omega) (by omega) (by omega) (by omega) (by omega) H5 svs5
 rw [e5] at sp
 clear hcond
 generalize partition ltInt d3 x y pv = r at *
 obtain ⟨mid, ap, d4⟩ := r
 simp only at sp hmid eq
 (refine Go.run (g:=?_))
 refine GoR.callW rfl rfl rfl rfl rfl rfl rfl (((sp).argA).mono ?_)
 rintro _ H6 ⟨rfl, e6, sv6⟩ k6
 refine ⟨hW, ?_⟩
 have kp6 := kp5.tr k6
 clear sp c1 svs5 sv5 kp5 k6
 have svs6 : Sv H6 22 1 a d4.size cap (ksU d4) := by rw [e6]; exact sv6
 rcases Nat.lt_or_ge (mid - x) (y - mid) with z2 | z2
 ·
  rw [if_pos z2] at eq
  have rc0 := ih d4 x mid l1 (by omega) (by omega) (by omega) (by omega) hl1b H6 svs6
  rw [e6] at rc0
  (refine Go.run (g:=?_))
  refine GoR.callW rfl rfl rfl rfl rfl rfl rfl (((rc0).argA).mono ?_)
  rintro _ H7 ⟨rfl, e7, sv7⟩ k7
  refine ⟨hW, ?_⟩
  (refine Go.run (g:=?_))
  exact Go.again ((mid + 1, y), l1, (_, ap), pdq ltInt d4 x mid l1 true true, H7) ⟨by simp only; omega, by simp only; omega, by simp only; omega, hl1b, e7, kp6.tr k7, sv7, by rw [eq]; simp only; congr 1; rw [hn0]; exact decide_eq_decide.2 (by omega)⟩ (by simp only; omega) ⟨rfl, rfl, rfl, rfl, rfl, rfl, trivial⟩ rfl rfl
 ·
  rw [if_neg (by omega)] at eq
  have rc0 := ih d4 (mid + 1) y l1 (by omega) (by omega) (by omega) (by omega) hl1b H6 svs6
  rw [e6] at rc0
  (refine Go.run (g:=?_))
  refine GoR.callW rfl rfl rfl rfl rfl rfl rfl (((rc0).argA).mono ?_)
  rintro _ H7 ⟨rfl, e7, sv7⟩ k7
  refine ⟨hW, ?_⟩
  (refine Go.run (g:=?_))
  exact Go.again ((x, mid), l1, (_, ap), pdq ltInt d4 (mid + 1) y l1 true true, H7) ⟨by simp only; omega, by simp only; omega, by simp only; omega, hl1b, e7, kp6.tr k7, sv7, by rw [eq]; simp only; congr 1; rw [hn0]; exact decide_eq_decide.2 (by omega)⟩ (by simp only; omega) ⟨rfl, rfl, rfl, rfl, rfl, rfl, trivial⟩ rfl rfl
set_option maxHeartbeats 8000000 in
theorem sortU_spec (a : Option Addr) (cap : Nat) (d : Array Int) (hn : d.size ≤ 1000000) (h : AHeap) (hS : KvU h a cap d) : CallS Try.prog (blk a) 65 [.slice a d.size cap] h fun v h' => v = .tuple #[] ∧ (sort ltInt d).size = d.size ∧ Sv h' 22 1 a d.size cap (ksU (sort ltInt d)) := by
 have hb : bitsLen d.size ≤ 20 := (bitsLen_le_iff _ 20).2 (by omega)
 have sp := pdqU_spec a cap (d.size + 1) d 0 d.size (bitsLen d.size) (by omega) (Nat.zero_le _) (Nat.le_refl _) hn (by omega) h hS
 unfold sort
 unfold SortsU at sp
 have hln := len_spec d.size hn
 generalize bitsLen d.size = B at *
 generalize hL : d.size = L at *
 (refine CallS.of1 Try.func65 rfl Try.ntmps65 Try.results65 rfl ?_)
 (refine Go.run (g:=?_))
 refine GoR.call rfl rfl rfl rfl rfl rfl rfl (((hln _).argA).mono ?_)
 rintro _ H2 ⟨rfl, rfl⟩ -
 (refine Go.run (g:=?_))
 refine GoR.callW rfl rfl rfl rfl rfl rfl rfl (((sp).argA).mono ?_)
 rintro _ H1 ⟨rfl, e1, sv1⟩ k1
 refine ⟨fun i hi => .inl hi, ?_⟩
 (refine Go.run (g:=?_))
 (first|refine Go.finA rfl ?_|refine Go.finB rfl (hq:=?_))
 exact ⟨rfl, e1, sv1⟩
end Go.Proofs.Ytccbmmnkiihkaaa
namespace Go.Proofs.Ytccbmmnkiihkaaa
open Go.Sort
set_option maxRecDepth 100000
attribute [local irreducible] Go GoR GoL
def spanN (a b : Nat) : Nat := (b + 4294967296 - a) % 4294967296
theorem sub32 (a b : Nat) (ha : a < 4294967296) (hb : b < 4294967296) : iBin .sub .u32 (b : Int) (a : Int) = some (.int .u32 ((spanN a b : Nat) : Int)) := by
 have e : ((spanN a b : Nat) : Int) = ((b : Int) - (a : Int)) % 4294967296 := by unfold spanN; omega
 simp [iBin, IntKind.wrap, IntKind.bits, IntKind.signed, e]
theorem span_lt (a b : Nat) : spanN a b < 4294967296 := Nat.mod_lt _ (by decide)
set_option maxHeartbeats 4000000 in
theorem span_spec (a b : Nat) (ha : a < 4294967296) (hb : b < 4294967296) (h : AHeap) : CallS Try.prog [] 35 [.int .u32 a, .int .u32 b] h fun v h' => v = .int .u32 (spanN a b : Nat) ∧ h' = h := by
 have hs := sub32 a b ha hb
 generalize spanN a b = s at *
 (refine CallS.of2 Try.func35 rfl Try.ntmps35 Try.results35 rfl ?_)
 (iterate 8 (refine Go.one (g:=?_)))
 refine GoR.bin rfl rfl rfl rfl rfl rfl hs ?_
 (refine Go.run (g:=?_))
 (first|refine Go.finA rfl ?_|refine Go.finB rfl (hq:=?_))
 exact ⟨rfl, rfl⟩
def wayN (cum k : Nat) : Nat := spanN cum k % 65536
def gstep (out : List (Nat × Nat)) (w : Nat) : Option (List (Nat × Nat)) :=
 match out.getLast? with
 | some (s, e) => if (e + 1) % 65536 = w then some (out.dropLast ++ [(s, w)]) else if out.length = 64 then none else some (out ++ [(w, w)])
 | none => some (out ++ [(w, w)])
def gfold : List Nat → List (Nat × Nat) → List (Nat × Nat)
 | [], out => out
 | w :: l, out => match gstep out w with
  | some o => gfold l o
  | none => out
abbrev gcs (l : List (Nat × Nat)) : List Value := (l.map fun x => [Value.int .u16 x.1, .int .u16 x.2]).flatten
theorem gcs_len (l : List (Nat × Nat)) : (gcs l).length = l.length * 2 := by
 induction l with
 | nil => rfl
 | cons x l ih => simp only [gcs, List.map_cons, List.flatten_cons, List.length_append, List.length_cons, List.length_nil] at ih ⊢; omega
theorem gcs_snoc (l : List (Nat × Nat)) (x : Nat × Nat) : gcs (l ++ [x]) = gcs l ++ [.int .u16 x.1, .int .u16 x.2] := by simp [gcs]
theorem gcs_last (l : List (Nat × Nat)) (x : Nat × Nat) : (gcs (l ++ [x]))[l.length * 2 + 1]? = some (.int .u16 x.2) := by
 rw [gcs_snoc, List.getElem?_append_right (by rw [gcs_len]; omega), gcs_len, Nat.add_sub_cancel_left]; rfl
theorem gcs_setLast (l : List (Nat × Nat)) (x : Nat × Nat) (w : Nat) : (gcs (l ++ [x])).set (l.length * 2 + 1) (.int .u16 w) = gcs (l ++ [(x.1, w)]) := by
 rw [gcs_snoc, gcs_snoc, List.set_append_right _ _ (by rw [gcs_len]; omega), gcs_len, Nat.add_sub_cancel_left]; rfl
theorem gstep_nil (w : Nat) : gstep [] w = some [(w, w)] := rfl
theorem gstep_snoc (l : List (Nat × Nat)) (x : Nat × Nat) (w : Nat) : gstep (l ++ [x]) w = if (x.2 + 1) % 65536 = w then some (l ++ [(x.1, w)]) else if l.length + 1 = 64 then none else some (l ++ [x] ++ [(w, w)]) := by
 unfold gstep
 simp
theorem add16 (e : Nat) (he : e < 65536) : iBin .add .u16 (e : Int) ((1 : Nat) : Int) = some (.int .u16 (((e + 1) % 65536 : Nat) : Int)) := by
 have q : (((e + 1) % 65536 : Nat) : Int) = ((e : Int) + 1) % 65536 := by omega
 simp [iBin, IntKind.wrap, IntKind.bits, IntKind.signed]
structure GSt (h : AHeap) (sb r : Nat) (cum : Nat) (es : Array MapEntry) (ck : Nat) (ks : List Nat) (da : Option Addr) (dl dc : Nat) : Prop where
 sc : h.get sb = some (.cells [.int .u32 cum, .map (some r), .slice da dl dc] 104)
 mp : h.get r = some (.map es ck)
 ky : es.toList.map (fun e => (e.key, e.val)) = ks.map fun (k : Nat) => (Value.int .u32 (k : Int), Value.agg #[])
 bo : ∀ e ∈ es.toList, e.born < ck
 nd : (es.toList.map (·.born)).Nodup
 kb : ∀ k ∈ ks, k < 4294967296
 cb : cum < 4294967296
 dw : low h.n (.slice da dl dc) = true
def keyN (e : MapEntry) : Nat := match e.key with
 | .int _ n => n.toNat
 | _ => 0
theorem GSt.entry {h : AHeap} {sb r cum ck : Nat} {es : Array MapEntry} {ks : List Nat} {da : Option Addr} {dl dc : Nat} (g : GSt h sb r cum es ck ks da dl dc) {e : MapEntry} (he : e ∈ es.toList) : e.key = .int .u32 (keyN e : Nat) ∧ e.val = .agg #[] ∧ keyN e < 4294967296 := by
 have h1 : (e.key, e.val) ∈ es.toList.map (fun e => (e.key, e.val)) := List.mem_map_of_mem he
 rw [g.ky] at h1
 obtain ⟨k, hk, e1⟩ := List.mem_map.1 h1
 simp only [Prod.mk.injEq] at e1
 have hkn : keyN e = k := by unfold keyN; rw [← e1.1]; rfl
 exact ⟨by rw [hkn]; exact e1.1.symm, e1.2.symm, by have := g.kb k hk; rw [← hkn] at this; exact this⟩
theorem GSt.keys {h : AHeap} {sb r cum ck : Nat} {es : Array MapEntry} {ks : List Nat} {da : Option Addr} {dl dc : Nat} (g : GSt h sb r cum es ck ks da dl dc) : es.toList.map keyN = ks := by
 have h1 := congrArg (List.map fun x : Value × Value => match x.1 with | .int _ n => n.toNat | _ => 0) g.ky
 rw [List.map_map, List.map_map] at h1
 have e2 : ks.map ((fun x : Value × Value => match x.1 with | .int _ n => n.toNat | _ => 0) ∘ fun (k : Nat) => (Value.int .u32 (k : Int), Value.agg #[])) = ks := by
  rw [show ((fun x : Value × Value => match x.1 with | .int _ n => n.toNat | _ => 0) ∘ fun k : Nat => (Value.int .u32 (k : Int), Value.agg #[])) = id from funext fun k => rfl]
  simp
 rw [e2] at h1
 exact h1
theorem aEq_ptrNil {P : Program} {h : AHeap} {t e : TypeId} (hu : P.underlying t = some (.pointer e)) (a : Addr) : aEq P h t (.pointer (some a)) (.pointer none) = some (false, []) := by
 unfold aEq
 rw [hu]
theorem setU : Try.prog.underlying 77 = some (.pointer 104) := by kernel_rfl
theorem aheadU : Try.prog.underlying 102 = some (.map 23 108) := by kernel_rfl
def remE (es : List MapEntry) (seen : List Nat) : Nat := es.countP fun e => !seen.contains e.born
theorem remE_lt {seen : List Nat} {e : MapEntry} (hs : e.born ∉ seen) : ∀ {es : List MapEntry}, e ∈ es → remE es (seen ++ [e.born]) < remE es seen
 | x :: l, he => by
  have mono : ∀ l : List MapEntry, remE l (seen ++ [e.born]) ≤ remE l seen := fun l => by
   unfold remE
   refine List.countP_mono_left fun y _ hy => ?_
   simp only [Bool.not_eq_true', List.contains_eq_mem, decide_eq_false_iff_not, List.mem_append, not_or] at hy ⊢
   exact hy.1
  unfold remE at mono ⊢
  rw [List.countP_cons, List.countP_cons]
  rcases List.mem_cons.1 he with rfl | he
  ·
   have h1 : (!(seen ++ [e.born]).contains e.born) = false := by simp
   have h2 : (!seen.contains e.born) = true := by simpa using hs
   rw [h1, h2]
   have := mono l
   simp only [Bool.false_eq_true, if_false, if_true]
   omega
  ·
   have ih := remE_lt hs he
   unfold remE at ih
   have h3 : (if (!(seen ++ [e.born]).contains x.born) = true then 1 else 0) ≤ (if (!seen.contains x.born) = true then 1 else 0) := by
    split
    ·
     rename_i hy
     rw [if_pos]
     · exact Nat.le_refl _
     ·
      simp only [Bool.not_eq_true', List.contains_eq_mem, decide_eq_false_iff_not, List.mem_append, not_or] at hy ⊢
      exact hy.1
    · exact Nat.zero_le _
   omega
theorem nodup_of_map {α β : Type} (f : α → β) : ∀ {l : List α}, (l.map f).Nodup → l.Nodup
 | [], _ => .nil
 | x :: l, h => by
  rw [List.map_cons, List.nodup_cons] at h
  exact List.nodup_cons.2 ⟨fun hx => h.1 (List.mem_map_of_mem hx), nodup_of_map f h.2⟩
theorem inj_of_map {α β : Type} (f : α → β) : ∀ {l : List α}, (l.map f).Nodup → ∀ x ∈ l, ∀ y ∈ l, f x = f y → x = y
 | z :: l, h, x, hx, y, hy, e => by
  rw [List.map_cons, List.nodup_cons] at h
  rcases List.mem_cons.1 hx with h1 | h1
  ·
   rcases List.mem_cons.1 hy with h2 | h2
   · rw [h1, h2]
   · exact absurd (by rw [← h1, e]; exact List.mem_map_of_mem h2) h.1
  ·
   rcases List.mem_cons.1 hy with h2 | h2
   · exact absurd (by rw [← h2, ← e]; exact List.mem_map_of_mem h1) h.1
   · exact inj_of_map f h.2 x h1 y h2 e
abbrev wcs (cum : Nat) (L : List MapEntry) : List Value := L.map fun e => Value.int .u16 (wayN cum (keyN e) : Nat)
theorem dOf (w : MapEntry → Nat) (L : List MapEntry) : ∃ D : Array Int, D.toList = (L.map w).map (fun (n : Nat) => (n : Int)) ∧ D.size = L.length ∧ ksU D = L.map fun e => Value.int .u16 (w e : Nat) :=
 ⟨((L.map w).map fun (n : Nat) => (n : Int)).toArray, by simp, by simp, by simp [ksU]⟩
theorem permOf (f : MapEntry → Nat) (g : Nat → Nat) {L : List MapEntry} {ks : List Nat} (hp : (L.map f).Perm ks) : ((L.map fun e => g (f e)).map fun (n : Nat) => (n : Int)).Perm ((ks.map g).map fun (n : Nat) => (n : Int)) := by
 have := hp.map g
 rw [List.map_map] at this
 exact this.map _
set_option maxHeartbeats 32000000 in
theorem gaps_spec (sb r cum : Nat) (es : Array MapEntry) (ck : Nat) (ks : List Nat) (da : Option Addr) (dl dc : Nat) (hn : ks.length ≤ 1000000) (h : AHeap) (G : GSt h sb r cum es ck ks da dl dc) (hr : r < h.n) (S : List Nat) (hSb : ∀ w ∈ S, w < 65536) (hS : ∀ D : Array Int, D.toList.Perm ((ks.map (wayN cum)).map fun (n : Nat) => (n : Int)) → (sort ltInt D).toList = S.map (fun (n : Nat) => (n : Int))) :
  CallS Try.prog [] 45 [.pointer (some ⟨sb, 0, none⟩)] h fun v h' => ∃ a, v = .slice a (gfold S []).length (gfold S []).length ∧ Sv h' 97 2 a (gfold S []).length (gfold S []).length (gcs (gfold S [])) ∧ Own h.n a := by
 have hsb := AHeap.lt G.sc
 refine CallS.ofOpen (ov := [(0, .pointer (some ⟨sb, 0, none⟩))]) noGlobals [sb, r] Try.func45 rfl Try.ntmps45 Try.results45 rfl rfl (by kernel_rfl) ?_ ?_ ?_ ?_ ?_
 ·
  intro x hx
  obtain ⟨y, hy, hxy⟩ := List.mem_flatten.1 hx
  obtain ⟨g, hg, rfl⟩ := List.mem_map.1 hy
  simp only [List.mem_cons, List.not_mem_nil, or_false] at hxy
  rcases hxy with rfl | rfl <;> rfl
 · exact gcs_len _
 ·
  intro i hi o ho
  simp only [List.mem_cons, List.not_mem_nil, or_false] at hi
  rcases hi with rfl | rfl
  ·
   rw [G.sc] at ho
   cases ho
   intro x hx
   simp only [List.mem_cons, List.not_mem_nil, or_false] at hx
   rcases hx with rfl | rfl | rfl
   · rfl
   ·
    show Nat.blt r h.n = true
    simpa [Nat.blt_eq] using hr
   · exact G.dw
  ·
   rw [G.mp] at ho
   cases ho
   intro e he
   obtain ⟨h1, h2, -⟩ := G.entry he
   rw [h1, h2]
   exact ⟨rfl, rfl⟩
 ·
  intro x hx
  simp only [List.mem_singleton] at hx
  subst hx
  show Nat.blt sb h.n = true
  simpa [Nat.blt_eq] using hsb
 intro H hHn hH
 have gs : H.get sb = some (.cells [.int .u32 cum, .map (some r), .slice da dl dc] 104) := by rw [hH sb (by simp)]; exact G.sc
 have gm : H.get r = some (.map es ck) := by rw [hH r (by simp)]; exact G.mp
 refine GoD.seq ?_
 refine GoD.seg ?_
 (refine Go.run (g:=?_))
 refine GoD.back ?_
 refine GoD.seq ?_
 refine GoD.seg ?_
 (refine Go.run (g:=?_))
 refine GoR.eqRef rfl rfl rfl rfl (.inl rfl) rfl rfl (aEq_ptrNil setU _) ?_
 (refine Go.run (g:=?_))
 refine GoD.back ?_
 refine GoD.seq ?_
 refine GoD.seg ?_
 (refine Go.run (g:=?_))
 refine GoD.back ?_
 refine GoD.seq ?_
 refine GoD.seq ?_
 refine GoD.seg ?_
 (refine Go.run (g:=?_))
 refine GoR.range rfl rfl rfl rfl rfl aheadU gm ?_
 (refine Go.run (g:=?_))
 refine GoD.back ?_
 refine GoD.block ?_
 have gs1 : (H.push (.mit (some r) ck [])).get sb = _ := get_push_lt gs
 have gm1 : (H.push (.mit (some r) ck [])).get r = _ := get_push_lt gm
 have gi1 : (H.push (.mit (some r) ck [])).get H.n = some (.mit (some r) ck []) := AHeap.get_push_same H _
 have n1 : (H.push (.mit (some r) ck [])).n = H.n + 1 := rfl
 generalize H.push (.mit (some r) ck []) = H1 at *
 refine GoD.loop (α := List MapEntry × Option Addr × Nat × AHeap) (fun x => [(15, .pointer (some ⟨H.n, 0, none⟩)), (3, .slice x.2.1 x.1.length x.2.2.1), (0, .pointer (some ⟨sb, 0, none⟩))]) (fun _ => []) (fun x => x.2.2.2) (fun x => (∀ e ∈ x.1, e ∈ es.toList) ∧ (x.1.map (·.born)).Nodup ∧ x.1.length + remE es.toList (x.1.map (·.born)) ≤ ks.length ∧ x.2.2.2.get H.n = some (.mit (some r) ck (x.1.map (·.born))) ∧ x.2.2.2.get sb = some (.cells [.int .u32 cum, .map (some r), .slice da dl dc] 104) ∧ x.2.2.2.get r = some (.map es ck) ∧ H.n + 1 ≤ x.2.2.2.n ∧ Own (H.n + 1) x.2.1 ∧ Sv x.2.2.2 22 1 x.2.1 x.1.length x.2.2.1 (wcs cum x.1)) (fun x => remE es.toList (x.1.map (·.born))) ([], none, 0, H1) ?_ ?_ rfl rfl ?_
 · exact ⟨(fun e he => by cases he), List.nodup_nil, (by have h1 := List.countP_le_length (p := fun e : MapEntry => !([] : List Nat).contains e.born) (l := es.toList); have h2 := congrArg List.length G.keys; rw [List.length_map] at h2; simp only [List.length_nil, List.map_nil, remE]; omega), gi1, gs1, gm1, (by simp only; omega), Own.nil _, Sv.nil⟩
 · exact ⟨rfl, rfl, rfl, trivial⟩
 clear gs gm gs1 gm1 gi1
 rintro ⟨L, a, cap, H2⟩ ⟨hLe, hLn, hLl, gi, gs, gm, hn2, own, sv⟩
 simp only at hLe hLn hLl gi gs gm hn2 own sv ⊢
 refine GoD.seq ?_
 refine GoD.next (by kernel_rfl) rfl rfl rfl rfl rfl rfl rfl rfl rfl gi gm G.bo (.inr (by omega)) ?_ ?_
 ·
  intro hall
  refine GoD.seg ?_
  (refine Go.run (g:=?_))
  refine GoD.back ?_
  refine GoD.skip_back (by intro q; cases q) ?_
  refine GoD.leave ?_
  rw [show Exit.leave 0 (.exit 0) = .normal from rfl]
  have hp : (L.map keyN).Perm ks := by
   rw [← G.keys]
   refine List.Perm.map _ ((List.perm_ext_iff_of_nodup (nodup_of_map _ hLn) (nodup_of_map _ G.nd)).2 fun e => ⟨fun q => hLe e q, fun q => ?_⟩)
   obtain ⟨e', h1, h2⟩ := List.mem_map.1 (hall e q)
   rw [← inj_of_map _ G.nd e' (hLe e' h1) e q h2]; exact h1
  obtain ⟨D, hDt, hDs, hks⟩ := dOf (fun e => wayN cum (keyN e)) L
  have hpp := permOf keyN (wayN cum) hp
  rw [← hDt] at hpp
  have hsort := hS D hpp
  clear hpp hDt
  have sp := sortU_spec a cap D (by omega) H2 (by unfold KvU; rw [hks, hDs]; exact sv)
  rw [hDs] at sp
  generalize sort ltInt D = E at *
  refine GoD.seg ?_
  (refine Go.run (g:=?_))
  refine GoR.callW rfl rfl rfl rfl rfl rfl rfl (((sp).argA).mono ?_)
  rintro _ H5 ⟨rfl, hDl, sv5⟩ k5
  refine ⟨fun i hi => .inr (by have := own i hi; omega), ?_⟩
  have hks2 : ksU E = S.map fun (n : Nat) => Value.int .u16 (n : Int) := by
   show E.toList.map _ = _
   rw [hsort]; simp
  have hSl : S.length = L.length := by
   have := congrArg List.length hsort
   rw [List.length_map, Array.length_toList, hDl] at this
   exact this.symm
  rw [hks2, ← hSl] at sv5
  rw [← hSl]
  clear sp hks hks2 hsort hDl hp sv gi gs gm
  have hba : ∀ j ∈ blk a, j < H5.n := sv5.lt
  have hSl6 : S.length ≤ 1000000 := by rw [hSl]; omega
  have m5 := k5.1
  clear k5 own
  (refine Go.run (g:=?_))
  refine Go.loop (α := Nat × List (Nat × Nat) × Option Addr × Nat × AHeap) (fun x => [(34, .int .i64 x.1), (33, .int .i64 S.length), (32, .slice a S.length cap), (5, .slice x.2.2.1 x.2.1.length x.2.2.2.1)]) (fun _ => []) (fun x => x.2.2.2.2) (fun x => x.1 ≤ S.length ∧ (x.2.1.length = 0 → x.2.2.1 = none) ∧ x.2.1.length ≤ x.1 ∧ (∀ g ∈ x.2.1, g.2 < 65536) ∧ H5.n ≤ x.2.2.2.2.n ∧ Own H5.n x.2.2.1 ∧ Sv x.2.2.2.2 22 1 a S.length cap (S.map fun (n : Nat) => Value.int .u16 (n : Int)) ∧ Sv x.2.2.2.2 97 2 x.2.2.1 x.2.1.length x.2.2.2.1 (gcs x.2.1) ∧ gfold (S.drop x.1) x.2.1 = gfold S []) (fun x => S.length - x.1) (0, [], none, 0, H5) ?_ ?_ rfl rfl ?_
  · exact ⟨Nat.zero_le _, fun _ => rfl, Nat.le_refl _, (fun g hg => by cases hg), Nat.le_refl _, Own.nil _, sv5, Sv.nil, rfl⟩
  · exact ⟨rfl, rfl, rfl, rfl, trivial⟩
  clear sv5
  rintro ⟨i, O, oa, oc, H6⟩ ⟨hi, hO0, hOl, hOb, n6, oown, sv6, so6, eq⟩
  simp only at hi hO0 hOl hOb n6 oown sv6 so6 eq ⊢
  rcases Nat.lt_or_ge i S.length with i0 | i0
  case inr =>
   rw [List.drop_eq_nil_of_le i0] at eq
   have eq : O = gfold S [] := eq
   (refine Go.run (g:=?_))
   refine GoD.back ?_
   rw [← eq]
   exact GoD.finS (.inr rfl) (.tmp rfl .nil) rfl so6 (fun j hj => by have := oown j hj; omega) hO0
  have cw : (S.map fun (n : Nat) => Value.int .u16 (n : Int))[i]? = some (.int .u16 (S[i] : Nat)) := by rw [List.getElem?_map, List.getElem?_eq_getElem i0]; rfl
  have wb := hSb S[i] (List.getElem_mem i0)
  rw [List.drop_eq_getElem_cons i0] at eq
  generalize S[i] = w at *
  have gnext : ∀ (O' : List (Nat × Nat)), gstep O w = some O' → gfold (S.drop (i + 1)) O' = gfold S [] := fun O' hg => by rw [← eq]; show _ = (match gstep O w with | some o => gfold (S.drop (i + 1)) o | none => O); rw [hg]
  rcases List.eq_nil_or_concat O with hO | ⟨init, ⟨st, e⟩, hO⟩
  ·
   subst hO
   have gn := gnext _ (gstep_nil w)
   have l0 : ([] : List (Nat × Nat)).length = 0 := rfl
   rw [l0] at so6 hOl ⊢
   (refine Go.run (g:=?_))
   refine GoR.buildRo (c := [.int .u16 (w : Nat), .int .u16 (w : Nat)]) rfl rfl rfl rfl rfl (by decide) (by rfl) (by rfl) ?_
   intro b8 h8 hb8 rb8 ob8 s8 n8
   have m8 := s8.1
   refine GoR.appendV rfl rfl rfl rfl rfl rfl (so6.same s8) hb8 (fun j hj => .inr (by have := oown j hj; omega)) (by omega) (by omega) (by rfl) ?_
   intro b9 c9 h9 hs9 k9 o9
   have m9 := k9.1
   have sv9 := (sv6.same s8).keeps k9 (fun j hj hm => by have := hba j hj; have := oown j hm; omega)
   (refine Go.run (g:=?_))
   refine Go.again (i + 1, [(w, w)], b9, c9, h9) ⟨by simp only; omega, fun q => by simp at q, by simp, (fun g hg => by simp only [List.mem_singleton] at hg; rw [hg]; exact wb), by simp only; omega, fun j hj => ?_, sv9, hs9, gn⟩ (by simp only; omega) ⟨rfl, rfl, rfl, rfl, trivial⟩ rfl rfl
   rcases o9 j hj with q | q
   · exact oown j q
   · omega
  ·
   rw [List.concat_eq_append] at hO
   subst hO
   have hl : (init ++ [(st, e)]).length = init.length + 1 := by simp
   have eb : e < 65536 := hOb (st, e) (by simp)
   have hstep := gstep_snoc init (st, e) w
   have cl : (gcs (init ++ [(st, e)]))[(init.length + 1 - 1) * 2 + 1]? = some (.int .u16 (e : Nat)) := by rw [Nat.add_sub_cancel]; exact gcs_last init (st, e)
   have gl := gcs_len (init ++ [(st, e)])
   rw [hl] at so6 hOl gl ⊢
   have hkv : (init.length + 1 - 1) * 2 < (gcs (init ++ [(st, e)])).length := by rw [gl]; omega
   (refine Go.run (g:=?_))
   refine GoR.bin rfl rfl rfl rfl rfl rfl (add16 e eb) ?_
   generalize hq : (e + 1) % 65536 = q at *
   by_cases hw : q = w
   ·
    rw [if_pos hw] at hstep
    have gn := gnext _ hstep
    subst hw
    (refine Go.run (g:=?_))
    refine GoR.store1' rfl rfl rfl rfl rfl rfl (hS := so6) (hw := fun j hj => .inr (by have := oown j hj; omega)) (g:=?_)
    intro h7 so7 k7 n7
    rw [Nat.add_sub_cancel, gcs_setLast] at so7
    have sv7 := sv6.keeps k7 (fun j hj hm => by have := hba j hj; have := oown j hm; omega)
    (refine Go.run (g:=?_))
    refine Go.again (i + 1, init ++ [(st, q)], oa, oc, h7) ⟨by simp only; omega, fun z => by simp at z, by simp only [List.length_append, List.length_cons, List.length_nil]; omega, fun g hg => ?_, by have := k7.1; simp only; omega, oown, sv7, by simpa using so7, gn⟩ (by simp only; omega) ⟨rfl, rfl, rfl, ?_, trivial⟩ rfl rfl
    ·
     rcases List.mem_append.1 hg with z | z
     · exact hOb g (by simp [z])
     · simp only [List.mem_singleton] at z; rw [z]; exact wb
    · simp only [List.length_append, List.length_cons, List.length_nil]; rfl
   ·
    rw [if_neg hw] at hstep
    by_cases h64 : init.length + 1 = 64
    ·
     rw [if_pos h64] at hstep
     have eq : init ++ [(st, e)] = gfold S [] := by rw [← eq]; show _ = (match gstep (init ++ [(st, e)]) w with | some o => gfold (S.drop (i + 1)) o | none => init ++ [(st, e)]); rw [hstep]
     (refine Go.run (g:=?_))
     refine GoD.back ?_
     rw [← eq, hl]
     exact GoD.finS (.inr rfl) (.tmp rfl .nil) rfl so6 (fun j hj => by have := oown j hj; omega) (fun z => by omega)
    ·
     rw [if_neg h64] at hstep
     have gn := gnext _ hstep
     (refine Go.run (g:=?_))
     refine GoR.buildRo (c := [.int .u16 (w : Nat), .int .u16 (w : Nat)]) rfl rfl rfl rfl rfl (by decide) (by rfl) (by rfl) ?_
     intro b8 h8 hb8 rb8 ob8 s8 n8
     have m8 := s8.1
     refine GoR.appendV rfl rfl rfl rfl rfl rfl (so6.same s8) hb8 (fun j hj => .inr (by have := oown j hj; omega)) (by omega) (by omega) (by rfl) ?_
     intro b9 c9 h9 hs9 k9 o9
     have m9 := k9.1
     have sv9 := (sv6.same s8).keeps k9 (fun j hj hm => by have := hba j hj; have := oown j hm; omega)
     (refine Go.run (g:=?_))
     refine Go.again (i + 1, init ++ [(st, e)] ++ [(w, w)], b9, c9, h9) ⟨by simp only; omega, fun z => by simp at z, by simp only [List.length_append, List.length_cons, List.length_nil]; omega, fun g hg => ?_, by simp only; omega, fun j hj => ?_, sv9, ?_, gn⟩ (by simp only; omega) ⟨rfl, rfl, rfl, ?_, trivial⟩ rfl rfl
     ·
      rcases List.mem_append.1 hg with z | z
      · exact hOb g z
      · simp only [List.mem_singleton] at z; rw [z]; exact wb
     ·
      rcases o9 j hj with z | z
      · exact oown j z
      · omega
     ·
      simp only [List.length_append, List.length_cons, List.length_nil]
      rw [gcs_snoc]
      exact hs9
     · simp only [List.length_append, List.length_cons, List.length_nil]; rfl
 ·
  intro e he hne
  refine GoD.seg ?_
  (refine Go.run (g:=?_))
  refine GoR.name ?_
  intro H3 e3
  have gi3 : H3.get H.n = some (.mit (some r) ck (L.map (·.born) ++ [e.born])) := by subst e3; exact AHeap.get_put_same _ (by omega) _
  have k3 : Keeps [H.n] H2 H3 := by subst e3; exact (Keeps.rf _ _).pt (.inl (by simp)) _
  have n3 : H3.n = H2.n := by subst e3; rfl
  clear e3
  have gs3 := k3.get gs (by simp; omega)
  have gm3 := k3.get gm (by simp; omega)
  have sv3 := sv.keeps k3 (fun i hi hm => by simp only [List.mem_singleton] at hm; have := own i hi; omega)
  refine GoR.entry rfl rfl rfl rfl rfl gi3 gm3 he G.nd ?_
  obtain ⟨ke, kv, kl⟩ := G.entry he
  rw [ke, kv]
  have hsp := span_spec cum (keyN e) G.cb kl
  have hwl : wayN cum (keyN e) < 65536 := Nat.mod_lt _ (by decide)
  have hwd : spanN cum (keyN e) % 65536 = wayN cum (keyN e) := rfl
  generalize spanN cum (keyN e) = sp at *
  (refine Go.run (g:=?_))
  refine GoR.call rfl rfl rfl rfl rfl rfl rfl (((hsp _).argA).mono ?_)
  rintro _ H4 ⟨rfl, rfl⟩ -
  (refine Go.run (g:=?_))
  rw [hwd]
  refine GoR.buildRo (c := [.int .u16 (wayN cum (keyN e) : Nat)]) rfl rfl rfl rfl rfl (by decide) (by rfl) (by rfl) ?_
  intro b8 h8 hb8 rb8 ob8 s8 n8
  have m8 := s8.1
  refine GoR.appendV rfl rfl rfl rfl rfl rfl (sv3.same s8) hb8 (fun i hi => .inr (by have := own i hi; omega)) (by omega) (by omega) (by rfl) ?_
  intro b9 c9 h9 hs9 k9 o9
  have m9 := k9.1
  have nob : ∀ j, j < H.n + 1 → j ∉ blk a := fun j hj hm => by have := own j hm; omega
  (refine Go.run (g:=?_))
  refine GoD.back ?_
  refine GoD.again (L ++ [e], b9, c9, h9) ⟨fun x hx => ?_, ?_, ?_, ?_, ?_, ?_, by simp only; omega, fun j hj => ?_, ?_⟩ ?_ ⟨rfl, ?_, rfl, trivial⟩ rfl rfl
  ·
   rcases List.mem_append.1 hx with q | q
   · exact hLe x q
   · simp only [List.mem_singleton] at q; rw [q]; exact he
  ·
   simp only [List.map_append, List.map_cons, List.map_nil]
   rw [List.nodup_append]
   refine ⟨hLn, List.nodup_cons.2 ⟨List.not_mem_nil, List.nodup_nil⟩, fun x hx y hy => ?_⟩
   simp only [List.mem_singleton] at hy
   rw [hy]; exact fun q => hne (by rw [← q]; exact hx)
  ·
   have := remE_lt hne he
   simp only [List.length_append, List.length_cons, List.length_nil, List.map_append, List.map_cons, List.map_nil]
   omega
  ·
   simp only [List.map_append, List.map_cons, List.map_nil]
   exact k9.get (s8.get gi3) (nob _ (by omega))
  · exact k9.get (s8.get gs3) (nob _ (by omega))
  · exact k9.get (s8.get gm3) (nob _ (by omega))
  ·
   rcases o9 j hj with q | q
   · exact own j q
   · omega
  ·
   simp only [wcs, List.map_append, List.map_cons, List.map_nil, List.length_append, List.length_cons, List.length_nil]
   exact hs9
  ·
   have := remE_lt hne he
   simp only [List.map_append, List.map_cons, List.map_nil]
   omega
  ·
   simp only [List.length_append, List.length_cons, List.length_nil]
   rfl
end Go.Proofs.Ytccbmmnkiihkaaa
namespace Go.Proofs.Ytccbmmnkiihkaaa
open Go.Sort
set_option maxRecDepth 100000
attribute [local irreducible] Go GoR GoL
def bef32 (a b : Nat) : Bool := decide (0 < spanN a b) && decide (spanN a b < 2147483648)
set_option maxHeartbeats 8000000 in
theorem before_spec (a b : Nat) (ha : a < 4294967296) (hb : b < 4294967296) (h : AHeap) : CallS Try.prog [] 52 [.int .u32 a, .int .u32 b] h fun v h' => v = .bool (bef32 a b) ∧ h' = h := by
 have hs := sub32 a b ha hb
 have hl := span_lt a b
 unfold bef32
 generalize spanN a b = s at *
 (refine CallS.of2 Try.func52 rfl Try.ntmps52 Try.results52 rfl ?_)
 (iterate 8 (refine Go.one (g:=?_)))
 refine GoR.bin rfl rfl rfl rfl rfl rfl hs ?_
 rcases Nat.lt_or_ge 0 s with s0 | s0
 case inr =>
  obtain rfl : s = 0 := by omega
  (refine Go.run (g:=?_))
  (first|refine Go.finA rfl ?_|refine Go.finB rfl (hq:=?_))
  exact ⟨rfl, rfl⟩
 (refine Go.run (g:=?_))
 refine GoR.com (v := .int .u32 (4294967295 : Nat)) rfl rfl rfl rfl rfl (by kernel_rfl) ?_
 (refine Go.run (g:=?_))
 (first|refine Go.finA rfl ?_|refine Go.finB rfl (hq:=?_))
 refine ⟨?_, rfl⟩
 simp only [retV]
 rw [decide_eq_true s0, Bool.true_and]
 exact congrArg Value.bool (decide_eq_decide.2 (by omega))
instance miAhead : MI Try.prog 102 .u32 (.agg #[]) := ⟨23, 108, by kernel_rfl, by kernel_rfl, by kernel_rfl, rfl, fun em n => by kernel_rfl⟩
def dn32 (ks : List Nat) : List (Int × Value) := ks.map fun (k : Nat) => ((k : Int), Value.agg #[])
theorem al_dn32 (ks : List Nat) (n : Nat) : al (dn32 ks) n = if n ∈ ks then some (.agg #[]) else none := by
 induction ks with
 | nil => rfl
 | cons k ks ih =>
  show (if (k : Int) = n then some (Value.agg #[]) else al (dn32 ks) n) = _
  rw [ih]
  by_cases h : k = n
  · subst h; simp
  · rw [if_neg (by omega)]; simp [Ne.symm h]
theorem aset_dn32 (ks : List Nat) (n : Nat) (h : n ∉ ks) : aset (dn32 ks) n (.agg #[]) = dn32 (ks ++ [n]) := by
 induction ks with
 | nil => rfl
 | cons k ks ih =>
  simp only [List.mem_cons, not_or] at h
  show (if (k : Int) = n then _ else _) = _
  rw [if_neg (by omega)]
  show ((k : Int), Value.agg #[]) :: aset (dn32 ks) n (.agg #[]) = _
  rw [ih h.2]; rfl
theorem adel_dn32 (ks : List Nat) (n : Nat) : adel (dn32 ks) n = dn32 (ks.erase n) := by
 induction ks with
 | nil => rfl
 | cons k ks ih =>
  show (if (k : Int) = n then dn32 ks else ((k : Int), Value.agg #[]) :: adel (dn32 ks) n) = _
  by_cases h : k = n
  · subst h; simp
  · rw [if_neg (by omega), ih, List.erase_cons_tail (by simpa using h)]; rfl
abbrev u32s' (ds : List Nat) : List Value := ds.map fun (n : Nat) => Value.int .u32 (n : Int)
structure GSet (h : AHeap) (sb r cum : Nat) (ks : List Nat) (da : Option Addr) (dc : Nat) (ds : List Nat) (n0 : Nat) : Prop where
 sc : h.get sb = some (.cells [.int .u32 cum, .map (some r), .slice da ds.length dc] 104)
 mp : SMap h r .u32 (dn32 ks)
 dv : Sv h 23 1 da ds.length dc (u32s' ds)
 kb : ∀ k ∈ ks, k < 4294967296
 db : ∀ k ∈ ds, k < 4294967296
 cb : cum < 4294967296
 ap : sb ≠ r ∧ sb ∉ blk da ∧ r ∉ blk da
 ow : n0 ≤ sb ∧ n0 ≤ r ∧ Own n0 da
theorem GSet.same {h h' : AHeap} {sb r cum : Nat} {ks : List Nat} {da : Option Addr} {dc : Nat} {ds : List Nat} {n0 : Nat} (g : GSet h sb r cum ks da dc ds n0) (s : Same h h') : GSet h' sb r cum ks da dc ds n0 := { g with sc := s.get g.sc, mp := g.mp.same s, dv := g.dv.same s }
def hasN (cum : Nat) (ks : List Nat) (t : Nat) : Bool := decide (t ∈ ks) || (decide (t = cum) || bef32 t cum)
set_option maxHeartbeats 8000000 in
theorem has_spec (sb r cum : Nat) (ks : List Nat) (da : Option Addr) (dc : Nat) (ds : List Nat) (n0 t : Nat) (ht : t < 4294967296) (h : AHeap) (G : GSet h sb r cum ks da dc ds n0) : CallS Try.prog [] 34 [.pointer (some ⟨sb, 0, none⟩), .int .u32 t] h fun v h' => v = .bool (hasN cum ks t) := by
 have gs := G.sc
 have gm := G.mp.imap
 have hlt := AHeap.lt gs
 unfold hasN
 (refine CallS.of2 Try.func34 rfl Try.ntmps34 Try.results34 rfl ?_)
 (refine Go.run (g:=?_))
 refine GoR.eqRef rfl rfl rfl rfl (.inl rfl) rfl rfl (aEq_ptrNil setU _) ?_
 (refine Go.run (g:=?_))
 refine GoR.lookup2 rfl rfl rfl rfl rfl rfl gm ?_
 rw [al_dn32]
 have hbs := before_spec t cum ht G.cb
 by_cases hk : t ∈ ks
 ·
  rw [if_pos hk, decide_eq_true hk, Bool.true_or]
  simp only [Option.getD_some, Option.isSome_some]
  (refine Go.run (g:=?_))
  (first|refine Go.finA rfl ?_|refine Go.finB rfl (hq:=?_))
  rfl
 ·
  rw [if_neg hk, decide_eq_false hk, Bool.false_or]
  simp only [Option.getD_none, Option.isSome_none]
  by_cases hc : t = cum
  ·
   rw [decide_eq_true hc, Bool.true_or]
   (refine Go.run (g:=?_))
   (first|refine Go.finA rfl ?_|refine Go.finB rfl (hq:=?_))
   rfl
  ·
   rw [decide_eq_false hc, Bool.false_or]
   (refine Go.run (g:=?_))
   refine GoR.call rfl rfl rfl rfl rfl rfl rfl (((hbs _).argA).mono ?_)
   rintro _ H2 ⟨rfl, rfl⟩ -
   (refine Go.run (g:=?_))
   (first|refine Go.finA rfl ?_|refine Go.finB rfl (hq:=?_))
   simp [retV]
set_option maxHeartbeats 4000000 in
theorem cum_spec (sb r cum : Nat) (ks : List Nat) (da : Option Addr) (dc : Nat) (ds : List Nat) (n0 : Nat) (h : AHeap) (G : GSet h sb r cum ks da dc ds n0) : CallS Try.prog [] 36 [.pointer (some ⟨sb, 0, none⟩)] h fun v h' => v = .int .u32 (cum : Nat) ∧ h' = h := by
 have gs := G.sc
 (refine CallS.of1 Try.func36 rfl Try.ntmps36 Try.results36 rfl ?_)
 (refine Go.run (g:=?_))
 refine GoR.eqRef rfl rfl rfl rfl (.inl rfl) rfl rfl (aEq_ptrNil setU _) ?_
 (refine Go.run (g:=?_))
 (first|refine Go.finA rfl ?_|refine Go.finB rfl (hq:=?_))
 exact ⟨rfl, rfl⟩
end Go.Proofs.Ytccbmmnkiihkaaa
namespace Go.Proofs.Ytccbmmnkiihkaaa
open Go.Sort
set_option maxRecDepth 100000
attribute [local irreducible] Go GoR GoL
def next32 (c : Nat) : Nat := (c + 1) % 4294967296
def settleN : Nat → Nat → List Nat → Nat × List Nat
 | 0, c, ks => (c, ks)
 | n + 1, c, ks => if next32 c ∈ ks then settleN n (next32 c) (ks.erase (next32 c)) else (c, ks)
def addN (cum : Nat) (ks ds : List Nat) (t : Nat) : Nat × Nat × List Nat × List Nat :=
 if hasN cum ks t = true then (1, cum, ks, if ds.length < 16 then ds ++ [t] else ds)
 else if 65535 < spanN cum t then (2, cum, ks, ds)
 else (0, (settleN (ks.length + 1) cum (ks ++ [t])).1, (settleN (ks.length + 1) cum (ks ++ [t])).2, ds)
theorem add32 (c : Nat) : iBin .add .u32 (c : Int) ((1 : Nat) : Int) = some (.int .u32 ((next32 c : Nat) : Int)) := by
 have q : ((next32 c : Nat) : Int) = ((c : Int) + 1) % 4294967296 := by unfold next32; omega
 simp [iBin, IntKind.wrap, IntKind.bits, IntKind.signed, q]
theorem next32_lt (c : Nat) : next32 c < 4294967296 := Nat.mod_lt _ (by decide)
set_option maxHeartbeats 32000000 in
theorem add_spec (sb r cum : Nat) (ks : List Nat) (da : Option Addr) (dc : Nat) (ds : List Nat) (n0 t : Nat) (ht : t < 4294967296) (hds : ds.length ≤ 16) (h : AHeap) (hn0 : n0 ≤ h.n) (G : GSet h sb r cum ks da dc ds n0) : CallS Try.prog ([sb, r] ++ blk da) 37 [.pointer (some ⟨sb, 0, none⟩), .int .u32 t] h fun v h' => v = .int .u8 ((addN cum ks ds t).1 : Nat) ∧ ∃ da' dc', GSet h' sb r (addN cum ks ds t).2.1 (addN cum ks ds t).2.2.1 da' dc' (addN cum ks ds t).2.2.2 n0 ∧ ∀ i ∈ blk da', i ∈ blk da ∨ h.n ≤ i := by
 have gs := G.sc
 have hlt := AHeap.lt gs
 have hsp := span_spec cum t G.cb ht
 have hhs := has_spec sb r cum ks da dc ds n0 t ht h G
 (refine CallS.of2 Try.func37 rfl Try.ntmps37 Try.results37 rfl ?_)
 (refine Go.run (g:=?_))
 refine GoR.eqRef rfl rfl rfl rfl (.inl rfl) rfl rfl (aEq_ptrNil setU _) ?_
 (refine Go.run (g:=?_))
 refine GoR.call rfl rfl rfl rfl rfl rfl rfl (((hhs).argA).mono ?_)
 rintro _ h2 rfl s2
 have G2 := G.same s2
 have gs2 := G2.sc
 have m2 := s2.1
 cases hH : hasN cum ks t with
 | true =>
  rcases Nat.lt_or_ge ds.length 16 with l0 | l0
  ·
   have hA : addN cum ks ds t = (1, cum, ks, ds ++ [t]) := by unfold addN; rw [if_pos hH, if_pos l0]
   rw [hA]
   (refine Go.run (g:=?_))
   refine GoR.buildRo (c := [.int .u32 (t : Nat)]) rfl rfl rfl rfl rfl (by decide) (by rfl) (by rfl) ?_
   intro b8 h8 hb8 rb8 ob8 s8 n8
   have m8 := s8.1
   refine GoR.appendV rfl rfl rfl rfl rfl rfl (G2.dv.same s8) hb8 (fun j hj => .inl (by simp [hj])) (by omega) (by omega) (by rfl) ?_
   intro b9 c9 h9 hs9 k9 o9
   have m9 := k9.1
   have gs9 := k9.get (s8.get gs2) G.ap.2.1
   have gm9 := (G2.mp.same s8).keeps k9 G.ap.2.2
   have n9 : ∀ j, j < h.n → j ∉ blk da → j ∉ blk b9 := fun j hj hn hm => by rcases o9 j hm with q | q; exact hn q; omega
   have sr := G.mp.lt
   (refine Go.run (g:=?_))
   refine Go.name ?_
   intro h10 e10
   have k10 : Keeps [sb] h9 h10 := by subst e10; exact (Keeps.rf _ _).pt (.inl (by simp)) _
   have gs10 : h10.get sb = some (.cells [.int .u32 cum, .map (some r), .slice b9 (ds.length + 1) c9] 104) := by subst e10; exact get_put_self gs9
   clear e10
   (first|refine Go.finA rfl ?_|refine Go.finB rfl (hq:=?_))
   refine ⟨rfl, b9, c9, ⟨?_, gm9.keeps k10 (by simp; exact Ne.symm G.ap.1), ?_, G.kb, fun k hk => ?_, G.cb, ⟨G.ap.1, n9 _ hlt G.ap.2.1, n9 _ sr G.ap.2.2⟩, ⟨G.ow.1, G.ow.2.1, fun j hj => ?_⟩⟩, fun i hi => ?_⟩
   · rw [List.length_append]; exact gs10
   ·
    have := hs9.keeps k10 (fun j hj hm => by simp only [List.mem_singleton] at hm; subst hm; exact n9 _ hlt G.ap.2.1 hj)
    rw [List.length_append]
    simpa [u32s'] using this
   ·
    rcases List.mem_append.1 hk with q | q
    · exact G.db k q
    · simp only [List.mem_singleton] at q; omega
   ·
    rcases o9 j hj with q | q
    · exact G.ow.2.2 j q
    · omega
   ·
    rcases o9 i hi with q | q
    · exact .inl q
    · exact .inr (by omega)
  ·
   have hA : addN cum ks ds t = (1, cum, ks, ds) := by unfold addN; rw [if_pos hH, if_neg (by omega)]
   rw [hA]
   (refine Go.run (g:=?_))
   (first|refine Go.finA rfl ?_|refine Go.finB rfl (hq:=?_))
   exact ⟨rfl, da, dc, G2, fun i hi => .inl hi⟩
 | false =>
  have hH' : ¬ hasN cum ks t = true := by rw [hH]; decide
  (refine Go.run (g:=?_))
  refine GoR.call rfl rfl rfl rfl rfl rfl rfl (((hsp _).argA).mono ?_)
  rintro _ h3 ⟨rfl, rfl⟩ -
  rcases Nat.lt_or_ge 65535 (spanN cum t) with w0 | w0
  ·
   have hA : addN cum ks ds t = (2, cum, ks, ds) := by unfold addN; rw [if_neg hH', if_pos w0]
   rw [hA]
   (refine Go.run (g:=?_))
   (first|refine Go.finA rfl ?_|refine Go.finB rfl (hq:=?_))
   exact ⟨rfl, da, dc, G2, fun i hi => .inl hi⟩
  ·
   have hA : addN cum ks ds t = (0, (settleN (ks.length + 1) cum (ks ++ [t])).1, (settleN (ks.length + 1) cum (ks ++ [t])).2, ds) := by unfold addN; rw [if_neg hH', if_neg (by omega)]
   rw [hA]
   have hni : t ∉ ks := fun q => by unfold hasN at hH; rw [decide_eq_true q, Bool.true_or] at hH; cases hH
   (refine Go.run (g:=?_))
   refine GoR.mapUpdateS (.inl rfl) rfl rfl rfl rfl rfl G2.mp (.inl (by simp)) ?_
   intro h4 M4 k4 n4
   rw [aset_dn32 ks t hni] at M4
   have gs4 := k4.get gs2 (by simp; exact G.ap.1)
   have G4 : GSet h4 sb r cum (ks ++ [t]) da dc ds n0 := ⟨gs4, M4, G2.dv.keeps k4 (fun j hj hm => by simp only [List.mem_singleton] at hm; subst hm; exact G.ap.2.2 hj), fun k hk => by
    rcases List.mem_append.1 hk with q | q
    · exact G.kb k q
    · simp only [List.mem_singleton] at q; omega, G.db, G.cb, G.ap, G.ow⟩
   have n4' : h.n ≤ h4.n := by omega
   clear G2 gs2 M4 gs4 k4 n4 hhs hsp
   (refine Go.run (g:=?_))
   obtain ⟨T, hT⟩ : ∃ T, T = settleN (ks.length + 1) cum (ks ++ [t]) := ⟨_, rfl⟩
   rw [← hT]
   refine Go.loop (α := Nat × Nat × List Nat × AHeap) (fun _ => [(0, .pointer (some ⟨sb, 0, none⟩))]) (fun _ => []) (fun x => x.2.2.2) (fun x => x.2.2.1.length ≤ x.1 ∧ settleN x.1 x.2.1 x.2.2.1 = T ∧ h.n ≤ x.2.2.2.n ∧ GSet x.2.2.2 sb r x.2.1 x.2.2.1 da dc ds n0) (fun x => x.2.2.1.length) (ks.length + 1, cum, ks ++ [t], h4) ?_ ?_ rfl rfl ?_
   · exact ⟨by simp, hT.symm, n4', G4⟩
   · exact ⟨rfl, trivial⟩
   clear G4 hT n4'
   rintro ⟨f, c, ks', H⟩ ⟨hf, hset, hHn, G5⟩
   simp only at hf hset hHn G5 ⊢
   have gs5 := G5.sc
   have hnb := next32_lt c
   have ha := add32 c
   generalize hnc : next32 c = nc at *
   refine Go.runN (g:=?_)
   refine Go.loud (by kernel_rfl) rfl ?_
   (refine Go.runL (g:=?_))
   refine GoL.bin rfl rfl rfl rfl rfl rfl ha ?_
   (refine Go.runL (g:=?_))
   refine GoL.lookup2 rfl rfl rfl rfl rfl rfl G5.mp.imap ?_
   rw [al_dn32]
   have sr5 := G5.mp.lt
   have sl5 := AHeap.lt gs5
   have stop : nc ∉ ks' → T = (c, ks') := fun hk => by
    rw [← hset]
    cases f with
    | zero => rfl
    | succ f => unfold settleN; rw [hnc, if_neg hk]
   by_cases hk : nc ∈ ks'
   ·
    rw [if_pos hk]
    simp only [Option.getD_some, Option.isSome_some]
    (refine Go.runL (g:=?_))
    refine GoL.st (g:=?_)
    (refine Go.runL (g:=?_))
    refine GoL.endN (g:=?_)
    refine Go.name ?_
    intro H2 e2
    have s2' : Same H H2 := by subst e2; exact ((Same.refl H).push _).put (Nat.le_refl _) _
    clear e2
    have G6 := G5.same s2'
    have gs6 := G6.sc
    have m6 := s2'.1
    (refine Go.run (g:=?_))
    refine GoR.bin rfl rfl rfl rfl rfl rfl ha ?_
    (refine Go.run (g:=?_))
    have gm6 := G6.mp
    refine Go.name ?_
    intro h7 e7
    have k7 : Keeps [sb] H2 h7 := by subst e7; exact (Keeps.rf _ _).pt (.inl (by simp)) _
    have gs7 : h7.get sb = some (.cells [.int .u32 nc, .map (some r), .slice da ds.length dc] 104) := by subst e7; exact get_put_self gs6
    have n7 : h7.n = H2.n := by subst e7; rfl
    have M7 := gm6.keeps k7 (by simp; exact Ne.symm G6.ap.1)
    clear e7
    have V7 := G6.dv.keeps k7 (fun j hj hm => by simp only [List.mem_singleton] at hm; subst hm; exact G6.ap.2.1 hj)
    refine Go.loud (by kernel_rfl) rfl ?_
    (refine Go.runL (g:=?_))
    refine GoL.deleteS rfl rfl rfl rfl rfl M7 (.inl (by simp)) ?_
    intro h8 M8 k8 n8
    (refine Go.runL (g:=?_))
    refine GoL.endN (g:=?_)
    rw [adel_dn32] at M8
    have gs8 := k8.get gs7 (by simp; exact G6.ap.1)
    have V8 := V7.keeps k8 (fun j hj hm => by simp only [List.mem_singleton] at hm; subst hm; exact G6.ap.2.2 hj)
    have le : (ks'.erase nc).length + 1 = ks'.length := by
     have := List.length_erase_of_mem hk
     have := List.length_pos_of_mem hk
     omega
    (refine Go.run (g:=?_))
    obtain ⟨f', rfl⟩ : ∃ f', f = f' + 1 := ⟨f - 1, by omega⟩
    have hset' : settleN f' nc (ks'.erase nc) = T := by
     rw [← hset]
     conv => rhs; unfold settleN
     rw [hnc, if_pos hk]
    refine Go.again (f', nc, ks'.erase nc, h8) ⟨by simp only; omega, hset', by simp only; omega, gs8, M8, V8, fun k hk => G6.kb k (List.mem_of_mem_erase hk), G6.db, hnb, G6.ap, G6.ow⟩ (by simp only; omega) ⟨rfl, trivial⟩ rfl rfl
   ·
    rw [if_neg hk]
    simp only [Option.getD_none, Option.isSome_none]
    (refine Go.runL (g:=?_))
    refine GoL.st (g:=?_)
    (refine Go.runL (g:=?_))
    refine GoL.endN (g:=?_)
    refine Go.name ?_
    intro H2 e2
    have s2' : Same H H2 := by subst e2; exact ((Same.refl H).push _).put (Nat.le_refl _) _
    clear e2
    have G6 := G5.same s2'
    (refine Go.run (g:=?_))
    (first|refine Go.finA rfl ?_|refine Go.finB rfl (hq:=?_))
    rw [stop hk]
    exact ⟨rfl, da, dc, G6, fun i hi => .inl hi⟩
end Go.Proofs.Ytccbmmnkiihkaaa
namespace Go.Proofs.Ytccbmmnkiihkaaa
open Go.Sort
set_option maxRecDepth 100000
attribute [local irreducible] Go GoR GoL
section
variable {P : Program} {h : AHeap} {o : Oper} {ov : Ov} {W : Nat → Prop} {q : Bool} {N : Nat} {ops : Array Oper} {os : List Oper} {k : List It} {df : List Nat} {Q : PQ} {d : Nat} {b₀ : Bool}
theorem GoR.makeMapS {t : TypeId} (ho : o.op = .makeMap t none) (hd : o.dst = some d) (hN : dOk d N = true) (hgd : o.guard = none) (g : ∀ h', (∀ K, SMap h' h.n K []) → Same h h' → h'.n = h.n + 1 → GoR P W q N ops b₀ os k ((d, .map (some h.n)) :: ov) df h' Q) : GoR P W q N ops b₀ (o :: os) k ov df h Q := GoR.step (r := ⟨.map (some h.n), h.push (.map #[] 0), [], [], false, false⟩) hgd hd hN (S.makeMap ho) (.inr rfl) (fun i hi => by cases hi) (g _ (fun K => ⟨_, _, AHeap.get_push_same _ _, rfl, by simp [stampsOk]⟩) ((Same.refl h).push _) rfl)
end
set_option maxHeartbeats 4000000 in
theorem gnew_spec (cum : Nat) (hc : cum < 4294967296) (h : AHeap) : CallS Try.prog [] 30 [.int .u32 cum] h fun v h' => ∃ sb r, v = .pointer (some ⟨sb, 0, none⟩) ∧ GSet h' sb r cum [] none 0 [] h.n := by
 (refine CallS.of1 Try.func30 rfl Try.ntmps30 Try.results30 rfl ?_)
 (refine Go.run (g:=?_))
 refine GoR.makeMapS rfl rfl rfl rfl ?_
 intro h1 M1 s1 n1
 (refine Go.run (g:=?_))
 refine Go.name ?_
 intro h2 e2
 have s2 : Same h1 h2 := by subst e2; exact (Same.refl h1).push _
 have g2 : h2.get h1.n = some (.cells [.int .u32 cum, .map (some h.n), .slice none 0 0] 104) := by subst e2; exact AHeap.get_push_same _ _
 clear e2
 (first|refine Go.finA rfl ?_|refine Go.finB rfl (hq:=?_))
 have m1 := s1.1
 refine ⟨_, _, rfl, g2, (M1 _).same s2, ?_, ?_, ?_, hc, ⟨by omega, ?_, ?_⟩, ⟨by omega, Nat.le_refl _, ?_⟩⟩
 · exact Sv.nil
 · intro k hk; cases hk
 · intro k hk; cases hk
 · simp [blk]
 · simp [blk]
 · intro j hj; simp [blk] at hj
set_option maxHeartbeats 4000000 in
theorem gnext_spec (sb r cum : Nat) (ks : List Nat) (da : Option Addr) (dc : Nat) (ds : List Nat) (n0 t : Nat) (ht : t < 4294967296) (h : AHeap) (G : GSet h sb r cum ks da dc ds n0) : CallS Try.prog [] 33 [.pointer (some ⟨sb, 0, none⟩), .int .u32 t] h fun v h' => v = .bool (decide (t = next32 cum)) ∧ h' = h := by
 have gs := G.sc
 have ha := add32 cum
 generalize next32 cum = nc at *
 (refine CallS.of2 Try.func33 rfl Try.ntmps33 Try.results33 rfl ?_)
 (refine Go.run (g:=?_))
 refine GoR.eqRef rfl rfl rfl rfl (.inr rfl) rfl rfl (aEq_ptrNil setU _) ?_
 (refine Go.run (g:=?_))
 refine GoR.bin rfl rfl rfl rfl rfl rfl ha ?_
 (refine Go.run (g:=?_))
 (first|refine Go.finA rfl ?_|refine Go.finB rfl (hq:=?_))
 refine ⟨?_, rfl⟩
 simp only [retV]
 exact congrArg Value.bool (decide_eq_decide.2 (by omega))
set_option maxHeartbeats 4000000 in
theorem gdups_spec (sb r cum : Nat) (ks : List Nat) (da : Option Addr) (dc : Nat) (ds : List Nat) (n0 : Nat) (h : AHeap) (G : GSet h sb r cum ks da dc ds n0) : CallS Try.prog [sb] 46 [.pointer (some ⟨sb, 0, none⟩)] h fun v h' => v = .slice da ds.length dc ∧ GSet h' sb r cum ks none 0 [] n0 ∧ Sv h' 23 1 da ds.length dc (u32s' ds) := by
 have gs := G.sc
 have hlt := AHeap.lt gs
 (refine CallS.of1 Try.func46 rfl Try.ntmps46 Try.results46 rfl ?_)
 (refine Go.run (g:=?_))
 refine GoR.eqRef rfl rfl rfl rfl (.inl rfl) rfl rfl (aEq_ptrNil setU _) ?_
 (refine Go.run (g:=?_))
 refine Go.name ?_
 intro h2 e2
 have k2 : Keeps [sb] h h2 := by subst e2; exact (Keeps.rf _ _).pt (.inl (by simp)) _
 have g2 : h2.get sb = some (.cells [.int .u32 cum, .map (some r), .slice none 0 0] 104) := by subst e2; exact get_put_self gs
 clear e2
 (first|refine Go.finA rfl ?_|refine Go.finB rfl (hq:=?_))
 refine ⟨rfl, ⟨g2, G.mp.keeps k2 (by simp; exact Ne.symm G.ap.1), Sv.nil, G.kb, (fun k hk => by cases hk), G.cb, ⟨G.ap.1, by simp [blk], by simp [blk]⟩, ⟨G.ow.1, G.ow.2.1, fun j hj => by simp [blk] at hj⟩⟩, G.dv.keeps k2 (fun j hj hm => by simp only [List.mem_singleton] at hm; subst hm; exact G.ap.2.1 hj)⟩
end Go.Proofs.Ytccbmmnkiihkaaa
namespace Go.Proofs.Ytccbmmnkiihkaaa
open Go.Sort
set_option maxRecDepth 100000
attribute [local irreducible] Go GoR GoL
end Go.Proofs.Ytccbmmnkiihkaaa
namespace Go.Proofs.Ytccbmmnkiihkaaa
open Go.Sort
set_option maxRecDepth 100000
attribute [local irreducible] Go GoR GoL
set_option maxHeartbeats 8000000 in
theorem rway_spec (a b : Nat) (ha : a < 4294967296) (hb : b < 4294967296) (h : AHeap) : CallS Try.prog [] 40 [.int .i64 a, .int .i64 b, .int .i64 (4294967296 : Nat)] h fun v h' => v = .int .i64 (spanN a b : Nat) ∧ h' = h := by
 (refine CallS.of3 Try.func40 rfl Try.ntmps40 Try.results40 rfl ?_)
 rcases Nat.lt_or_ge b a with q | q
 ·
  have e : spanN a b = 4294967296 + b - a := by unfold spanN; omega
  rw [e]
  (refine Go.run (g:=?_))
  (first|refine Go.finA rfl ?_|refine Go.finB rfl (hq:=?_))
  exact ⟨rfl, rfl⟩
 ·
  have e : spanN a b = b - a := by unfold spanN; omega
  rw [e]
  (refine Go.run (g:=?_))
  (first|refine Go.finA rfl ?_|refine Go.finB rfl (hq:=?_))
  exact ⟨rfl, rfl⟩
abbrev i64s (ws : List Nat) : List Value := ws.map fun (n : Nat) => Value.int .i64 (n : Int)
structure RSet (h : AHeap) (rb cum : Nat) (wa : Option Addr) (wc : Nat) (ws : List Nat) (da : Option Addr) (dc : Nat) (ds : List Nat) (n0 : Nat) : Prop where
 sc : h.get rb = some (.cells [.int .u32 cum, .slice wa ws.length wc, .slice da ds.length dc] 54)
 wv : Sv h 2 1 wa ws.length wc (i64s ws)
 dv : Sv h 23 1 da ds.length dc (u32s' ds)
 wb : ∀ w ∈ ws, w < 65536
 db : ∀ k ∈ ds, k < 4294967296
 cb : cum < 4294967296
 ap : rb ∉ blk wa ∧ rb ∉ blk da ∧ ∀ j ∈ blk wa, j ∉ blk da
 ow : n0 ≤ rb ∧ Own n0 wa ∧ Own n0 da
theorem RSet.same {h h' : AHeap} {rb cum : Nat} {wa da : Option Addr} {wc dc : Nat} {ws ds : List Nat} {n0 : Nat} (g : RSet h rb cum wa wc ws da dc ds n0) (s : Same h h') : RSet h' rb cum wa wc ws da dc ds n0 := { g with sc := s.get g.sc, wv := g.wv.same s, dv := g.dv.same s }
set_option maxHeartbeats 8000000 in
theorem rw_spec (rb cum : Nat) (wa da : Option Addr) (wc dc : Nat) (ws ds : List Nat) (n0 t : Nat) (ht : t < 4294967296) (h : AHeap) (G : RSet h rb cum wa wc ws da dc ds n0) : CallS Try.prog [] 57 [.pointer (some ⟨rb, 0, none⟩), .int .u32 t] h fun v h' => v = .int .i64 (spanN cum t : Nat) ∧ h' = h := by
 have gs := G.sc
 have hw := rway_spec cum t G.cb ht
 have cb := G.cb
 (refine CallS.of2 Try.func57 rfl Try.ntmps57 Try.results57 rfl ?_)
 (refine Go.run (g:=?_))
 refine GoR.call rfl rfl rfl rfl rfl rfl rfl (((hw _).argA).mono ?_)
 rintro _ h2 ⟨rfl, rfl⟩ -
 (refine Go.run (g:=?_))
 (first|refine Go.finA rfl ?_|refine Go.finB rfl (hq:=?_))
 exact ⟨rfl, rfl⟩
end Go.Proofs.Ytccbmmnkiihkaaa
namespace Go.Proofs.Ytccbmmnkiihkaaa
open Go.Sort
set_option maxRecDepth 100000
attribute [local irreducible] Go GoR GoL
set_option maxHeartbeats 8000000 in
theorem rbefore_spec (a b : Nat) (ha : a < 4294967296) (hb : b < 4294967296) (h : AHeap) : CallS Try.prog [] 58 [.int .u32 a, .int .u32 b] h fun v h' => v = .bool (bef32 a b) ∧ h' = h := by
 have hw := rway_spec a b ha hb
 have hl := span_lt a b
 unfold bef32
 generalize spanN a b = s at *
 (refine CallS.of2 Try.func58 rfl Try.ntmps58 Try.results58 rfl ?_)
 (refine Go.run (g:=?_))
 refine GoR.call rfl rfl rfl rfl rfl rfl rfl (((hw _).argA).mono ?_)
 rintro _ h2 ⟨rfl, rfl⟩ -
 rcases Nat.lt_or_ge 0 s with s0 | s0
 case inr =>
  obtain rfl : s = 0 := by omega
  (refine Go.run (g:=?_))
  (first|refine Go.finA rfl ?_|refine Go.finB rfl (hq:=?_))
  exact ⟨rfl, rfl⟩
 (refine Go.run (g:=?_))
 (first|refine Go.finA rfl ?_|refine Go.finB rfl (hq:=?_))
 refine ⟨?_, rfl⟩
 simp only [retV]
 rw [decide_eq_true s0, Bool.true_and]
 exact congrArg Value.bool (decide_eq_decide.2 (by omega))
set_option maxHeartbeats 8000000 in
theorem rtake_spec (rb cum : Nat) (wa da : Option Addr) (wc dc : Nat) (ws ds : List Nat) (n0 : Nat) (h : AHeap) (G : RSet h rb cum wa wc ws da dc ds n0) : CallS Try.prog [rb] 48 [.pointer (some ⟨rb, 0, none⟩)] h fun v h' => v = .slice da ds.length dc ∧ RSet h' rb cum wa wc ws none 0 [] n0 ∧ Sv h' 23 1 da ds.length dc (u32s' ds) := by
 have gs := G.sc
 have hlt := AHeap.lt gs
 (refine CallS.of1 Try.func48 rfl Try.ntmps48 Try.results48 rfl ?_)
 (refine Go.run (g:=?_))
 refine Go.name ?_
 intro h2 e2
 have k2 : Keeps [rb] h h2 := by subst e2; exact (Keeps.rf _ _).pt (.inl (by simp)) _
 have g2 : h2.get rb = some (.cells [.int .u32 cum, .slice wa ws.length wc, .slice none 0 0] 54) := by subst e2; exact get_put_self gs
 clear e2
 (first|refine Go.finA rfl ?_|refine Go.finB rfl (hq:=?_))
 refine ⟨rfl, ⟨g2, G.wv.keeps k2 (fun j hj hm => by simp only [List.mem_singleton] at hm; subst hm; exact G.ap.1 hj), Sv.nil, G.wb, (fun k hk => by cases hk), G.cb, ⟨G.ap.1, by simp [blk], fun j _ => by simp [blk]⟩, ⟨G.ow.1, G.ow.2.1, fun j hj => by simp [blk] at hj⟩⟩, G.dv.keeps k2 (fun j hj hm => by simp only [List.mem_singleton] at hm; subst hm; exact G.ap.2.1 hj)⟩
end Go.Proofs.Ytccbmmnkiihkaaa
namespace Go.Proofs.Ytccbmmnkiihkaaa
open Go.Sort
set_option maxRecDepth 100000
attribute [local irreducible] Go GoR GoL
def hasW (cum : Nat) (ws : List Nat) (t : Nat) : Bool := decide (spanN cum t ∈ ws) || (decide (spanN cum t = 0) || bef32 t cum)
set_option maxHeartbeats 16000000 in
theorem rhas_spec (rb cum : Nat) (wa da : Option Addr) (wc dc : Nat) (ws ds : List Nat) (n0 t : Nat) (ht : t < 4294967296) (hl : ws.length ≤ 70000) (h : AHeap) (G : RSet h rb cum wa wc ws da dc ds n0) : CallS Try.prog [] 41 [.pointer (some ⟨rb, 0, none⟩), .int .u32 t] h fun v h' => v = .bool (hasW cum ws t) := by
 have gs := G.sc
 have cb := G.cb
 have hw := rw_spec rb cum wa da wc dc ws ds n0 t ht h G
 have hbs := rbefore_spec t cum ht G.cb
 have hs := span_lt cum t
 unfold hasW
 generalize spanN cum t = w at *
 (refine CallS.of2 Try.func41 rfl Try.ntmps41 Try.results41 rfl ?_)
 (refine Go.run (g:=?_))
 refine GoR.call rfl rfl rfl rfl rfl rfl rfl (((hw).argA).mono ?_)
 rintro _ h2 ⟨rfl, rfl⟩ -
 (refine Go.run (g:=?_))
 have sv := G.wv
 have hwb := G.wb
 have hle : (i64s ws).length = ws.length := by simp
 refine Go.loop (α := Nat) (fun i => [(6, .int .i64 i), (5, .int .i64 w), (0, .pointer (some ⟨rb, 0, none⟩)), (1, .int .u32 t)]) (fun _ => []) (fun _ => h2) (fun i => i ≤ ws.length ∧ w ∉ ws.take i) (fun i => ws.length - i) 0 ⟨Nat.zero_le _, by simp⟩ ⟨rfl, rfl, rfl, rfl, trivial⟩ rfl rfl ?_
 rintro i ⟨hi, hn⟩
 rcases Nat.lt_or_ge i ws.length with i0 | i0
 ·
  have c0 : (i64s ws)[i]? = some (.int .i64 (ws[i] : Nat)) := by simp [i0]
  have htk : ws.take (i + 1) = ws.take i ++ [ws[i]] := by simp
  have hm : ws[i] ∈ ws := List.getElem_mem i0
  have hb := hwb _ hm
  generalize ws[i] = x at *
  by_cases e : x = w
  ·
   subst e
   (refine Go.run (g:=?_))
   (first|refine Go.finA rfl ?_|refine Go.finB rfl (hq:=?_))
   simp [retV, hm]
  ·
   (refine Go.run (g:=?_))
   exact Go.again (i + 1) ⟨i0, by rw [htk]; simp [hn, Ne.symm e]⟩ (by omega) ⟨rfl, rfl, rfl, rfl, trivial⟩ rfl rfl
 have hie : i = ws.length := by omega
 subst hie
 rw [List.take_length] at hn
 rw [decide_eq_false hn, Bool.false_or]
 by_cases w0 : w = 0
 ·
  subst w0
  (refine Go.run (g:=?_))
  (first|refine Go.finA rfl ?_|refine Go.finB rfl (hq:=?_))
  simp [retV]
 ·
  rw [decide_eq_false w0, Bool.false_or]
  (refine Go.run (g:=?_))
  refine GoR.call rfl rfl rfl rfl rfl rfl rfl (((hbs _).argA).mono ?_)
  rintro _ h3 ⟨rfl, rfl⟩ -
  (refine Go.run (g:=?_))
  (first|refine Go.finA rfl ?_|refine Go.finB rfl (hq:=?_))
  simp [retV]
end Go.Proofs.Ytccbmmnkiihkaaa
namespace Go.Proofs.Ytccbmmnkiihkaaa
open Go.Sort
set_option maxRecDepth 100000
attribute [local irreducible] Go GoR GoL
set_option maxHeartbeats 16000000 in
theorem sameTsns_spec (aa ab : Option Addr) (ca cb : Nat) (xs ys : List Nat) (hl : xs.length ≤ 70000) (hl2 : ys.length ≤ 70000) (h : AHeap) (A1 : Sv h 23 1 aa xs.length ca (u32s' xs)) (A2 : Sv h 23 1 ab ys.length cb (u32s' ys)) : CallS Try.prog [] 18 [.slice aa xs.length ca, .slice ab ys.length cb] h fun v h' => v = .bool (decide (xs = ys)) ∧ h' = h := by
 have hle : (u32s' xs).length = xs.length := by simp
 have hle2 : (u32s' ys).length = ys.length := by simp
 (refine CallS.of2 Try.func18 rfl Try.ntmps18 Try.results18 rfl ?_)
 by_cases hlen : xs.length = ys.length
 case neg =>
  have hne : xs ≠ ys := fun q => hlen (by rw [q])
  rw [decide_eq_false hne]
  (refine Go.run (g:=?_))
  (first|refine Go.finA rfl ?_|refine Go.finB rfl (hq:=?_))
  exact ⟨rfl, rfl⟩
 (refine Go.run (g:=?_))
 refine Go.loop (α := Nat) (fun i => [(5, .int .i64 i), (0, .slice aa xs.length ca), (1, .slice ab ys.length cb)]) (fun _ => []) (fun _ => h) (fun i => i ≤ xs.length ∧ xs.take i = ys.take i) (fun i => xs.length - i) 0 ⟨Nat.zero_le _, rfl⟩ ⟨rfl, rfl, rfl, trivial⟩ rfl rfl ?_
 rintro i ⟨hi, hn⟩
 rcases Nat.lt_or_ge i xs.length with i0 | i0
 ·
  have i1 : i < ys.length := by omega
  have c0 : (u32s' xs)[i]? = some (.int .u32 (xs[i] : Nat)) := by simp [i0]
  have c1 : (u32s' ys)[i]? = some (.int .u32 (ys[i] : Nat)) := by simp [i1]
  have tx : xs.take (i + 1) = xs.take i ++ [xs[i]] := by simp
  have ty : ys.take (i + 1) = ys.take i ++ [ys[i]] := by simp
  have hne : xs[i] ≠ ys[i] → xs ≠ ys := fun q e => q (by subst e; rfl)
  generalize xs[i] = x at *
  generalize ys[i] = y at *
  by_cases e : x = y
  ·
   subst e
   (refine Go.run (g:=?_))
   exact Go.again (i + 1) ⟨i0, by rw [tx, ty, hn]⟩ (by omega) ⟨rfl, rfl, rfl, trivial⟩ rfl rfl
  ·
   rw [decide_eq_false (hne e)]
   (refine Go.run (g:=?_))
   (first|refine Go.finA rfl ?_|refine Go.finB rfl (hq:=?_))
   exact ⟨rfl, rfl⟩
 have hie : i = xs.length := by omega
 subst hie
 rw [List.take_length, hlen, List.take_length] at hn
 rw [decide_eq_true hn]
 (refine Go.run (g:=?_))
 (first|refine Go.finA rfl ?_|refine Go.finB rfl (hq:=?_))
 exact ⟨rfl, rfl⟩
end Go.Proofs.Ytccbmmnkiihkaaa
namespace Go.Proofs.Ytccbmmnkiihkaaa
open Go.Sort
set_option maxRecDepth 100000
attribute [local irreducible] Go GoR GoL
instance seqGap8 (a b a' b' : Int) : SEq Try.prog 97 [.int .u16 a, .int .u16 b] [.int .u16 a', .int .u16 b'] (a == a' && (b == b' && true)) := ⟨by kernel_rfl⟩
theorem gcs_get : ∀ {l : List (Nat × Nat)} {i : Nat} (hi : i < l.length), ((gcs l).drop (i * 2)).take 2 = [.int .u16 (l[i].1 : Nat), .int .u16 (l[i].2 : Nat)]
 | x :: l, 0, _ => rfl
 | x :: l, i + 1, hi => by
  have := gcs_get (l := l) (i := i) (by simpa using hi)
  rw [show (i + 1) * 2 = i * 2 + 1 + 1 by omega]
  exact this
set_option maxHeartbeats 16000000 in
theorem sameGaps_spec (aa ab : Option Addr) (ca cb : Nat) (xs ys : List (Nat × Nat)) (hl : xs.length ≤ 70000) (hl2 : ys.length ≤ 70000) (h : AHeap) (A1 : Sv h 97 2 aa xs.length ca (gcs xs)) (A2 : Sv h 97 2 ab ys.length cb (gcs ys)) : CallS Try.prog [] 17 [.slice aa xs.length ca, .slice ab ys.length cb] h fun v h' => v = .bool (decide (xs = ys)) ∧ h' = h := by
 (refine CallS.of2 Try.func17 rfl Try.ntmps17 Try.results17 rfl ?_)
 by_cases hlen : xs.length = ys.length
 case neg =>
  have hne : xs ≠ ys := fun q => hlen (by rw [q])
  rw [decide_eq_false hne]
  (refine Go.run (g:=?_))
  (first|refine Go.finA rfl ?_|refine Go.finB rfl (hq:=?_))
  exact ⟨rfl, rfl⟩
 (refine Go.run (g:=?_))
 refine Go.loop (α := Nat) (fun i => [(5, .int .i64 i), (0, .slice aa xs.length ca), (1, .slice ab ys.length cb)]) (fun _ => []) (fun _ => h) (fun i => i ≤ xs.length ∧ xs.take i = ys.take i) (fun i => xs.length - i) 0 ⟨Nat.zero_le _, rfl⟩ ⟨rfl, rfl, rfl, trivial⟩ rfl rfl ?_
 rintro i ⟨hi, hn⟩
 rcases Nat.lt_or_ge i xs.length with i0 | i0
 ·
  have i1 : i < ys.length := by omega
  have c0 := gcs_get i0
  have c1 := gcs_get i1
  have hbe : i * 2 + 2 ≤ (gcs xs).length := by rw [gcs_len]; omega
  have hbe1 : i * 2 + 2 ≤ (gcs ys).length := by rw [gcs_len]; omega
  have tx : xs.take (i + 1) = xs.take i ++ [xs[i]] := by simp
  have ty : ys.take (i + 1) = ys.take i ++ [ys[i]] := by simp
  have hne : xs[i] ≠ ys[i] → xs ≠ ys := fun q e => q (by subst e; rfl)
  generalize xs[i] = x at *
  generalize ys[i] = y at *
  obtain ⟨x1, x2⟩ := x
  obtain ⟨y1, y2⟩ := y
  simp only at c0 c1
  by_cases e : (x1, x2) = (y1, y2)
  ·
   obtain ⟨rfl, rfl⟩ := Prod.mk.inj e
   (refine Go.run (g:=?_))
   rw [show (!(((x1 : Int) == (x1 : Int)) && (((x2 : Int) == (x2 : Int)) && true))) = false from by simp]
   (refine Go.run (g:=?_))
   exact Go.again (i + 1) ⟨i0, by rw [tx, ty, hn]⟩ (by omega) ⟨rfl, rfl, rfl, trivial⟩ rfl rfl
  ·
   rw [decide_eq_false (hne e)]
   have hb : (!(((x1 : Int) == (y1 : Int)) && (((x2 : Int) == (y2 : Int)) && true))) = true := by
    rw [Bool.not_eq_true', Bool.and_true, Bool.and_eq_false_iff]
    by_cases q : x1 = y1
    · exact .inr (by rw [beq_eq_false_iff_ne]; intro z; exact e (by rw [q]; congr 1; omega))
    · exact .inl (by rw [beq_eq_false_iff_ne]; intro z; exact q (by omega))
   (refine Go.run (g:=?_))
   rw [hb]
   (refine Go.run (g:=?_))
   (first|refine Go.finA rfl ?_|refine Go.finB rfl (hq:=?_))
   exact ⟨rfl, rfl⟩
 have hie : i = xs.length := by omega
 subst hie
 rw [List.take_length, hlen, List.take_length] at hn
 rw [decide_eq_true hn]
 (refine Go.run (g:=?_))
 (first|refine Go.finA rfl ?_|refine Go.finB rfl (hq:=?_))
 exact ⟨rfl, rfl⟩
end Go.Proofs.Ytccbmmnkiihkaaa
namespace Go.Proofs.Ytccbmmnkiihkaaa
open Go.Sort
set_option maxRecDepth 100000
attribute [local irreducible] Go GoR GoL
def atW (w : Nat) : List Nat → Nat
 | [] => 0
 | x :: l => if x < w then atW w l + 1 else 0
def insW (ws : List Nat) (w : Nat) : List Nat := ws.take (atW w ws) ++ w :: ws.drop (atW w ws)
def settleW : Nat → Nat → List Nat → Nat × List Nat
 | 0, c, ws => (c, ws)
 | n + 1, c, ws => if ws.head? = some 1 then settleW n (next32 c) (ws.tail.map (· - 1)) else (c, ws)
def addW (cum : Nat) (ws ds : List Nat) (t : Nat) : Nat × Nat × List Nat × List Nat :=
 if hasW cum ws t = true then (1, cum, ws, if ds.length < 16 then ds ++ [t] else ds)
 else if 65535 < spanN cum t then (2, cum, ws, ds)
 else (0, (settleW (ws.length + 1) cum (insW ws (spanN cum t))).1, (settleW (ws.length + 1) cum (insW ws (spanN cum t))).2, ds)
theorem atW_le (w : Nat) : ∀ ws : List Nat, atW w ws ≤ ws.length
 | [] => Nat.le_refl _
 | x :: l => by unfold atW; have := atW_le w l; split <;> simp <;> omega
theorem atW_stop {w : Nat} : ∀ {ws : List Nat} {i : Nat}, i ≤ ws.length → (∀ x ∈ ws.take i, x < w) → (∀ h : i < ws.length, ¬ ws[i] < w) → atW w ws = i
 | [], i, h, _, _ => by simp at h; subst h; rfl
 | x :: l, 0, _, _, h => by unfold atW; rw [if_neg]; exact h (by simp)
 | x :: l, i + 1, h, a, b => by
  unfold atW
  rw [if_pos (a x (by simp)), atW_stop (ws := l) (i := i) (by simpa using h) (fun y hy => a y (by simp [hy])) (fun q => by have := b (by simpa using q); simpa using this)]
theorem insW_nil (w : Nat) : insW [] w = [w] := rfl
theorem insW_cons (x w : Nat) (l : List Nat) : insW (x :: l) w = if x < w then x :: insW l w else w :: x :: l := by
 unfold insW
 by_cases h : x < w
 · rw [if_pos h]; simp [atW, h]
 · rw [if_neg h]; simp [atW, h]
theorem insW_perm (w : Nat) (l : List Nat) : (insW l w).Perm (w :: l) := by
 unfold insW
 have := List.perm_middle (a := w) (l₁ := l.take (atW w l)) (l₂ := l.drop (atW w l))
 rwa [List.take_append_drop] at this
theorem insW_mem {w y : Nat} {l : List Nat} : y ∈ insW l w ↔ y = w ∨ y ∈ l := by
 rw [(insW_perm w l).mem_iff, List.mem_cons]
theorem insW_sorted {w : Nat} : ∀ {l : List Nat}, l.Pairwise (· < ·) → w ∉ l → (insW l w).Pairwise (· < ·)
 | [], _, _ => by rw [insW_nil]; exact List.pairwise_singleton _ _
 | x :: l, h, hn => by
  rw [insW_cons]
  rw [List.pairwise_cons] at h
  simp only [List.mem_cons, not_or] at hn
  split
  ·
   rename_i q
   refine List.pairwise_cons.2 ⟨fun y hy => ?_, insW_sorted h.2 hn.2⟩
   rcases insW_mem.1 hy with rfl | z
   · exact q
   · exact h.1 y z
  ·
   rename_i q
   refine List.pairwise_cons.2 ⟨fun y hy => ?_, List.pairwise_cons.2 h⟩
   rcases List.mem_cons.1 hy with rfl | z
   · omega
   · have := h.1 y z; omega
set_option maxHeartbeats 32000000 in
theorem radd_spec (rb cum : Nat) (wa da : Option Addr) (wc dc : Nat) (ws ds : List Nat) (n0 t : Nat) (ht : t < 4294967296) (hds : ds.length ≤ 16) (hl : ws.length ≤ 65535) (hp : ∀ w ∈ ws, 1 ≤ w) (hs : ws.Pairwise (· < ·)) (h : AHeap) (hn0 : n0 ≤ h.n) (G : RSet h rb cum wa wc ws da dc ds n0) : CallS Try.prog ([rb] ++ blk da) 42 [.pointer (some ⟨rb, 0, none⟩), .int .u32 t] h fun v h' => v = .int .u8 ((addW cum ws ds t).1 : Nat) ∧ ∃ wa' wc' da' dc', RSet h' rb (addW cum ws ds t).2.1 wa' wc' (addW cum ws ds t).2.2.1 da' dc' (addW cum ws ds t).2.2.2 n0 ∧ (∀ i ∈ blk da', i ∈ blk da ∨ h.n ≤ i) ∧ ∀ i ∈ blk wa', i ∈ blk wa ∨ h.n ≤ i := by
 have gs := G.sc
 have hlt := AHeap.lt gs
 have hsp := rw_spec rb cum wa da wc dc ws ds n0 t ht
 have hhs := rhas_spec rb cum wa da wc dc ws ds n0 t ht (by omega) h G
 (refine CallS.of2 Try.func42 rfl Try.ntmps42 Try.results42 rfl ?_)
 (refine Go.run (g:=?_))
 refine GoR.call rfl rfl rfl rfl rfl rfl rfl (((hhs).argA).mono ?_)
 rintro _ h2 rfl s2
 have G2 := G.same s2
 have gs2 := G2.sc
 have m2 := s2.1
 cases hH : hasW cum ws t with
 | true =>
  rcases Nat.lt_or_ge ds.length 16 with l0 | l0
  ·
   have hA : addW cum ws ds t = (1, cum, ws, ds ++ [t]) := by unfold addW; rw [if_pos hH, if_pos l0]
   rw [hA]
   (refine Go.run (g:=?_))
   refine GoR.buildRo (c := [.int .u32 (t : Nat)]) rfl rfl rfl rfl rfl (by decide) (by rfl) (by rfl) ?_
   intro b8 h8 hb8 rb8 ob8 s8 n8
   have m8 := s8.1
   refine GoR.appendV rfl rfl rfl rfl rfl rfl (G2.dv.same s8) hb8 (fun j hj => .inl (by simp [hj])) (by omega) (by omega) (by rfl) ?_
   intro b9 c9 h9 hs9 k9 o9
   have m9 := k9.1
   have gs9 := k9.get (s8.get gs2) G.ap.2.1
   have gw9 := (G2.wv.same s8).keeps k9 (fun j hj hm => G.ap.2.2 j hj hm)
   have n9 : ∀ j, j < h.n → j ∉ blk da → j ∉ blk b9 := fun j hj hn hm => by rcases o9 j hm with q | q; exact hn q; omega
   have sr : ∀ j ∈ blk wa, j < h.n := G.wv.lt
   (refine Go.run (g:=?_))
   refine Go.name ?_
   intro h10 e10
   have k10 : Keeps [rb] h9 h10 := by subst e10; exact (Keeps.rf _ _).pt (.inl (by simp)) _
   have gs10 : h10.get rb = some (.cells [.int .u32 cum, .slice wa ws.length wc, .slice b9 (ds.length + 1) c9] 54) := by subst e10; exact get_put_self gs9
   clear e10
   (first|refine Go.finA rfl ?_|refine Go.finB rfl (hq:=?_))
   refine ⟨rfl, wa, wc, b9, c9, ⟨?_, gw9.keeps k10 (fun j hj hm => by simp only [List.mem_singleton] at hm; subst hm; exact G.ap.1 hj), ?_, G.wb, fun k hk => ?_, G.cb, ⟨G.ap.1, n9 _ hlt G.ap.2.1, fun j hj => n9 j (sr j hj) (G.ap.2.2 j hj)⟩, ⟨G.ow.1, G.ow.2.1, fun j hj => ?_⟩⟩, fun i hi => ?_, fun i hi => .inl hi⟩
   · rw [List.length_append]; exact gs10
   ·
    have := hs9.keeps k10 (fun j hj hm => by simp only [List.mem_singleton] at hm; subst hm; exact n9 _ hlt G.ap.2.1 hj)
    rw [List.length_append]
    simpa [u32s'] using this
   ·
    rcases List.mem_append.1 hk with q | q
    · exact G.db k q
    · simp only [List.mem_singleton] at q; omega
   ·
    rcases o9 j hj with q | q
    · exact G.ow.2.2 j q
    · omega
   ·
    rcases o9 i hi with q | q
    · exact .inl q
    · exact .inr (by omega)
  ·
   have hA : addW cum ws ds t = (1, cum, ws, ds) := by unfold addW; rw [if_pos hH, if_neg (by omega)]
   rw [hA]
   (refine Go.run (g:=?_))
   (first|refine Go.finA rfl ?_|refine Go.finB rfl (hq:=?_))
   exact ⟨rfl, wa, wc, da, dc, G2, fun i hi => .inl hi, fun i hi => .inl hi⟩
 | false =>
  have hH' : ¬ hasW cum ws t = true := by rw [hH]; decide
  have hs1 := span_lt cum t
  have hw0 : spanN cum t ≠ 0 := fun q => by unfold hasW at hH; rw [decide_eq_true q] at hH; simp at hH
  (refine Go.run (g:=?_))
  refine GoR.call rfl rfl rfl rfl rfl rfl rfl (((hsp _ G2).argA).mono ?_)
  rintro _ h3 ⟨rfl, rfl⟩ -
  rcases Nat.lt_or_ge 65535 (spanN cum t) with w0 | w0
  ·
   have hA : addW cum ws ds t = (2, cum, ws, ds) := by unfold addW; rw [if_neg hH', if_pos w0]
   rw [hA]
   (refine Go.run (g:=?_))
   (first|refine Go.finA rfl ?_|refine Go.finB rfl (hq:=?_))
   exact ⟨rfl, wa, wc, da, dc, G2, fun i hi => .inl hi, fun i hi => .inl hi⟩
  ·
   have hA : addW cum ws ds t = (0, (settleW (ws.length + 1) cum (insW ws (spanN cum t))).1, (settleW (ws.length + 1) cum (insW ws (spanN cum t))).2, ds) := by unfold addW; rw [if_neg hH', if_neg (by omega)]
   rw [hA]
   have hwn : spanN cum t ∉ ws := fun q => by unfold hasW at hH; rw [decide_eq_true q, Bool.true_or] at hH; cases hH
   generalize spanN cum t = w at *
   (refine Go.run (g:=?_))
   refine Go.join2 (α := Nat) (fun i => [(6, .int .i64 i), (5, .int .i64 w), (0, .pointer (some ⟨rb, 0, none⟩))]) (fun _ => []) (fun _ => h3) (fun i => i = atW w ws) ?_ ?_
   ·
    have sv := G2.wv
    have hwb := G2.wb
    refine Go.loop (α := Nat) (fun i => [(6, .int .i64 i), (5, .int .i64 w), (0, .pointer (some ⟨rb, 0, none⟩))]) (fun _ => []) (fun _ => h3) (fun i => i ≤ ws.length ∧ ∀ x ∈ ws.take i, x < w) (fun i => ws.length - i) 0 ⟨Nat.zero_le _, by simp⟩ ⟨rfl, rfl, rfl, trivial⟩ rfl rfl ?_
    rintro i ⟨hi, hn⟩
    rcases Nat.lt_or_ge i ws.length with i0 | i0
    ·
     have c0 : (i64s ws)[i]? = some (.int .i64 (ws[i] : Nat)) := by simp [i0]
     have htk : ws.take (i + 1) = ws.take i ++ [ws[i]] := by simp
     have hst : ¬ ws[i] < w → atW w ws = i := fun q => atW_stop hi hn fun _ => q
     have hb := hwb _ (List.getElem_mem i0)
     have hle : (i64s ws).length = ws.length := by simp
     generalize ws[i] = x at *
     by_cases e : x < w
     ·
      (refine Go.run (g:=?_))
      exact Go.again (i + 1) ⟨i0, by rw [htk]; simpa [or_imp, forall_and] using ⟨hn, e⟩⟩ (by omega) ⟨rfl, rfl, rfl, trivial⟩ rfl rfl
     ·
      have hst := hst e
      (refine Go.run (g:=?_))
      exact Go.joined i hst.symm ⟨rfl, rfl, rfl, trivial⟩ rfl rfl
    have hst := @atW_stop w ws i hi hn (fun q => by omega)
    have hie : i = ws.length := by omega
    (refine Go.run (g:=?_))
    exact Go.joined i hst.symm ⟨rfl, rfl, rfl, trivial⟩ rfl rfl
   rintro i hie
   have hi := atW_le w ws
   have hins : insW ws w = ws.take i ++ w :: ws.drop i := by rw [hie]; rfl
   rw [← hie] at hi
   clear hie
   rw [hins]
   have hso : (ws.take i ++ w :: ws.drop i).Pairwise (· < ·) := by rw [← hins]; exact insW_sorted hs hwn
   have hpo : ∀ x ∈ ws.take i ++ w :: ws.drop i, 1 ≤ x := fun x hx => by
    rw [← hins] at hx
    rcases insW_mem.1 hx with q | q
    · omega
    · exact hp x q
   have hlo : ∀ x ∈ ws.take i ++ w :: ws.drop i, x < 65536 := fun x hx => by
    rw [← hins] at hx
    rcases insW_mem.1 hx with q | q
    · omega
    · exact G.wb x q
   clear hins
   refine Go.runN (g:=?_)
   refine Go.kk 2 rfl ?_
   refine Go.loud (by kernel_rfl) rfl ?_
   (refine Go.runL (g:=?_))
   refine GoL.buildO (c := []) rfl rfl rfl rfl rfl (by decide) (by rfl) (by rfl) ?_
   intro b8 h8 hb8 ob8 s8 n8
   have m8 := s8.1
   have gs8 := s8.get gs2
   have wv8 := G2.wv.same s8
   have dv8 := G2.dv.same s8
   have rv8 := wv8.rv (P := Try.prog)
   have hle8 := rv8.le
   (refine Go.runL (g:=?_))
   refine GoL.sliceV (lo' := none) (hi' := some (.int .i64 i)) (l := 0) (r := i) rfl rfl rfl rfl rfl rfl rfl rv8 rfl (by simp [bnd]) (by omega) (by omega) ?_
   have hb0 : subA wa (0 * 1) = wa := by cases wa <;> simp [subA]
   rw [hb0]
   have fr8 := wv8.front hi
   have one1 : ((i64s ws).take (i * 1)).all Value.oneCell' = true := by
    rw [List.all_eq_true]
    intro x hx
    have hx := List.mem_of_mem_take hx
    obtain ⟨y, -, rfl⟩ := List.mem_map.1 hx
    rfl
   refine GoL.appendV rfl rfl rfl rfl rfl rfl hb8 fr8.rv (Own.ok ob8 (by omega)) (by omega) (by omega) ?_ ?_
   · exact one1
   intro b9 c9 h9 rd9 wr9 hwr9 hrd9 hs9 k9 o9
   have m9 := k9.1
   have lw : ∀ j ∈ blk wa, j < h3.n := G2.wv.lt
   have ld : ∀ j ∈ blk da, j < h3.n := G2.dv.lt
   have l2 := AHeap.lt gs2
   have nb8 : ∀ j, j < h3.n → j ∉ blk b8 := fun j hj hm => by have := ob8 j hm; omega
   have gs9 := k9.get gs8 (nb8 _ l2)
   have wv9 := wv8.keeps k9 (fun j hj hm => nb8 j (lw j hj) hm)
   have dv9 := dv8.keeps k9 (fun j hj hm => nb8 j (ld j hj) hm)
   have ob9 : Own h3.n b9 := fun j hj => by
    rcases o9 j hj with q | q
    · have := ob8 j q; omega
    · omega
   (refine Go.runL (g:=?_))
   refine GoL.buildO (c := [.int .i64 w]) rfl rfl rfl rfl rfl (by decide) (by rfl) (by rfl) ?_
   intro b10 h10 hb10 ob10 s10 n10
   have m10 := s10.1
   refine GoL.appendV rfl rfl rfl rfl rfl rfl (hs9.same s10) hb10.rv (Own.ok ob9 (by omega)) (by omega) (by omega) (by rfl) ?_
   intro b11 c11 h11 rd11 wr11 hwr11 hrd11 hs11 k11 o11
   have m11 := k11.1
   have nb9 : ∀ j, j < h3.n → j ∉ blk b9 := fun j hj hm => by have := ob9 j hm; omega
   have gs11 := k11.get (s10.get gs9) (nb9 _ l2)
   have wv11 := (wv9.same s10).keeps k11 (fun j hj hm => nb9 j (lw j hj) hm)
   have dv11 := (dv9.same s10).keeps k11 (fun j hj hm => nb9 j (ld j hj) hm)
   have ob11 : Own h3.n b11 := fun j hj => by
    rcases o11 j hj with q | q
    · exact ob9 j q
    · omega
   have rv11 := wv11.rv (P := Try.prog)
   (refine Go.runL (g:=?_))
   refine GoL.sliceV (lo' := some (.int .i64 i)) (hi' := none) (l := i) (r := ws.length) rfl rfl rfl rfl rfl rfl rfl rv11 (by simp [bnd]) rfl hi hle8 ?_
   have sb11 := rv11.sub hi (Nat.le_refl _)
   have one2 : (((i64s ws).drop (i * 1)).take ((ws.length - i) * 1)).all Value.oneCell' = true := by
    rw [List.all_eq_true]
    intro x hx
    have hx := List.mem_of_mem_drop (List.mem_of_mem_take hx)
    obtain ⟨y, -, rfl⟩ := List.mem_map.1 hx
    rfl
   refine GoL.appendV rfl rfl rfl rfl rfl rfl hs11 sb11 (Own.ok ob11 (by omega)) (by omega) (by omega) one2 ?_
   intro b14 c14 h14 rd14 wr14 hwr14 hrd14 hs14 k14 o14
   have m14 := k14.1
   have nb11 : ∀ j, j < h3.n → j ∉ blk b11 := fun j hj hm => by have := ob11 j hm; omega
   have gs14 := k14.get gs11 (nb11 _ l2)
   have dv14 := dv11.keeps k14 (fun j hj hm => nb11 j (ld j hj) hm)
   have ob14 : Own h3.n b14 := fun j hj => by
    rcases o14 j hj with q | q
    · exact ob11 j q
    · omega
   have lb8 := hb8.lt
   have lb9 := hs9.lt
   have hdis : ∀ b ∈ wr9, b ≠ rb ∧ b < h9.n ∧ b < h10.n := fun b hb => by
    have q := hwr9 b hb
    have := ob8 b q
    have := lb8 b q
    omega
   have hdis2 : ∀ b ∈ wr11, b ≠ rb ∧ b < h9.n ∧ b < h10.n := fun b hb => by
    have q := hwr11 b hb
    have := ob9 b q
    have := lb9 b q
    omega
   (refine Go.runL (g:=?_))
   refine GoL.st (g:=?_)
   (refine Go.runL (g:=?_))
   refine GoL.endC (g:=?_)
   clear hdis hdis2
   refine Go.name ?_
   intro h15 e15
   have k15 : Keeps [rb] h14 h15 := by subst e15; exact (Keeps.rf _ _).pt (.inl (by simp)) _
   have eln : 0 + (i - 0) + 1 + (ws.length - i) = (ws.take i ++ w :: ws.drop i).length := by simp; omega
   have eln3 : i - 0 + 1 + (ws.length - i) = (ws.take i ++ w :: ws.drop i).length := by simp; omega
   have gs15 : h15.get rb = some (.cells [.int .u32 cum, .slice b14 (ws.take i ++ w :: ws.drop i).length c14, .slice da ds.length dc] 54) := by
    subst e15
    rw [get_put_self gs14]
    first | rw [eln] | rw [eln3]
   clear e15
   have m15 := k15.1
   have nb14 : ∀ j, j < h3.n → j ∉ blk b14 := fun j hj hm => by have := ob14 j hm; omega
   have wv15 := hs14.keeps k15 (fun j hj hm => by simp only [List.mem_singleton] at hm; subst hm; exact nb14 _ l2 hj)
   have dv15 := dv14.keeps k15 (fun j hj hm => by simp only [List.mem_singleton] at hm; subst hm; exact G.ap.2.1 hj)
   have ecs : [] ++ (i64s ws).take (i * 1) ++ [.int .i64 (w : Nat)] ++ ((i64s ws).drop (i * 1)).take ((ws.length - i) * 1) = i64s (ws.take i ++ w :: ws.drop i) := by
    rw [Nat.mul_one, Nat.mul_one, List.take_of_length_le (l := (i64s ws).drop i) (by simp)]
    simp [i64s]
   rw [ecs] at wv15
   rw [eln] at wv15
   have eln2 : (ws.take i ++ w :: ws.drop i).length = ws.length + 1 := by rw [← eln]; omega
   clear eln eln3
   generalize ws.take i ++ w :: ws.drop i = ws1 at *
   have G4 : RSet h15 rb cum b14 c14 ws1 da dc ds n0 := ⟨gs15, wv15, dv15, hlo, G.db, G.cb, ⟨nb14 _ l2, G.ap.2.1, fun j hj hm => nb14 j (ld j hm) hj⟩, ⟨G.ow.1, fun j hj => by have := ob14 j hj; omega, G.ow.2.2⟩⟩
   have n4' : h.n ≤ h15.n := by omega
   have ob15 : Own h.n b14 := fun j hj => by have := ob14 j hj; omega
   obtain ⟨T, hT⟩ : ∃ T, T = settleW (ws.length + 1) cum ws1 := ⟨_, rfl⟩
   rw [← hT]
   clear gs15 wv15 dv15 ecs hs14 k14 dv14 gs14 hs11 k11 hs9 k9 hb8 hb10 k15 gs11 dv11 wv11 rv11 sb11 dv9 wv9 gs9 wv8 dv8 rv8 gs8 fr8 one1 one2 hlo G2 gs2 hsp
   (refine Go.run (g:=?_))
   refine Go.loop (α := Nat × Nat × List Nat × Option Addr × Nat × AHeap) (fun _ => [(0, .pointer (some ⟨rb, 0, none⟩))]) (fun _ => []) (fun x => x.2.2.2.2.2) (fun x => x.2.2.1.length ≤ x.1 ∧ x.1 ≤ 70000 ∧ settleW x.1 x.2.1 x.2.2.1 = T ∧ x.2.2.1.Pairwise (· < ·) ∧ (∀ y ∈ x.2.2.1, 1 ≤ y) ∧ h.n ≤ x.2.2.2.2.2.n ∧ Own h.n x.2.2.2.1 ∧ RSet x.2.2.2.2.2 rb x.2.1 x.2.2.2.1 x.2.2.2.2.1 x.2.2.1 da dc ds n0) (fun x => x.2.2.1.length) (ws.length + 1, cum, ws1, b14, c14, h15) ?_ ?_ rfl rfl ?_
   · exact ⟨by simp only; omega, by simp only; omega, hT.symm, hso, hpo, n4', ob15, G4⟩
   · exact ⟨rfl, trivial⟩
   clear G4 hT n4' ob15 hso hpo
   rintro ⟨f, c, ws', wa', wc', H⟩ ⟨hf, hf7, hset, hso, hpo, hHn, how, G5⟩
   simp only at hf hf7 hset hso hpo hHn how G5 ⊢
   have gs5 := G5.sc
   have sv5 := G5.wv
   have sl5 := AHeap.lt gs5
   cases ws' with
   | nil =>
    have hT : T = (c, []) := by
     rw [← hset]
     cases f with
     | zero => rfl
     | succ f => rfl
    (refine Go.run (g:=?_))
    (first|refine Go.finA rfl ?_|refine Go.finB rfl (hq:=?_))
    rw [hT]
    exact ⟨rfl, wa', wc', da, dc, G5, fun i hi => .inl hi, fun i hi => .inr (how i hi)⟩
   | cons x l =>
    have c0 : (i64s (x :: l))[0]? = some (.int .i64 (x : Nat)) := rfl
    have hxb := G5.wb x (by simp)
    have hlen : (x :: l).length = l.length + 1 := rfl
    have hlen2 : (i64s (x :: l)).length = l.length + 1 := by simp
    by_cases hx : x = 1
    case neg =>
     have hT : T = (c, x :: l) := by
      rw [← hset]
      cases f with
      | zero => rfl
      | succ f => unfold settleW; rw [if_neg (by simpa using hx)]
     (refine Go.run (g:=?_))
     (first|refine Go.finA rfl ?_|refine Go.finB rfl (hq:=?_))
     rw [hT]
     exact ⟨rfl, wa', wc', da, dc, G5, fun i hi => .inl hi, fun i hi => .inr (how i hi)⟩
    subst hx
    have hnb := next32_lt c
    have ha := add32 c
    obtain ⟨f', rfl⟩ : ∃ f', f = f' + 1 := ⟨f - 1, by simp at hf; omega⟩
    have hset' : settleW f' (next32 c) (l.map (· - 1)) = T := hset
    generalize next32 c = nc at *
    (refine Go.run (g:=?_))
    refine GoR.bin rfl rfl rfl rfl rfl rfl ha ?_
    (refine Go.run (g:=?_))
    refine Go.name ?_
    intro h7 e7
    have k7 : Keeps [rb] H h7 := by subst e7; exact (Keeps.rf _ _).pt (.inl (by simp)) _
    have gs7 : h7.get rb = some (.cells [.int .u32 nc, .slice wa' (1 :: l).length wc', .slice da ds.length dc] 54) := by subst e7; exact get_put_self gs5
    have n7 : h7.n = H.n := by subst e7; rfl
    clear e7
    have w7 := sv5.keeps k7 (fun j hj hm => by simp only [List.mem_singleton] at hm; subst hm; exact G5.ap.1 hj)
    have d7 := G5.dv.keeps k7 (fun j hj hm => by simp only [List.mem_singleton] at hm; subst hm; exact G5.ap.2.1 hj)
    have hl1 : ∀ y ∈ l, 1 < y := fun y hy => (List.pairwise_cons.1 hso).1 y hy
    have l7 : rb < h7.n := AHeap.lt gs7
    have lw7 : ∀ j ∈ blk wa', j < h7.n := w7.lt
    have ld7 : ∀ j ∈ blk da, j < h7.n := d7.lt
    refine Go.loop (α := Nat × Option Addr × Nat × AHeap) (fun x => [(8, .int .i64 (x.1 + 1 : Nat)), (7, .slice x.2.1 x.1 x.2.2.1), (0, .pointer (some ⟨rb, 0, none⟩))]) (fun _ => []) (fun x => x.2.2.2) (fun x => x.1 ≤ l.length ∧ h7.n ≤ x.2.2.2.n ∧ Own h7.n x.2.1 ∧ Sv x.2.2.2 2 1 x.2.1 x.1 x.2.2.1 (i64s ((l.take x.1).map (· - 1))) ∧ x.2.2.2.get rb = some (.cells [.int .u32 nc, .slice wa' (1 :: l).length wc', .slice da ds.length dc] 54) ∧ Sv x.2.2.2 2 1 wa' (1 :: l).length wc' (i64s (1 :: l)) ∧ Sv x.2.2.2 23 1 da ds.length dc (u32s' ds)) (fun x => l.length - x.1) (0, none, 0, h7) ?_ ?_ rfl rfl ?_
    · exact ⟨Nat.zero_le _, Nat.le_refl _, Own.nil _, Sv.nil, gs7, w7, d7⟩
    · exact ⟨rfl, rfl, rfl, trivial⟩
    clear gs7 w7 d7
    rintro ⟨i, ra, rc, H3⟩ ⟨hi, hn3, hown, sr, gs3, sw, sd⟩
    simp only at hi hn3 hown sr gs3 sw sd ⊢
    rcases Nat.lt_or_ge i l.length with i0 | i0
    ·
     have c1 : (i64s (1 :: l))[i + 1]? = some (.int .i64 (l[i] : Nat)) := by simp [i0]
     have hm := hl1 _ (List.getElem_mem i0)
     have hb := G5.wb l[i] (by simp)
     have htk : l.take (i + 1) = l.take i ++ [l[i]] := by simp
     generalize l[i] = y at *
     (refine Go.run (g:=?_))
     refine GoR.buildRo (c := [.int .i64 (y - 1 : Nat)]) rfl rfl rfl rfl rfl (by decide) (by rfl) (by rfl) ?_
     intro b8 h8 hb8 rb8 ob8 s8 n8
     have m8 := s8.1
     refine GoR.appendV rfl rfl rfl rfl rfl rfl (sr.same s8) hb8 (fun j hj => .inr (by have := hown j hj; omega)) (by omega) (by omega) (by rfl) ?_
     intro b9 c9 h9 hs9 k9 o9
     have m9 := k9.1
     have nra : ∀ j, j < h7.n → j ∉ blk ra := fun j hj hm => by have := hown j hm; omega
     have gs9 := k9.get (s8.get gs3) (nra _ l7)
     have sw9 := (sw.same s8).keeps k9 (fun j hj hm => nra j (lw7 j hj) hm)
     have sd9 := (sd.same s8).keeps k9 (fun j hj hm => nra j (ld7 j hj) hm)
     (refine Go.run (g:=?_))
     refine Go.again (i + 1, b9, c9, h9) ⟨i0, by simp only; omega, fun j hj => ?_, ?_, gs9, sw9, sd9⟩ (by simp only; omega) ⟨rfl, rfl, rfl, trivial⟩ rfl rfl
     ·
      rcases o9 j hj with q | q
      · exact hown j q
      · omega
     ·
      rw [htk]
      simpa [i64s] using hs9
    have hie : i = l.length := by omega
    subst hie
    rw [List.take_length] at sr
    (refine Go.run (g:=?_))
    refine Go.name ?_
    intro h9 e9
    have k9 : Keeps [rb] H3 h9 := by subst e9; exact (Keeps.rf _ _).pt (.inl (by simp)) _
    have gs9 : h9.get rb = some (.cells [.int .u32 nc, .slice ra l.length rc, .slice da ds.length dc] 54) := by subst e9; exact get_put_self gs3
    clear e9
    have m9 := k9.1
    have nra : ∀ j, j < h7.n → j ∉ blk ra := fun j hj hm => by have := hown j hm; omega
    have w9 := sr.keeps k9 (fun j hj hm => by simp only [List.mem_singleton] at hm; subst hm; exact nra _ l7 hj)
    have d9 := sd.keeps k9 (fun j hj hm => by simp only [List.mem_singleton] at hm; subst hm; exact G5.ap.2.1 hj)
    have ell : (l.map (· - 1)).length = l.length := List.length_map _
    refine Go.again (f', nc, l.map (· - 1), ra, rc, h9) ⟨by simp only; omega, by simp only; omega, hset', ?_, ?_, by simp only; omega, fun j hj => by have := hown j hj; omega, ⟨by rw [ell]; exact gs9, by rw [ell]; exact w9, d9, ?_, G5.db, hnb, ⟨nra _ l7, G5.ap.2.1, fun j hj hm => nra j (ld7 j hm) hj⟩, ⟨G5.ow.1, fun j hj => by have := hown j hj; omega, G5.ow.2.2⟩⟩⟩ (by simp only; omega) ⟨rfl, trivial⟩ rfl rfl
    · exact List.pairwise_map.2 ((List.pairwise_cons.1 hso).2.imp_of_mem fun ha hb hab => by have := hl1 _ ha; have := hl1 _ hb; omega)
    ·
     intro y hy
     obtain ⟨z, hz, rfl⟩ := List.mem_map.1 hy
     have := hl1 z hz; omega
    ·
     intro y hy
     obtain ⟨z, hz, rfl⟩ := List.mem_map.1 hy
     have := G5.wb z (by simp [hz]); omega
end Go.Proofs.Ytccbmmnkiihkaaa
namespace Go.Proofs.Ytccbmmnkiihkaaa
open Go.Sort
set_option maxRecDepth 100000
attribute [local irreducible] Go GoR GoL
def ustep (out : List (Nat × Nat)) (w : Nat) : List (Nat × Nat) :=
 match out.getLast? with
 | some (s, e) => if e + 1 = w then out.dropLast ++ [(s, w)] else out ++ [(w, w)]
 | none => out ++ [(w, w)]
def ufold (ws : List Nat) : List (Nat × Nat) := ws.foldl ustep []
def rgaps (ws : List Nat) : List (Nat × Nat) := (ufold ws).take 64
theorem ustep_snoc (l : List (Nat × Nat)) (x : Nat × Nat) (w : Nat) : ustep (l ++ [x]) w = if x.2 + 1 = w then l ++ [(x.1, w)] else l ++ [x] ++ [(w, w)] := by
 unfold ustep
 simp
theorem gcs_take : ∀ (l : List (Nat × Nat)) (k : Nat), (gcs l).take (k * 2) = gcs (l.take k)
 | [], k => by simp [gcs]
 | x :: l, 0 => by simp [gcs]
 | x :: l, k + 1 => by
  have := gcs_take l k
  rw [show (k + 1) * 2 = k * 2 + 1 + 1 by omega]
  show Value.int .u16 x.1 :: Value.int .u16 x.2 :: (gcs l).take (k * 2) = _
  rw [this]; rfl
set_option maxHeartbeats 32000000 in
theorem rgaps_spec (rb cum : Nat) (wa da : Option Addr) (wc dc : Nat) (ws ds : List Nat) (n0 : Nat) (hl : ws.length ≤ 70000) (h : AHeap) (G : RSet h rb cum wa wc ws da dc ds n0) : CallS Try.prog [] 47 [.pointer (some ⟨rb, 0, none⟩)] h fun v h' => ∃ a c, v = .slice a (rgaps ws).length c ∧ Sv h' 97 2 a (rgaps ws).length c (gcs (rgaps ws)) ∧ Own h.n a := by
 have gs0 := G.sc
 have hlt := AHeap.lt gs0
 have lw0 : ∀ j ∈ blk wa, j < h.n := G.wv.lt
 (refine CallS.of1 Try.func47 rfl Try.ntmps47 Try.results47 rfl ?_)
 (refine Go.run (g:=?_))
 refine Go.loop (α := Nat × List (Nat × Nat) × Option Addr × Nat × AHeap) (fun x => [(4, .int .i64 x.1), (3, .slice x.2.2.1 x.2.1.length x.2.2.2.1), (0, .pointer (some ⟨rb, 0, none⟩))]) (fun _ => []) (fun x => x.2.2.2.2) (fun x => x.1 ≤ ws.length ∧ x.2.1 = ufold (ws.take x.1) ∧ (∀ hi : x.1 - 1 < ws.length, 0 < x.1 → ∃ init st, x.2.1 = init ++ [(st, ws[x.1 - 1])]) ∧ x.2.1.length ≤ x.1 ∧ h.n ≤ x.2.2.2.2.n ∧ Own h.n x.2.2.1 ∧ Sv x.2.2.2.2 97 2 x.2.2.1 x.2.1.length x.2.2.2.1 (gcs x.2.1) ∧ x.2.2.2.2.get rb = some (.cells [.int .u32 cum, .slice wa ws.length wc, .slice da ds.length dc] 54) ∧ Sv x.2.2.2.2 2 1 wa ws.length wc (i64s ws)) (fun x => ws.length - x.1) (0, [], none, 0, h) ?_ ?_ rfl rfl ?_
 · exact ⟨Nat.zero_le _, rfl, fun _ q => absurd q (Nat.lt_irrefl _), Nat.le_refl _, Nat.le_refl _, Own.nil _, Sv.nil, gs0, G.wv⟩
 · exact ⟨rfl, rfl, rfl, trivial⟩
 clear gs0
 rintro ⟨i, O, oa, oc, H⟩ ⟨hi, hO, hlast, hOl, hn, oown, so, gs, sw⟩
 simp only at hi hO hlast hOl hn oown so gs sw ⊢
 have nob : ∀ j, j < h.n → j ∉ blk oa := fun j hj hm => by have := oown j hm; omega
 rcases Nat.lt_or_ge i ws.length with i0 | i0
 case inr =>
  have hie : i = ws.length := by omega
  subst hie
  rw [List.take_length] at hO
  have hr : rgaps ws = O.take 64 := by unfold rgaps; rw [hO]
  rw [hr]
  clear hO hlast
  rcases Nat.lt_or_ge 64 O.length with q | q
  ·
   have hl64 : (O.take 64).length = 64 := by rw [List.length_take]; omega
   rw [hl64, ← gcs_take]
   (refine Go.run (g:=?_))
   refine GoR.sliceV (lo' := none) (hi' := some (.int .i64 (64 : Nat))) (l := 0) (r := 64) rfl rfl rfl rfl rfl rfl rfl so.rv rfl (by simp [bnd]) (by omega) (by have := so.rv (P := Try.prog) |>.le; omega) ?_
   have hb0 : subA oa (0 * 2) = oa := by cases oa <;> simp [subA]
   rw [hb0]
   (refine Go.run (g:=?_))
   (first|refine Go.finA rfl ?_|refine Go.finB rfl (hq:=?_))
   exact ⟨oa, oc, rfl, so.front (r := 64) (by omega), oown⟩
  ·
   rw [List.take_of_length_le q]
   (refine Go.run (g:=?_))
   (first|refine Go.finA rfl ?_|refine Go.finB rfl (hq:=?_))
   exact ⟨oa, oc, rfl, so, oown⟩
 have c0 : (i64s ws)[i]? = some (.int .i64 (ws[i] : Nat)) := by simp [i0]
 have hle : (i64s ws).length = ws.length := by simp
 have wb := G.wb _ (List.getElem_mem i0)
 have htk : ws.take (i + 1) = ws.take i ++ [ws[i]] := by simp
 have hnx : ufold (ws.take (i + 1)) = ustep O ws[i] := by rw [htk, hO]; unfold ufold; rw [List.foldl_append]; rfl
 have hlast1 : ∀ O' : List (Nat × Nat), (∃ init st, O' = init ++ [(st, ws[i])]) → ∀ hi : i + 1 - 1 < ws.length, 0 < i + 1 → ∃ init st, O' = init ++ [(st, ws[i + 1 - 1])] := fun O' q _ _ => q
 have hw16 : ws[i] % 65536 = ws[i] := Nat.mod_eq_of_lt wb
 rcases Nat.eq_zero_or_pos i with rfl | ip
 ·
  have hO0 : O = [] := by rw [hO]; rfl
  subst hO0
  generalize hw : ws[0] = w at *
  have hst : ustep [] w = [(w, w)] := rfl
  have l0 : ([] : List (Nat × Nat)).length = 0 := rfl
  rw [l0] at so hOl ⊢
  rw [hst] at hnx
  (refine Go.run (g:=?_))
  refine GoR.buildRo (c := [.int .u16 (w : Nat), .int .u16 (w : Nat)]) rfl rfl rfl rfl rfl (by decide) (by rfl) (by rfl) ?_
  intro b8 h8 hb8 rb8 ob8 s8 n8
  have m8 := s8.1
  refine GoR.appendV rfl rfl rfl rfl rfl rfl (so.same s8) hb8 (fun j hj => .inr (by have := oown j hj; omega)) (by omega) (by omega) (by rfl) ?_
  intro b9 c9 h9 hs9 k9 o9
  have m9 := k9.1
  have sw9 := (sw.same s8).keeps k9 (fun j hj => nob j (lw0 j hj))
  have gs9 := k9.get (s8.get gs) (nob _ hlt)
  (refine Go.run (g:=?_))
  refine Go.again (0 + 1, [(w, w)], b9, c9, h9) ⟨i0, hnx.symm, ?_, by simp, by simp only; omega, fun j hj => ?_, hs9, gs9, sw9⟩ (by simp only; omega) ⟨rfl, rfl, rfl, trivial⟩ rfl rfl
  · exact hlast1 _ ⟨[], w, by rw [← hw]; rfl⟩
  ·
   rcases o9 j hj with q | q
   · exact oown j q
   · omega
 ·
  have i1 : i - 1 < ws.length := by omega
  have c1 : (i64s ws)[i - 1]? = some (.int .i64 (ws[i - 1] : Nat)) := by simp [i1]
  have eb := G.wb _ (List.getElem_mem i1)
  obtain ⟨init, st, hO1⟩ := hlast i1 ip
  generalize ws[i - 1] = e at *
  generalize hw : ws[i] = w at *
  subst hO1
  have hst := ustep_snoc init (st, e) w
  have hl : (init ++ [(st, e)]).length = init.length + 1 := by simp
  have gl := gcs_len (init ++ [(st, e)])
  rw [hl] at so hOl gl ⊢
  by_cases hew : e + 1 = w
  ·
   rw [if_pos hew] at hst
   rw [hst] at hnx
   have hkv : (init.length + 1 - 1) * 2 < (gcs (init ++ [(st, e)])).length := by rw [gl]; omega
   subst hew
   (refine Go.run (g:=?_))
   refine GoR.store1' rfl rfl rfl rfl rfl rfl (hS := so) (hw := fun j hj => .inr (by have := oown j hj; omega)) (g:=?_)
   intro h7 so7 k7 n7
   rw [Nat.add_sub_cancel, gcs_setLast] at so7
   have sw7 := sw.keeps k7 (fun j hj => nob j (lw0 j hj))
   have gs7 := k7.get gs (nob _ hlt)
   (refine Go.run (g:=?_))
   refine Go.again (i + 1, init ++ [(st, e + 1)], oa, oc, h7) ⟨i0, hnx.symm, ?_, by simp only [List.length_append, List.length_cons, List.length_nil]; omega, by have := k7.1; simp only; omega, oown, by simpa using so7, gs7, sw7⟩ (by simp only; omega) ⟨rfl, ?_, rfl, trivial⟩ rfl rfl
   · exact hlast1 _ ⟨init, st, rfl⟩
   · simp only [List.length_append, List.length_cons, List.length_nil]; rfl
  ·
   rw [if_neg hew] at hst
   rw [hst] at hnx
   (refine Go.run (g:=?_))
   refine GoR.buildRo (c := [.int .u16 (w : Nat), .int .u16 (w : Nat)]) rfl rfl rfl rfl rfl (by decide) (by rfl) (by rfl) ?_
   intro b8 h8 hb8 rb8 ob8 s8 n8
   have m8 := s8.1
   refine GoR.appendV rfl rfl rfl rfl rfl rfl (so.same s8) hb8 (fun j hj => .inr (by have := oown j hj; omega)) (by omega) (by omega) (by rfl) ?_
   intro b9 c9 h9 hs9 k9 o9
   have m9 := k9.1
   have sw9 := (sw.same s8).keeps k9 (fun j hj => nob j (lw0 j hj))
   have gs9 := k9.get (s8.get gs) (nob _ hlt)
   (refine Go.run (g:=?_))
   refine Go.again (i + 1, init ++ [(st, e)] ++ [(w, w)], b9, c9, h9) ⟨i0, hnx.symm, ?_, by simp only [List.length_append, List.length_cons, List.length_nil]; omega, by simp only; omega, fun j hj => ?_, ?_, gs9, sw9⟩ (by simp only; omega) ⟨rfl, ?_, rfl, trivial⟩ rfl rfl
   · exact hlast1 _ ⟨init ++ [(st, e)], w, rfl⟩
   ·
    rcases o9 j hj with z | z
    · exact oown j z
    · omega
   ·
    simp only [List.length_append, List.length_cons, List.length_nil]
    rw [gcs_snoc]
    exact hs9
   · simp only [List.length_append, List.length_cons, List.length_nil]; rfl
end Go.Proofs.Ytccbmmnkiihkaaa
namespace Go.Proofs.Ytccbmmnkiihkaaa
open Go.Sort
theorem span_inj {c a b : Nat} (hc : c < 4294967296) (ha : a < 4294967296) (hb : b < 4294967296) (e : spanN c a = spanN c b) : a = b := by unfold spanN at e; omega
theorem span_zero {c a : Nat} (hc : c < 4294967296) (ha : a < 4294967296) : spanN c a = 0 ↔ a = c := by unfold spanN; omega
theorem span_one {c : Nat} (hc : c < 4294967296) : spanN c (next32 c) = 1 := by unfold spanN next32; omega
theorem span_next {c k : Nat} (hc : c < 4294967296) (hk : k < 4294967296) (h : 1 ≤ spanN c k) : spanN (next32 c) k = spanN c k - 1 := by unfold spanN next32 at *; omega
structure Alike (c : Nat) (ks ws : List Nat) : Prop where
 pm : ws.Perm (ks.map (spanN c))
 so : ws.Pairwise (· < ·)
 po : ∀ w ∈ ws, 1 ≤ w
 lt : ∀ w ∈ ws, w < 65536
 kb : ∀ k ∈ ks, k < 4294967296
 cb : c < 4294967296
theorem Alike.len {c : Nat} {ks ws : List Nat} (r : Alike c ks ws) : ws.length = ks.length := by have := r.pm.length_eq; rwa [List.length_map] at this
theorem Alike.mem {c t : Nat} {ks ws : List Nat} (r : Alike c ks ws) (ht : t < 4294967296) : t ∈ ks ↔ spanN c t ∈ ws := by
 rw [r.pm.mem_iff, List.mem_map]
 constructor
 · exact fun h => ⟨t, h, rfl⟩
 ·
  rintro ⟨k, hk, e⟩
  rw [← span_inj r.cb (r.kb k hk) ht e]; exact hk
theorem Alike.has {c t : Nat} {ks ws : List Nat} (r : Alike c ks ws) (ht : t < 4294967296) : hasN c ks t = hasW c ws t := by
 unfold hasN hasW
 rw [decide_eq_decide.2 (r.mem ht), decide_eq_decide.2 (span_zero r.cb ht)]
theorem Alike.start {c : Nat} (hc : c < 4294967296) : Alike c [] [] := ⟨.refl _, .nil, (fun w h => by cases h), (fun w h => by cases h), (fun w h => by cases h), hc⟩
theorem settleN_succ (n c : Nat) (ks : List Nat) : settleN (n + 1) c ks = if next32 c ∈ ks then settleN n (next32 c) (ks.erase (next32 c)) else (c, ks) := rfl
theorem settleW_succ (n c : Nat) (ws : List Nat) : settleW (n + 1) c ws = if ws.head? = some 1 then settleW n (next32 c) (ws.tail.map (· - 1)) else (c, ws) := rfl
theorem settleN_yes {n c : Nat} {ks : List Nat} (h : next32 c ∈ ks) : settleN (n + 1) c ks = settleN n (next32 c) (ks.erase (next32 c)) := by rw [settleN_succ, if_pos h]
theorem settleN_no {n c : Nat} {ks : List Nat} (h : ¬ next32 c ∈ ks) : settleN (n + 1) c ks = (c, ks) := by rw [settleN_succ, if_neg h]
theorem settleW_yes {n c : Nat} {l : List Nat} : settleW (n + 1) c (1 :: l) = settleW n (next32 c) (l.map (· - 1)) := by rw [settleW_succ, if_pos List.head?_cons]; rw [List.tail_cons]
theorem settleW_no {n c : Nat} {ws : List Nat} (h : ¬ ws.head? = some 1) : settleW (n + 1) c ws = (c, ws) := by rw [settleW_succ, if_neg h]
theorem map_pred {f g : Nat → Nat} {l ks : List Nat} (hp : l.Perm (ks.map f)) (h : ∀ k ∈ ks, f k - 1 = g k) : (l.map (· - 1)).Perm (ks.map g) := by
 have h2 := hp.map (· - 1)
 rw [List.map_map] at h2
 exact h2.trans (.of_eq (List.map_congr_left fun k hk => h k hk))
theorem perm_erase_map {f : Nat → Nat} {n : Nat} {l ks : List Nat} (hp : (1 :: l).Perm (ks.map f)) (hn : n ∈ ks) (h1 : f n = 1) : l.Perm ((ks.erase n).map f) := by
 have h := hp.trans ((List.perm_cons_erase hn).map f)
 rw [List.map_cons, h1] at h
 exact h.cons_inv
theorem sorted_pred {l : List Nat} (hs : (1 :: l).Pairwise (· < ·)) : (l.map (· - 1)).Pairwise (· < ·) ∧ (∀ w ∈ l.map (· - 1), 1 ≤ w) := by
 have hl : ∀ w ∈ l, 1 < w := fun w hw => (List.pairwise_cons.1 hs).1 w hw
 refine ⟨List.pairwise_map.2 ((List.pairwise_cons.1 hs).2.imp_of_mem fun ha hb hab => by have := hl _ ha; have := hl _ hb; omega), fun y hy => ?_⟩
 obtain ⟨z, hz, rfl⟩ := List.mem_map.1 hy
 have := hl z hz; omega
theorem Alike.settle (n : Nat) : ∀ {c : Nat} {ks ws : List Nat}, Alike c ks ws → (settleN n c ks).1 = (settleW n c ws).1 ∧ Alike (settleN n c ks).1 (settleN n c ks).2 (settleW n c ws).2 := by
 induction n with
 | zero => intro c ks ws r; exact ⟨rfl, r⟩
 | succ n ih =>
  intro c ks ws r
  have key : next32 c ∈ ks ↔ ws.head? = some 1 := by
   rw [r.mem (next32_lt c), span_one r.cb]
   cases hw : ws with
   | nil => simp
   | cons x l =>
    have so := r.so
    have po := r.po
    rw [hw] at so po
    rw [List.head?_cons, Option.some.injEq]
    constructor
    ·
     intro h
     rcases List.mem_cons.1 h with h | h
     · exact h.symm
     ·
      have := (List.pairwise_cons.1 so).1 1 h
      have := po x (by simp)
      omega
    · rintro rfl; simp
  by_cases hk : next32 c ∈ ks
  ·
   have hh := key.1 hk
   obtain ⟨l, rfl⟩ : ∃ l, ws = 1 :: l := by
    cases ws with
    | nil => cases hh
    | cons x l => rw [List.head?_cons, Option.some.injEq] at hh; exact ⟨l, by rw [hh]⟩
   rw [settleN_yes hk, settleW_yes]
   refine ih ?_
   have hsp := sorted_pred r.so
   refine ⟨map_pred (perm_erase_map r.pm hk (span_one r.cb)) fun k hk => ?_, hsp.1, hsp.2, fun y hy => ?_, fun k hk => r.kb k (List.mem_of_mem_erase hk), next32_lt c⟩
   ·
    have hks := List.mem_of_mem_erase hk
    exact (span_next r.cb (r.kb k hks) (r.po _ ((r.mem (r.kb k hks)).1 hks))).symm
   ·
    obtain ⟨z, hz, rfl⟩ := List.mem_map.1 hy
    have := r.lt z (List.mem_cons_of_mem _ hz); omega
  ·
   have hh : ¬ ws.head? = some 1 := fun q => hk (key.2 q)
   rw [settleN_no hk, settleW_no hh]
   exact ⟨rfl, r⟩
theorem addN_has {c t : Nat} {ks : List Nat} (ds : List Nat) (h : hasN c ks t = true) : addN c ks ds t = (1, c, ks, if ds.length < 16 then ds ++ [t] else ds) := by unfold addN; rw [if_pos h]
theorem addN_far {c t : Nat} {ks : List Nat} (ds : List Nat) (h : ¬ hasN c ks t = true) (h2 : 65535 < spanN c t) : addN c ks ds t = (2, c, ks, ds) := by unfold addN; rw [if_neg h, if_pos h2]
theorem addN_new {c t : Nat} {ks : List Nat} (ds : List Nat) (h : ¬ hasN c ks t = true) (h2 : ¬ 65535 < spanN c t) {X : Nat × List Nat} (hX : settleN (ks.length + 1) c (ks ++ [t]) = X) : addN c ks ds t = (0, X.1, X.2, ds) := by unfold addN; rw [if_neg h, if_neg h2, hX]
theorem addW_has {c t : Nat} {ws : List Nat} (ds : List Nat) (h : hasW c ws t = true) : addW c ws ds t = (1, c, ws, if ds.length < 16 then ds ++ [t] else ds) := by unfold addW; rw [if_pos h]
theorem addW_far {c t : Nat} {ws : List Nat} (ds : List Nat) (h : ¬ hasW c ws t = true) (h2 : 65535 < spanN c t) : addW c ws ds t = (2, c, ws, ds) := by unfold addW; rw [if_neg h, if_pos h2]
theorem addW_new {c t : Nat} {ws : List Nat} (ds : List Nat) (h : ¬ hasW c ws t = true) (h2 : ¬ 65535 < spanN c t) {X : Nat × List Nat} (hX : settleW (ws.length + 1) c (insW ws (spanN c t)) = X) : addW c ws ds t = (0, X.1, X.2, ds) := by unfold addW; rw [if_neg h, if_neg h2, hX]
theorem insW_perm_map {f : Nat → Nat} {t : Nat} {ws ks : List Nat} (p : ws.Perm (ks.map f)) : (insW ws (f t)).Perm ((ks ++ [t]).map f) := by
 rw [List.map_append, List.map_cons, List.map_nil]
 exact (insW_perm _ _).trans ((p.cons _).trans (List.perm_append_singleton _ _).symm)
theorem Alike.ins {c t : Nat} {ks ws : List Nat} (r : Alike c ks ws) (ht : t < 4294967296) (h : ¬ hasW c ws t = true) (h2 : ¬ 65535 < spanN c t) : Alike c (ks ++ [t]) (insW ws (spanN c t)) := by
 have hwn : spanN c t ∉ ws := fun q => h (by unfold hasW; rw [decide_eq_true q, Bool.true_or])
 have hw0 : spanN c t ≠ 0 := fun q => h (by unfold hasW; rw [decide_eq_true q, Bool.true_or, Bool.or_true])
 have hp := insW_perm_map (t := t) r.pm
 refine ⟨hp, insW_sorted r.so hwn, fun y hy => ?_, fun y hy => ?_, fun k hk => ?_, r.cb⟩
 ·
  rcases insW_mem.1 hy with q | q
  · omega
  · exact r.po y q
 ·
  rcases insW_mem.1 hy with q | q
  · omega
  · exact r.lt y q
 ·
  rcases List.mem_append.1 hk with q | q
  · exact r.kb k q
  · rw [List.mem_singleton.1 q]; exact ht
theorem Alike.news {c t : Nat} {ks ws : List Nat} (r : Alike c ks ws) (ht : t < 4294967296) (hH : ¬ hasW c ws t = true) (h2 : ¬ 65535 < spanN c t) : ∃ X Y, settleN (ks.length + 1) c (ks ++ [t]) = X ∧ settleW (ws.length + 1) c (insW ws (spanN c t)) = Y ∧ X.1 = Y.1 ∧ Alike X.1 X.2 Y.2 := by
 have hs := (r.ins ht hH h2).settle (ks.length + 1)
 rw [r.len]
 exact ⟨_, _, rfl, rfl, hs⟩
theorem Alike.add {c t : Nat} {ks ws ds : List Nat} (r : Alike c ks ws) (ht : t < 4294967296) : (addN c ks ds t).1 = (addW c ws ds t).1 ∧ (addN c ks ds t).2.1 = (addW c ws ds t).2.1 ∧ (addN c ks ds t).2.2.2 = (addW c ws ds t).2.2.2 ∧ Alike (addN c ks ds t).2.1 (addN c ks ds t).2.2.1 (addW c ws ds t).2.2.1 := by
 have hh := r.has ht
 by_cases hH : hasW c ws t = true
 ·
  rw [addN_has ds (hh.trans hH), addW_has ds hH]
  exact ⟨rfl, rfl, rfl, r⟩
 ·
  have hN : ¬ hasN c ks t = true := by rw [hh]; exact hH
  by_cases h2 : 65535 < spanN c t
  ·
   rw [addN_far ds hN h2, addW_far ds hH h2]
   exact ⟨rfl, rfl, rfl, r⟩
  ·
   obtain ⟨X, Y, h3, h4, h5, h6⟩ := r.news ht hH h2
   rw [addN_new ds hN h2 h3, addW_new ds hH h2 h4]
   exact ⟨rfl, h5, rfl, h6⟩
theorem settleN_len : ∀ (n c : Nat) (ks : List Nat), (settleN n c ks).2.length ≤ ks.length
 | 0, c, ks => Nat.le_refl _
 | n + 1, c, ks => by
  unfold settleN
  split
  · exact Nat.le_trans (settleN_len n _ _) (List.length_erase_le)
  · exact Nat.le_refl _
theorem addN_len (c : Nat) (ks ds : List Nat) (t : Nat) : (addN c ks ds t).2.2.1.length ≤ ks.length + 1 := by
 by_cases h : hasN c ks t = true
 · rw [addN_has ds h]; exact Nat.le_succ _
 ·
  by_cases h2 : 65535 < spanN c t
  · rw [addN_far ds h h2]; exact Nat.le_succ _
  ·
   have := settleN_len (ks.length + 1) c (ks ++ [t])
   rw [addN_new ds h h2 rfl]
   generalize settleN (ks.length + 1) c (ks ++ [t]) = X at *
   rw [List.length_append] at this
   exact this
theorem addN_ds (c : Nat) (ks ds : List Nat) (t : Nat) (hd : ds.length ≤ 16) : (addN c ks ds t).2.2.2.length ≤ 16 := by
 by_cases h : hasN c ks t = true
 ·
  rw [addN_has ds h]
  show (if ds.length < 16 then ds ++ [t] else ds).length ≤ 16
  split
  · rw [List.length_append]; simp only [List.length_cons, List.length_nil]; omega
  · exact hd
 ·
  by_cases h2 : 65535 < spanN c t
  · rw [addN_far ds h h2]; exact hd
  · rw [addN_new ds h h2 rfl]; exact hd
theorem gfold_take : ∀ (ws : List Nat) (O : List (Nat × Nat)), (∀ w ∈ ws, 1 ≤ w ∧ w < 65536) → (∀ g ∈ O, g.2 < 65536) → gfold ws (O.take 64) = (ws.foldl ustep O).take 64 ∨ 64 < O.length
 | ws, O, hw, hO => by
  by_cases q : 64 < O.length
  · exact .inr q
  ·
   refine .inl ?_
   rw [List.take_of_length_le (by omega)]
   exact gfold_all ws O hw hO (by omega)
where
 gfold_all : ∀ (ws : List Nat) (O : List (Nat × Nat)), (∀ w ∈ ws, 1 ≤ w ∧ w < 65536) → (∀ g ∈ O, g.2 < 65536) → O.length ≤ 64 → gfold ws O = (ws.foldl ustep O).take 64
 | [], O, _, _, hl => by rw [List.foldl_nil, List.take_of_length_le hl]; rfl
 | w :: ws, O, hw, hO, hl => by
  have w0 := hw w (by simp)
  have hws : ∀ w ∈ ws, 1 ≤ w ∧ w < 65536 := fun x hx => hw x (by simp [hx])
  rw [List.foldl_cons]
  rcases List.eq_nil_or_concat O with hn | ⟨init, ⟨s, e⟩, hn⟩
  ·
   subst hn
   show gfold ws [(w, w)] = _
   exact gfold_all ws _ hws (fun g hg => by simp only [List.mem_singleton] at hg; rw [hg]; exact w0.2) (by simp)
  ·
   rw [List.concat_eq_append] at hn
   subst hn
   have he : e < 65536 := hO (s, e) (by simp)
   have hg : ∀ g ∈ init, g.2 < 65536 := fun g hg => hO g (by simp [hg])
   unfold gfold
   rw [gstep_snoc, ustep_snoc]
   simp only
   by_cases hq : e + 1 = w
   ·
    rw [if_pos hq, if_pos (by omega)]
    simp only
    refine gfold_all ws _ hws (fun g hg' => ?_) (by simpa using hl)
    rcases List.mem_append.1 hg' with z | z
    · exact hg g z
    · simp only [List.mem_singleton] at z; rw [z]; exact w0.2
   ·
    rw [if_neg hq, if_neg (by omega)]
    by_cases h64 : init.length + 1 = 64
    ·
     rw [if_pos h64]
     simp only
     have key : ∀ (l : List Nat) (X Y : List (Nat × Nat)), Y ≠ [] → ∃ Y', Y' ≠ [] ∧ l.foldl ustep (X ++ Y) = X ++ Y' := fun l => by
      induction l with
      | nil => exact fun X Y h => ⟨Y, h, rfl⟩
      | cons a l ih =>
       intro X Y h
       rw [List.foldl_cons]
       rcases List.eq_nil_or_concat Y with hY | ⟨yi, ⟨ys, ye⟩, hY⟩
       · exact absurd hY h
       ·
        rw [List.concat_eq_append] at hY
        subst hY
        rw [← List.append_assoc, ustep_snoc]
        split
        · rw [List.append_assoc]; exact ih X _ (by simp)
        · rw [List.append_assoc, List.append_assoc]; exact ih X _ (by simp)
     obtain ⟨Y', -, e2⟩ := key ws (init ++ [(s, e)]) [(w, w)] (by simp)
     rw [e2, List.take_append_of_le_length (by simp; omega), List.take_of_length_le (by simp; omega)]
    ·
     rw [if_neg h64]
     simp only
     refine gfold_all ws _ hws (fun g hg' => ?_) (by simp at hl ⊢; omega)
     rcases List.mem_append.1 hg' with z | z
     · exact hO g z
     · simp only [List.mem_singleton] at z; rw [z]; exact w0.2
theorem gaps_eq {ws : List Nat} (hw : ∀ w ∈ ws, 1 ≤ w ∧ w < 65536) : gfold ws [] = rgaps ws := gfold_take.gfold_all ws [] hw (fun g hg => by cases hg) (by simp)
theorem sorted_unique : ∀ {l k : List Int}, l.Perm k → l.Pairwise (· ≤ ·) → k.Pairwise (· ≤ ·) → l = k
 | [], k, hp, _, _ => (hp.nil_eq)
 | x :: l, k, hp, hl, hk => by
  cases k with
  | nil => exact absurd hp.length_eq (by simp)
  | cons y k =>
   have e : x = y := by
    have h1 : x ∈ y :: k := hp.mem_iff.1 (by simp)
    have h2 : y ∈ x :: l := hp.mem_iff.2 (by simp)
    have a : y ≤ x := by
     rcases List.mem_cons.1 h1 with q | q
     · omega
     · exact (List.pairwise_cons.1 hk).1 x q
    have b : x ≤ y := by
     rcases List.mem_cons.1 h2 with q | q
     · omega
     · exact (List.pairwise_cons.1 hl).1 y q
    omega
   subst e
   rw [sorted_unique hp.cons_inv (List.pairwise_cons.1 hl).2 (List.pairwise_cons.1 hk).2]
theorem Alike.sorted {c : Nat} {ks ws : List Nat} (r : Alike c ks ws) (D : Array Int) (hD : D.toList.Perm ((ks.map (wayN c)).map fun (n : Nat) => (n : Int))) : (sort ltInt D).toList = ws.map (fun (n : Nat) => (n : Int)) := by
 have e : ks.map (wayN c) = ks.map (spanN c) := List.map_congr_left fun k hk => Nat.mod_eq_of_lt (r.lt _ ((r.mem (r.kb k hk)).1 hk))
 rw [e] at hD
 have hp := hD.trans ((r.pm.map fun (n : Nat) => (n : Int)).symm)
 have hs := sortInt D.toList
 rw [Array.toArray_toList] at hs
 rw [hs]
 refine sorted_unique ((List.mergeSort_perm _ _).trans hp) ?_ (List.pairwise_map.2 (r.so.imp fun h => by omega))
 have := List.pairwise_mergeSort (le := fun x y : Int => decide (x ≤ y)) (fun a b c h1 h2 => by simp only [decide_eq_true_eq] at *; omega) (fun a b => by simp only [Bool.or_eq_true, decide_eq_true_eq]; omega) D.toList
 exact this.imp fun h => of_decide_eq_true h
end Go.Proofs.Ytccbmmnkiihkaaa
namespace Go.Proofs.Ytccbmmnkiihkaaa
open Go.Sort
set_option maxRecDepth 100000
attribute [local irreducible] Go GoR GoL
theorem GSet.kept {h h' : AHeap} {sb r cum : Nat} {ks : List Nat} {da : Option Addr} {dc : Nat} {ds : List Nat} {n0 : Nat} {wr : List Nat} (g : GSet h sb r cum ks da dc ds n0) (k : Keeps wr h h') (hn : ∀ j ∈ [sb, r] ++ blk da, j ∉ wr) : GSet h' sb r cum ks da dc ds n0 := { g with sc := k.get g.sc (hn _ (by simp)), mp := g.mp.keeps k (hn _ (by simp)), dv := g.dv.keeps k fun j hj => hn j (by simp [hj]) }
theorem RSet.kept {h h' : AHeap} {rb cum : Nat} {wa da : Option Addr} {wc dc : Nat} {ws ds : List Nat} {n0 : Nat} {wr : List Nat} (g : RSet h rb cum wa wc ws da dc ds n0) (k : Keeps wr h h') (hn : ∀ j ∈ [rb] ++ blk wa ++ blk da, j ∉ wr) : RSet h' rb cum wa wc ws da dc ds n0 := { g with sc := k.get g.sc (hn _ (by simp)), wv := g.wv.keeps k (fun j hj => hn j (by simp [hj])), dv := g.dv.keeps k fun j hj => hn j (by simp [hj]) }
theorem GSet.lts {h : AHeap} {sb r cum : Nat} {ks : List Nat} {da : Option Addr} {dc : Nat} {ds : List Nat} {n0 : Nat} (g : GSet h sb r cum ks da dc ds n0) : ∀ j ∈ [sb, r] ++ blk da, j < h.n := fun j hj => by
 simp only [List.cons_append, List.nil_append, List.mem_cons] at hj
 rcases hj with rfl | rfl | q
 · exact AHeap.lt g.sc
 · exact g.mp.lt
 · exact g.dv.lt j q
theorem GSet.owns {h : AHeap} {sb r cum : Nat} {ks : List Nat} {da : Option Addr} {dc : Nat} {ds : List Nat} {n0 : Nat} (g : GSet h sb r cum ks da dc ds n0) : ∀ j ∈ [sb, r] ++ blk da, n0 ≤ j := fun j hj => by
 simp only [List.cons_append, List.nil_append, List.mem_cons] at hj
 rcases hj with rfl | rfl | q
 · exact g.ow.1
 · exact g.ow.2.1
 · exact g.ow.2.2 j q
theorem RSet.lts {h : AHeap} {rb cum : Nat} {wa da : Option Addr} {wc dc : Nat} {ws ds : List Nat} {n0 : Nat} (g : RSet h rb cum wa wc ws da dc ds n0) : ∀ j ∈ [rb] ++ blk wa ++ blk da, j < h.n := fun j hj => by
 simp only [List.cons_append, List.nil_append, List.mem_cons, List.mem_append] at hj
 rcases hj with rfl | q | q
 · exact AHeap.lt g.sc
 · exact g.wv.lt j q
 · exact g.dv.lt j q
theorem RSet.owns {h : AHeap} {rb cum : Nat} {wa da : Option Addr} {wc dc : Nat} {ws ds : List Nat} {n0 : Nat} (g : RSet h rb cum wa wc ws da dc ds n0) : ∀ j ∈ [rb] ++ blk wa ++ blk da, n0 ≤ j := fun j hj => by
 simp only [List.cons_append, List.nil_append, List.mem_cons, List.mem_append] at hj
 rcases hj with rfl | q | q
 · exact g.ow.1
 · exact g.ow.2.1 j q
 · exact g.ow.2.2 j q
theorem ggaps_spec (sb r cum : Nat) (ks : List Nat) (da : Option Addr) (dc : Nat) (ds : List Nat) (n0 : Nat) (ws : List Nat) (A : Alike cum ks ws) (hn : ks.length ≤ 1000000) (h : AHeap) (G : GSet h sb r cum ks da dc ds n0) : CallS Try.prog [] 45 [.pointer (some ⟨sb, 0, none⟩)] h fun v h' => ∃ a, v = .slice a (rgaps ws).length (rgaps ws).length ∧ Sv h' 97 2 a (rgaps ws).length (rgaps ws).length (gcs (rgaps ws)) ∧ Own h.n a := by
 obtain ⟨es, ck, g, e, st1, st2⟩ := G.mp
 have dlt := G.dv.lt
 have G' : GSt h sb r cum es ck ks da ds.length dc := ⟨G.sc, g, by have e' : es.toList.map (fun e => (e.key, e.val)) = kvs .u32 (dn32 ks) := e; rw [e']; simp [kvs, dn32], st1, st2, G.kb, G.cb, by
  cases da with
  | none =>
   obtain ⟨h0, h1⟩ : ds.length = 0 ∧ dc = 0 := by
    have hz := G.dv
    generalize u32s' ds = cs at hz
    generalize ds.length = len at hz ⊢
    cases hz
    exact ⟨rfl, rfl⟩
   rw [h0, h1]; rfl
  | some a =>
   obtain ⟨b, o, x⟩ := a
   show Nat.blt b h.n = true
   have := dlt b (by simp [blk])
   simpa [Nat.blt_eq] using this⟩
 have k := gaps_spec sb r cum es ck ks da ds.length dc hn h G' G.mp.lt ws A.lt A.sorted
 rw [gaps_eq fun w hw => ⟨A.po w hw, A.lt w hw⟩] at k
 exact k
theorem add_specE (sb r cum : Nat) (ks : List Nat) (da : Option Addr) (dc : Nat) (ds : List Nat) (n0 t : Nat) (ht : t < 4294967296) (hds : ds.length ≤ 16) (h : AHeap) (hn0 : n0 ≤ h.n) (G : GSet h sb r cum ks da dc ds n0) {code c' : Nat} {ks' ds' : List Nat} (hR : addN cum ks ds t = (code, c', ks', ds')) : CallS Try.prog ([sb, r] ++ blk da) 37 [.pointer (some ⟨sb, 0, none⟩), .int .u32 t] h fun v h' => v = .int .u8 (code : Nat) ∧ ∃ da' dc', GSet h' sb r c' ks' da' dc' ds' n0 ∧ ∀ i ∈ blk da', i ∈ blk da ∨ h.n ≤ i := by
 have k := add_spec sb r cum ks da dc ds n0 t ht hds h hn0 G
 rw [hR] at k
 exact k
theorem radd_specE (rb cum : Nat) (wa da : Option Addr) (wc dc : Nat) (ws ds : List Nat) (n0 t : Nat) (ht : t < 4294967296) (hds : ds.length ≤ 16) (hl : ws.length ≤ 65535) (hp : ∀ w ∈ ws, 1 ≤ w) (hs : ws.Pairwise (· < ·)) (h : AHeap) (hn0 : n0 ≤ h.n) (G : RSet h rb cum wa wc ws da dc ds n0) {code c' : Nat} {ws' ds' : List Nat} (hR : addW cum ws ds t = (code, c', ws', ds')) : CallS Try.prog ([rb] ++ blk da) 42 [.pointer (some ⟨rb, 0, none⟩), .int .u32 t] h fun v h' => v = .int .u8 (code : Nat) ∧ ∃ wa' wc' da' dc', RSet h' rb c' wa' wc' ws' da' dc' ds' n0 ∧ (∀ i ∈ blk da', i ∈ blk da ∨ h.n ≤ i) ∧ ∀ i ∈ blk wa', i ∈ blk wa ∨ h.n ≤ i := by
 have k := radd_spec rb cum wa da wc dc ws ds n0 t ht hds hl hp hs h hn0 G
 rw [hR] at k
 exact k
end Go.Proofs.Ytccbmmnkiihkaaa
namespace Go.Proofs.Ytccbmmnkiihkaaa
set_option maxRecDepth 100000
attribute [local irreducible] Go GoR GoL
structure IT where
 ra : Option Addr
 rc : Nat
 da : Option Addr
 dc : Nat
 c : Nat
 ks : List Nat
 ds : List Nat
 kept : List PV
 s : IS
def IT.held (t : IT) : Nat := heldN t.kept + lenS t.s
structure IOk (h : AHeap) (xb : Nat) (A : IA) (r mr : Nat) (t : IT) (n0 : Nat) : Prop where
 X : IX h xb A t.ra t.rc (lenS t.s) t.s n0
 G : GSet h A.sb r t.c t.ks t.da t.dc t.ds n0
 J : FJ h A.jb mr t.kept n0
 ne : r ≠ mr ∧ r ≠ A.nx ∧ r ≠ A.wt ∧ mr ≠ A.nx ∧ mr ≠ A.wt
section
variable {h h' : AHeap} {xb : Nat} {A : IA} {r mr : Nat} {t : IT} {n0 : Nat}
theorem IOk.same (k : IOk h xb A r mr t n0) (s : Same h h') : IOk h' xb A r mr t n0 := ⟨k.X.same s, k.G.same s, k.J.same s, k.ne⟩
theorem IOk.gx (k : IOk h xb A r mr t n0) : ∀ j ∈ [A.sb, r] ++ blk t.da, j ∉ [xb, A.nx, A.wt] ++ blk t.ra := fun j hj hm => by
 obtain ⟨es, ck, g, -⟩ := k.G.mp
 obtain ⟨es1, ck1, g1, -⟩ := k.X.nm
 obtain ⟨es2, ck2, g2, -⟩ := k.X.wm
 simp only [List.cons_append, List.nil_append, List.mem_cons] at hj hm
 rcases hj with rfl | rfl | q
 ·
  have gs := k.G.sc
  rcases hm with e | e | e | z
  · rw [e, k.X.xc] at gs; cases gs
  · rw [e, g1] at gs; cases gs
  · rw [e, g2] at gs; cases gs
  · exact sv_out k.X.rv gs (fun c e => by cases e) z
 ·
  rcases hm with e | e | e | z
  · have := k.X.xc; rw [← e, g] at this; cases this
  · exact k.ne.2.1 e
  · exact k.ne.2.2.1 e
  · exact sv_out k.X.rv g (fun c e => by cases e) z
 ·
  rcases hm with rfl | rfl | rfl | z
  · exact sv_out k.G.dv k.X.xc (fun c e => by cases e) q
  · exact sv_out k.G.dv g1 (fun c e => by cases e) q
  · exact sv_out k.G.dv g2 (fun c e => by cases e) q
  · exact sv_sv k.G.dv k.X.rv (by decide) j q z
theorem IOk.jx (k : IOk h xb A r mr t n0) : A.jb ∉ [xb, A.nx, A.wt] ++ blk t.ra ∧ mr ∉ [xb, A.nx, A.wt] ++ blk t.ra := by
 obtain ⟨es, ck, g, -⟩ := k.J.mp
 obtain ⟨es1, ck1, g1, -⟩ := k.X.nm
 obtain ⟨es2, ck2, g2, -⟩ := k.X.wm
 have gj := k.J.jc
 refine ⟨fun hm => ?_, fun hm => ?_⟩
 ·
  simp only [List.cons_append, List.nil_append, List.mem_cons] at hm
  rcases hm with e | e | e | z
  · rw [e, k.X.xc] at gj; cases gj
  · rw [e, g1] at gj; cases gj
  · rw [e, g2] at gj; cases gj
  · exact sv_out k.X.rv gj (fun c e => by cases e) z
 ·
  simp only [List.cons_append, List.nil_append, List.mem_cons] at hm
  rcases hm with e | e | e | z
  · have := k.X.xc; rw [← e, g] at this; cases this
  · exact k.ne.2.2.2.1 e
  · exact k.ne.2.2.2.2 e
  · exact sv_out k.X.rv g (fun c e => by cases e) z
theorem IOk.jg (k : IOk h xb A r mr t n0) : A.jb ∉ [A.sb, r] ++ blk t.da ∧ mr ∉ [A.sb, r] ++ blk t.da := by
 obtain ⟨es, ck, g, -⟩ := k.J.mp
 obtain ⟨es1, ck1, g1, -⟩ := k.G.mp
 have gj := k.J.jc
 have gs := k.G.sc
 refine ⟨fun hm => ?_, fun hm => ?_⟩
 ·
  simp only [List.cons_append, List.nil_append, List.mem_cons] at hm
  rcases hm with e | e | z
  · rw [e, gs] at gj; cases gj
  · rw [e, g1] at gj; cases gj
  · exact sv_out k.G.dv gj (fun c e => by cases e) z
 ·
  simp only [List.cons_append, List.nil_append, List.mem_cons] at hm
  rcases hm with e | e | z
  · rw [← e, g] at gs; cases gs
  · exact k.ne.1 e.symm
  · exact sv_out k.G.dv g (fun c e => by cases e) z
theorem IOk.dg (k : IOk h xb A r mr t n0) {a : Option Addr} {len cap : Nat} {cs : List Value} (d : Sv h 5 1 a len cap cs) : ∀ i ∈ blk a, i ∉ [A.sb, r] ++ blk t.da := fun i hi hm => by
 obtain ⟨es1, ck1, g1, -⟩ := k.G.mp
 simp only [List.cons_append, List.nil_append, List.mem_cons] at hm
 rcases hm with rfl | rfl | z
 · exact sv_out d k.G.sc (fun c e => by cases e) hi
 · exact sv_out d g1 (fun c e => by cases e) hi
 · exact sv_sv d k.G.dv (by decide) i hi z
theorem IOk.dj (k : IOk h xb A r mr t n0) {a : Option Addr} {len cap : Nat} {cs : List Value} (d : Sv h 5 1 a len cap cs) : ∀ i ∈ blk a, i ∉ [A.jb, mr] := fun i hi hm => by
 obtain ⟨es1, ck1, g1, -⟩ := k.J.mp
 simp only [List.mem_cons, List.not_mem_nil, or_false] at hm
 rcases hm with rfl | rfl
 · exact sv_out d k.J.jc (fun c e => by cases e) hi
 · exact sv_out d g1 (fun c e => by cases e) hi
theorem IOk.setG (k : IOk h xb A r mr t n0) {da' : Option Addr} {dc' c' : Nat} {ks' ds' : List Nat} (kk : Keeps ([A.sb, r] ++ blk t.da) h h') (G : GSet h' A.sb r c' ks' da' dc' ds' n0) : IOk h' xb A r mr { t with da := da', dc := dc', c := c', ks := ks', ds := ds' } n0 := ⟨k.X.kept kk (fun j hj hm => k.gx j hm hj) (fun d => k.dg d), G, k.J.kept kk k.jg.1 k.jg.2 (fun p hp => k.dg (k.J.dv p hp)), k.ne⟩
theorem IOk.setJ (k : IOk h xb A r mr t n0) {kept' : List PV} (kk : Keeps [A.jb, mr] h h') (J : FJ h' A.jb mr kept' n0) : IOk h' xb A r mr { t with kept := kept' } n0 := ⟨k.X.kept kk (fun j hj hm => by
 simp only [List.mem_cons, List.not_mem_nil, or_false] at hm
 rcases hm with rfl | rfl
 · exact k.jx.1 hj
 · exact k.jx.2 hj) (fun d => k.dj d), k.G.kept kk (fun j hj hm => by
 simp only [List.mem_cons, List.not_mem_nil, or_false] at hm
 rcases hm with rfl | rfl
 · exact k.jg.1 hj
 · exact k.jg.2 hj), J, k.ne⟩
theorem IOk.setX (k : IOk h xb A r mr t n0) {ra' : Option Addr} {rc' : Nat} {s' : IS} (kk : Keeps ([xb, A.nx, A.wt] ++ blk t.ra) h h') (X : IX h' xb A ra' rc' (lenS s') s' n0) : IOk h' xb A r mr { t with ra := ra', rc := rc', s := s' } n0 := ⟨X, k.G.kept kk k.gx, k.J.kept kk k.jx.1 k.jx.2 (fun p hp => k.X.out (k.J.dv p hp)), k.ne⟩
end
theorem inboxU : Try.prog.underlying 27 = some (.pointer 84) := by kernel_rfl
set_option maxHeartbeats 4000000 in
theorem icum_spec (xb : Nat) (A : IA) (r mr : Nat) (t : IT) (n0 : Nat) (h : AHeap) (k : IOk h xb A r mr t n0) : CallS Try.prog [] 19 [.pointer (some ⟨xb, 0, none⟩)] h fun v h' => v = .int .u32 (t.c : Nat) ∧ h' = h := by
 have gx := k.X.xc
 have hc := cum_spec A.sb r t.c t.ks t.da t.dc t.ds n0 h k.G
 (refine CallS.of1 Try.func19 rfl Try.ntmps19 Try.results19 rfl ?_)
 (refine Go.run (g:=?_))
 refine GoR.eqRef rfl rfl rfl rfl (.inl rfl) rfl rfl (aEq_ptrNil9 inboxU _) ?_
 (refine Go.run (g:=?_))
 refine GoR.call rfl rfl rfl rfl rfl rfl rfl (((hc).argA).mono ?_)
 rintro _ h2 ⟨rfl, rfl⟩ -
 (refine Go.run (g:=?_))
 (first|refine Go.finA rfl ?_|refine Go.finB rfl (hq:=?_))
 exact ⟨rfl, rfl⟩
set_option maxHeartbeats 4000000 in
theorem iready_spec (xb : Nat) (A : IA) (r mr : Nat) (t : IT) (n0 : Nat) (h : AHeap) (k : IOk h xb A r mr t n0) : CallS Try.prog [] 20 [.pointer (some ⟨xb, 0, none⟩)] h fun v h' => v = .int .i64 (t.s.ready.length : Nat) ∧ h' = h := by
 have gx := k.X.xc
 (refine CallS.of1 Try.func20 rfl Try.ntmps20 Try.results20 rfl ?_)
 (refine Go.run (g:=?_))
 refine GoR.eqRef rfl rfl rfl rfl (.inl rfl) rfl rfl (aEq_ptrNil9 inboxU _) ?_
 (refine Go.run (g:=?_))
 (first|refine Go.finA rfl ?_|refine Go.finB rfl (hq:=?_))
 exact ⟨rfl, rfl⟩
set_option maxHeartbeats 4000000 in
theorem iheld_spec (xb : Nat) (A : IA) (r mr : Nat) (t : IT) (n0 : Nat) (h : AHeap) (k : IOk h xb A r mr t n0) (hb : t.held ≤ 1000000000) : CallS Try.prog [] 21 [.pointer (some ⟨xb, 0, none⟩)] h fun v h' => v = .int .i64 (t.held : Nat) ∧ h' = h := by
 have gx := k.X.xc
 have hh := fheld_spec A.jb mr t.kept n0 h k.J
 unfold IT.held at *
 (refine CallS.of1 Try.func21 rfl Try.ntmps21 Try.results21 rfl ?_)
 (refine Go.run (g:=?_))
 refine GoR.eqRef rfl rfl rfl rfl (.inl rfl) rfl rfl (aEq_ptrNil9 inboxU _) ?_
 (refine Go.run (g:=?_))
 refine GoR.call rfl rfl rfl rfl rfl rfl rfl (((hh).argA).mono ?_)
 rintro _ h2 ⟨rfl, rfl⟩ -
 (refine Go.run (g:=?_))
 (first|refine Go.finA rfl ?_|refine Go.finB rfl (hq:=?_))
 exact ⟨rfl, rfl⟩
set_option maxHeartbeats 4000000 in
theorem irwnd_spec (xb : Nat) (A : IA) (r mr : Nat) (t : IT) (n0 : Nat) (h : AHeap) (k : IOk h xb A r mr t n0) (hb : t.held ≤ 1000000000) (hr : A.rm ≤ 1048576) (hs : A.sp ≤ 1048576) : CallS Try.prog [] 23 [.pointer (some ⟨xb, 0, none⟩)] h fun v h' => v = .int .u32 (A.rm - A.sp - t.held : Nat) ∧ h' = h := by
 have gx := k.X.xc
 have hh := iheld_spec xb A r mr t n0 h k hb
 generalize t.held = hd at *
 (refine CallS.of1 Try.func23 rfl Try.ntmps23 Try.results23 rfl ?_)
 (refine Go.run (g:=?_))
 refine GoR.eqRef rfl rfl rfl rfl (.inl rfl) rfl rfl (aEq_ptrNil9 inboxU _) ?_
 (refine Go.run (g:=?_))
 refine GoR.call rfl rfl rfl rfl rfl rfl rfl (((hh).argA).mono ?_)
 rintro _ h2 ⟨rfl, rfl⟩ -
 (refine Go.run (g:=?_))
 refine GoR.maxI rfl rfl rfl rfl rfl rfl ?_
 have e : (if (A.rm : Int) - (A.sp : Int) - (hd : Int) > 0 then (A.rm : Int) - (A.sp : Int) - (hd : Int) else 0) = ((A.rm - A.sp - hd : Nat) : Int) := by
  split <;> omega
 rw [e]
 have hlt : A.rm - A.sp - hd < 4294967296 := by omega
 generalize A.rm - A.sp - hd = w at *
 (refine Go.run (g:=?_))
 (first|refine Go.finA rfl ?_|refine Go.finB rfl (hq:=?_))
 exact ⟨rfl, rfl⟩
end Go.Proofs.Ytccbmmnkiihkaaa
namespace Go.Proofs.Ytccbmmnkiihkaaa
set_option maxRecDepth 100000
attribute [local irreducible] Go GoR GoL
def boundN (n : Int) : Nat := if n > 1048576 then 1048576 else n.toNat
theorem boundN_le (n : Int) : boundN n ≤ 1048576 := by unfold boundN; split <;> omega
set_option maxHeartbeats 4000000 in
theorem bound_spec (n : Int) (h : AHeap) : CallS Try.prog [] 29 [.int .i64 n] h fun v h' => v = .int .i64 (boundN n : Nat) ∧ h' = h := by
 have key : (if (if (1048576 : Int) < n then (1048576 : Int) else n) > 0 then (if (1048576 : Int) < n then (1048576 : Int) else n) else 0) = ((boundN n : Nat) : Int) := by
  unfold boundN
  by_cases q : (1048576 : Int) < n
  · rw [if_pos q, if_pos (show n > 1048576 from q)]; rfl
  ·
   rw [if_neg q, if_neg (show ¬ n > 1048576 from q)]
   by_cases p : n > 0
   · rw [if_pos p]; omega
   · rw [if_neg p]; omega
 (refine CallS.of1 Try.func29 rfl Try.ntmps29 Try.results29 rfl ?_)
 (refine Go.run (g:=?_))
 refine GoR.minI rfl rfl rfl rfl rfl rfl ?_
 refine GoR.maxI rfl rfl rfl rfl rfl rfl ?_
 rw [key]
 (refine Go.run (g:=?_))
 (first|refine Go.finA rfl ?_|refine Go.finB rfl (hq:=?_))
 exact ⟨rfl, rfl⟩
set_option maxHeartbeats 8000000 in
theorem inew_spec (st : Nat) (rm sp : Int) (c : Nat) (hc : c < 4294967296) (h : AHeap) : CallS Try.prog [] 8 [.int .u16 st, .int .i64 rm, .int .i64 sp, .int .u32 c] h fun v h' => ∃ xb sb jb nx wt r mr, v = .pointer (some ⟨xb, 0, none⟩) ∧ IOk h' xb ⟨st, boundN rm, boundN sp, sb, jb, nx, wt⟩ r mr ⟨none, 0, none, 0, c, [], [], [], ⟨[], [], []⟩⟩ h.n := by
 (refine CallS.of4 Try.func8 rfl Try.ntmps8 Try.results8 rfl ?_)
 (refine Go.run (g:=?_))
 refine GoR.call rfl rfl rfl rfl rfl rfl rfl (((bound_spec rm _).argA).mono ?_)
 rintro _ h1 ⟨rfl, rfl⟩ -
 (refine Go.run (g:=?_))
 refine GoR.call rfl rfl rfl rfl rfl rfl rfl (((bound_spec sp _).argA).mono ?_)
 rintro _ h2 ⟨rfl, rfl⟩ -
 (refine Go.run (g:=?_))
 refine GoR.call rfl rfl rfl rfl rfl rfl rfl (((gnew_spec c hc _).argA).mono ?_)
 rintro _ h3 ⟨sb, r, rfl, G⟩ s3
 (refine Go.run (g:=?_))
 refine GoR.call rfl rfl rfl rfl rfl rfl rfl (((fnew_spec _).argA).mono ?_)
 rintro _ h4 ⟨jb, mr, rfl, J⟩ s4
 (refine Go.run (g:=?_))
 refine GoR.makeMapI rfl rfl rfl rfl ?_
 intro h5 M5 s5 n5
 refine GoR.makeMapG tf rfl rfl rfl rfl ?_
 intro h6 M6 s6 n6
 have glt := G.lts
 have gow := G.owns
 have m3 := s3.1
 have m4 := s4.1
 have jlt := AHeap.lt J.jc
 have mlt := J.mp.lt
 have jow := J.ow
 have l1 := glt sb (by simp)
 have l2 := glt r (by simp)
 (refine Go.run (g:=?_))
 refine Go.name ?_
 intro h7 e7
 have s7 : Same h6 h7 := by subst e7; exact (Same.refl h6).push _
 have g7 : h7.get h6.n = some (.cells (xC st (boundN rm) (boundN sp) sb jb h4.n h5.n none 0 0 0) 84) := by subst e7; exact AHeap.get_push_same _ _
 clear e7
 have o1 := gow sb (by simp)
 have o2 := gow r (by simp)
 (first|refine Go.finA rfl ?_|refine Go.finB rfl (hq:=?_))
 refine ⟨_, sb, jb, h4.n, h5.n, r, mr, rfl, ⟨g7, ((M5 _).same s6).same s7, M6.same s7, Sv.nil, (fun m hm => by cases hm), (fun m hm => by cases hm), (fun m hm => by cases hm), (fun m hm => by cases hm), (fun m hm => by cases hm), by simp only; omega, ⟨by omega, by simp only; omega, by simp only; omega, Own.nil _⟩⟩, ?_, ?_, ⟨by omega, by simp only; omega, by simp only; omega, by simp only; omega, by simp only; omega⟩⟩
 ·
  have G' := (((G.same s4).same s5).same s6).same s7
  exact { G' with ow := ⟨by omega, by omega, Own.nil _⟩ }
 ·
  have J' := ((J.same s5).same s6).same s7
  exact { J' with ow := ⟨by simp only; omega, by omega⟩ }
theorem sv_narrow {h : AHeap} {t : TypeId} {sz : Nat} {a : Option Addr} {len cap cap' : Nat} {cs : List Value} (k : Sv h t sz a len cap cs) (h1 : len ≤ cap') (h2 : cap' ≤ cap) : Sv h t sz a len cap' cs := by
 cases k with
 | nil =>
  obtain rfl : cap' = 0 := by omega
  exact .nil
 | mk hg ho hl hc => exact .mk hg (by have := Nat.mul_le_mul_right sz h2; omega) h1 hc
theorem ics_drop (m : IM) (l : List IM) : (ics (m :: l)).drop (1 * 4) = ics l := rfl
set_option maxHeartbeats 16000000 in
theorem irecv_specO (xb : Nat) (A : IA) (r mr : Nat) (t : IT) (n0 : Nat) (h : AHeap) (hn0 : n0 ≤ h.n) (k : IOk h xb A r mr t n0) (hl : t.s.ready.length ≤ 1000000) (hb : t.held ≤ 1000000000) : CallS Try.prog [xb] 12 [.pointer (some ⟨xb, 0, none⟩)] h fun v h' => (t.s.ready = [] ∧ v = .tuple #[.agg #[.int .u16 0, .bool false, .int .u32 0, .slice none 0 0], .bool false] ∧ IOk h' xb A r mr t n0) ∨ ∃ m rest ra' rc', t.s.ready = m :: rest ∧ v = .tuple #[iV m, .bool true] ∧ IOk h' xb A r mr { t with ra := ra', rc := rc', s := { t.s with ready := rest } } n0 ∧ Sv h' 5 1 m.a m.z.length m.cap (m.z.map bv) ∧ (m.sid < 65536 ∧ m.ppid < 4294967296) ∧ ∀ i ∈ blk ra', i ∈ blk t.ra := by
 have gx := k.X.xc
 have hlt := AHeap.lt gx
 have hrd := iready_spec xb A r mr t n0
 have hlt2 := k.X.lts
 have hglt := k.G.lts
 have hjl := AHeap.lt k.J.jc
 have hmrl := k.J.mp.lt
 have hlen : lenI t.s.ready ≤ t.held := by unfold IT.held lenS; omega
 (refine CallS.of1 Try.func12 rfl Try.ntmps12 Try.results12 rfl ?_)
 (refine Go.run (g:=?_))
 refine GoR.name ?_
 intro h1 e1
 have s1 : Same h h1 := by subst e1; exact (Same.refl h).push _
 have g1 : h1.get h.n = some (.cells [.int .u16 0, .bool false, .int .u32 0, .slice none 0 0] 39) := by subst e1; exact AHeap.get_push_same _ _
 have n1 : h1.n = h.n + 1 := by subst e1; rfl
 clear e1
 have k1 := k.same s1
 have gx1 := k1.X.xc
 clear gx
 refine GoR.call rfl rfl rfl rfl rfl rfl rfl (((hrd _ k1).argA).mono ?_)
 rintro _ h2 ⟨rfl, rfl⟩ -
 cases hr : t.s.ready with
 | nil =>
  simp only [List.length_nil]
  (refine Go.run (g:=?_))
  refine Go.name ?_
  intro h3 e3
  have s3 : Same h h3 := by subst e3; exact s1.put (Nat.le_refl _) _
  have g3 : h3.get h.n = some (.cells [.int .u16 0, .bool false, .int .u32 0, .slice none 0 0] 39) := by subst e3; exact get_put_self g1
  clear e3
  refine Go.fin (by first|exact .inr rfl|exact .inl rfl) (.cellN rfl inferInstance hg_ (by first | exact Nat.le_refl _ | (simp; omega)) rfl (.tmp rfl .nil)) ?_
  exact .inl ⟨trivial, rfl, k.same s3⟩
 | cons m rest =>
  have hrl : t.s.ready.length = rest.length + 1 := by rw [hr]; rfl
  have rv1 := k1.X.rv
  rw [hr] at rv1 gx1
  have c0 : ((ics (m :: rest)).drop (0 * 4)).take 4 = iC m := rfl
  have hbe : 0 * 4 + 4 ≤ (ics (m :: rest)).length := by rw [ics_len]; simp only [List.length_cons]; omega
  have hml : m.z.length ≤ lenS t.s := by unfold lenS lenI; rw [hr]; simp only [List.map_cons, List.sum_cons]; omega
  have hls : lenS t.s ≤ 1000000000 := by unfold IT.held at hb; omega
  have hlc : (m :: rest).length = rest.length + 1 := rfl
  simp only [iC] at c0
  (refine Go.run (g:=?_))
  refine GoR.name ?_
  intro h3 e3
  have s3 : Same h2 h3 := by subst e3; exact ((Same.refl h2).push _).put (Nat.le_refl _) _
  have g4 : h3.get h2.n = some (.cells [.int .u16 (m.sid : Nat), .bool m.un, .int .u32 (m.ppid : Nat), .slice m.a m.z.length m.cap] 39) := by subst e3; exact hg_
  have n3 : h3.n = h2.n + 1 := by subst e3; rfl
  clear e3
  have k3 := k1.same s3
  have rv3 := rv1.same s3
  have gx3 := s3.get gx1
  have g13 := s3.get g1
  have xr3 := k3.X.xr
  clear k k1 rv1 gx1 g1 s1
  refine GoR.slice3V (lo' := some (.int .i64 1)) (hi := .int .i64 ((m :: rest).length : Nat)) (mx := .int .i64 ((m :: rest).length : Nat)) (l := 1) (r := (m :: rest).length) (xx := (m :: rest).length) rfl rfl rfl rfl rfl rfl rfl rfl rv3.rv (by simp [bnd]) (by simp [bnd]; omega) (by simp [bnd]; omega) (by rw [hlc]; omega) (Nat.le_refl _) rv3.le ?_
  have nv3 := sv_narrow rv3 (Nat.le_refl _) rv3.le
  have sb3 := nv3.sub (l := 1) (r := (m :: rest).length) (by rw [hlc]; omega) (Nat.le_refl _)
  rw [hlc, Nat.add_sub_cancel] at sb3
  rw [hlc, Nat.add_sub_cancel]
  rw [ics_drop, List.take_of_length_le (by rw [ics_len]; exact Nat.le_refl _)] at sb3
  have hsub : blk (subA t.ra (1 * 4)) = blk t.ra := by cases t.ra <;> rfl
  generalize subA t.ra (1 * 4) = ra' at *
  rw [hlc] at gx3
  (refine Go.run (g:=?_))
  refine Go.name ?_
  intro h4 e4
  have k4 : Keeps [xb] h3 h4 := by subst e4; exact (Keeps.rf _ _).pt (.inl (by simp)) _
  have gx4 : h4.get xb = some (.cells (xC A.st A.rm A.sp A.sb A.jb A.nx A.wt ra' rest.length rest.length (lenS t.s)) 84) := by subst e4; exact get_put_self gx3
  clear e4
  have g44 := k4.get g4 (by simp; omega)
  have g14 := k4.get g13 (by simp; omega)
  have n4 := k4.1
  clear gx3 g4
  refine Go.runN (g:=?_)
  refine Go.kk 2 rfl ?_
  refine Go.loud (by kernel_rfl) rfl ?_
  (refine Go.runL (g:=?_))
  refine GoL.st (g:=?_)
  (refine Go.runL (g:=?_))
  refine GoL.endN (g:=?_)
  refine Go.name ?_
  intro h5 e5
  have k5 : Keeps [xb] h4 h5 := by subst e5; exact (Keeps.rf _ _).pt (.inl (by simp)) _
  have gx5 : h5.get xb = some (.cells (xC A.st A.rm A.sp A.sb A.jb A.nx A.wt ra' rest.length rest.length (lenS t.s - m.z.length)) 84) := by subst e5; exact get_put_self gx4
  clear e5
  have g45 := k5.get g44 (by simp; omega)
  have g15 := k5.get g14 (by simp; omega)
  have n5 := k5.1
  clear gx4 g44 g14
  (refine Go.run (g:=?_))
  refine Go.name ?_
  intro h6 e6
  have k6 : Keeps [h.n] h5 h6 := by subst e6; exact (Keeps.rf _ _).pt (.inl (by simp)) _
  have g16 : h6.get h.n = some (.cells [.int .u16 (m.sid : Nat), .bool m.un, .int .u32 (m.ppid : Nat), .slice m.a m.z.length m.cap] 39) := by subst e6; exact get_put_self g15
  clear e6
  have gx6 := k6.get gx5 (by simp; omega)
  have k36 : Keeps [xb, h.n] h3 h6 := ⟨by have := k6.1; omega, fun i hi hn => by
   simp only [List.mem_cons, List.not_mem_nil, or_false, not_or] at hn
   rw [k6.2 i (by omega) (by simpa using hn.2), k5.2 i (by omega) (by simpa using hn.1), k4.2 i hi (by simpa using hn.1)]⟩
  have hwh : lenS { t.s with ready := rest } = lenS t.s - m.z.length := by
   unfold lenS lenI
   rw [hr]
   simp only [List.map_cons, List.sum_cons]
   omega
  refine Go.fin (by first|exact .inr rfl|exact .inl rfl) (.cellN rfl inferInstance hg_ (by first | exact Nat.le_refl _ | (simp; omega)) rfl (.tmp rfl .nil)) ?_
  have hmm : m ∈ t.s.ready := by rw [hr]; simp
  have hsb : ∀ q ∈ rest, q ∈ t.s.ready := fun q hq => by rw [hr]; simp [hq]
  have nin : ∀ j, j < h.n → j ≠ xb → j ∉ [xb, h.n] := fun j h1 h2 hm => by
   simp only [List.mem_cons, List.not_mem_nil, or_false] at hm
   omega
  have dat : ∀ {a : Option Addr} {len cap : Nat} {cs : List Value}, Sv h3 5 1 a len cap cs → Sv h6 5 1 a len cap cs := fun d => d.keeps k36 fun i hi hm => by
   simp only [List.mem_cons, List.not_mem_nil, or_false] at hm
   rcases hm with rfl | rfl
   · exact sv_out d k3.X.xc (fun c e => by cases e) hi
   · exact sv_out d g13 (fun c e => by cases e) hi
  refine .inr ⟨m, rest, ra', rest.length, rfl, rfl, ?_, dat (k3.X.dr m hmm), k3.X.mr m hmm, fun i hi => by rw [← hsub]; exact hi⟩
  have l0 := hlt2 xb (by simp)
  refine ⟨⟨by simp only [hwh]; exact gx6, k3.X.nm.keeps k36 (nin _ (hlt2 _ (by simp)) k3.X.xn), k3.X.wm.keeps k36 (nin _ (hlt2 _ (by simp)) k3.X.xw), sb3.keeps k36 (fun j hj => nin j (hlt2 j (by rw [hsub] at hj; simp [hj])) (fun e => xr3 (by rw [← e, ← hsub]; exact hj))), fun q hq => dat (k3.X.dr q (hsb q hq)), fun q hq => dat (k3.X.dw q hq), fun q hq => k3.X.mr q (hsb q hq), k3.X.mw, k3.X.nb, k3.X.ne, ⟨k3.X.ow.1, k3.X.ow.2.1, k3.X.ow.2.2.1, fun j hj => k3.X.ow.2.2.2 j (by rw [← hsub]; exact hj)⟩⟩, k3.G.kept k36 (fun j hj => nin j (hglt j hj) (fun e => k3.gx j hj (by simp [e]))), k3.J.kept k36 (nin _ hjl (fun e => k3.jx.1 (by simp [e]))) (nin _ hmrl (fun e => k3.jx.2 (by simp [e]))) (fun q hq i hi hm => ?_), k3.ne⟩
  simp only [List.mem_cons, List.not_mem_nil, or_false] at hm
  rcases hm with rfl | rfl
  · exact sv_out (k3.J.dv q hq) k3.X.xc (fun c e => by cases e) hi
  · exact sv_out (k3.J.dv q hq) g13 (fun c e => by cases e) hi
end Go.Proofs.Ytccbmmnkiihkaaa
namespace Go.Proofs.Ytccbmmnkiihkaaa
set_option maxRecDepth 100000
attribute [local irreducible] Go GoR GoL
def limitI (A : IA) (t : IT) (p : PV) : Int := if p.t = next32 t.c then (A.rm : Int) else (A.rm : Int) - (A.sp : Int)
inductive AddI (A : IA) (t : IT) (p : PV) : Int → IT → Prop
 | arg (h0 : p.z.length = 0) : AddI A t p 2 t
 | full (h0 : p.z.length ≠ 0) (h1 : ¬ hasN t.c t.ks p.t = true) (h2 : ¬ 65535 < spanN t.c p.t) (h3 : limitI A t p < (t.held : Int) + p.z.length) : AddI A t p 7 t
 | told {code c' : Nat} {ks' ds' : List Nat} {da' : Option Addr} {dc' : Nat} (h0 : p.z.length ≠ 0) (ha : addN t.c t.ks t.ds p.t = (code, c', ks', ds')) (hc : code ≠ 0) : AddI A t p 4 { t with c := c', ks := ks', ds := ds', da := da', dc := dc' }
 | stream {c' : Nat} {ks' ds' : List Nat} {da' : Option Addr} {dc' : Nat} (h0 : p.z.length ≠ 0) (ha : addN t.c t.ks t.ds p.t = (0, c', ks', ds')) (h3 : (t.held : Int) + p.z.length ≤ limitI A t p) (hs : A.st ≤ p.sid) : AddI A t p 100 { t with c := c', ks := ks', ds := ds', da := da', dc := dc' }
 | part {c' : Nat} {ks' ds' : List Nat} {da' : Option Addr} {dc' : Nat} {pa : Option Addr} {pc : Nat} (h0 : p.z.length ≠ 0) (ha : addN t.c t.ks t.ds p.t = (0, c', ks', ds')) (h3 : (t.held : Int) + p.z.length ≤ limitI A t p) (hs : p.sid < A.st) (hp : (putN t.kept { p with a := pa, cap := pc }).2 = none) : AddI A t p 0 { t with c := c', ks := ks', ds := ds', da := da', dc := dc', kept := (putN t.kept { p with a := pa, cap := pc }).1 }
 | whole {c' : Nat} {ks' ds' : List Nat} {da' : Option Addr} {dc' : Nat} {pa : Option Addr} {pc : Nat} {m : IM} {ra' : Option Addr} {rc' : Nat} {s' : IS} (h0 : p.z.length ≠ 0) (ha : addN t.c t.ks t.ds p.t = (0, c', ks', ds')) (h3 : (t.held : Int) + p.z.length ≤ limitI A t p) (hs : p.sid < A.st) (hp : (putN t.kept { p with a := pa, cap := pc }).2 = some (m.sid, m.un, m.ppid, m.z)) (hm : msgN t.s m p.ssn = some s' ∨ msgN t.s m p.ssn = none ∧ s' = t.s) : AddI A t p 0 { t with c := c', ks := ks', ds := ds', da := da', dc := dc', kept := (putN t.kept { p with a := pa, cap := pc }).1, ra := ra', rc := rc', s := s' }
set_option maxHeartbeats 64000000 in
theorem iadd_specO (xb : Nat) (A : IA) (r mr : Nat) (t : IT) (n0 : Nat) (p : PV) (pb : PB p) (h : AHeap) (hn0 : n0 ≤ h.n) (k : IOk h xb A r mr t n0) (hrm : A.rm ≤ 1048576) (hsp : A.sp ≤ 1048576) (hst : A.st < 65536) (hl : t.s.ready.length + t.s.waits.length ≤ 900000) (hkl : t.kept.length ≤ 1000000) (hds : t.ds.length ≤ 16) (hb : t.held + p.z.length ≤ 900000000) (hpo : ∀ i ∈ blk p.a, i < n0) (hz : Rv Try.prog h 1 p.a p.z.length p.cap (p.z.map bv)) : CallS Try.prog ([xb, A.nx, A.wt] ++ blk t.ra ++ ([A.sb, r] ++ blk t.da) ++ [A.jb, mr]) 10 [.pointer (some ⟨xb, 0, none⟩), pV p] h fun v h' => ∃ code t', v = .int .i64 code ∧ AddI A t p code t' ∧ IOk h' xb A r mr t' n0 ∧ (∀ i ∈ blk t'.ra, i ∈ blk t.ra ∨ h.n ≤ i) ∧ ∀ i ∈ blk t'.da, i ∈ blk t.da ∨ h.n ≤ i := by
 have gx := k.X.xc
 have hlt := AHeap.lt gx
 obtain ⟨b1, b2, b3, b4, b5⟩ := pb
 (refine CallS.of2 Try.func10 rfl Try.ntmps10 Try.results10 rfl ?_)
 simp only [pV, pC]
 by_cases h0 : p.z.length = 0
 ·
  (refine Go.run (g:=?_))
  refine GoR.eqRef rfl rfl rfl rfl (.inl rfl) rfl rfl (aEq_ptrNil9 inboxU _) ?_
  (refine Go.run (g:=?_))
  refine Go.name ?_
  intro h1 e1
  have s1 : Same h h1 := by subst e1; exact (Same.refl h).push _
  clear e1
  (first|refine Go.finA rfl ?_|refine Go.finB rfl (hq:=?_))
  exact ⟨2, t, rfl, .arg h0, k.same s1, fun i hi => .inl hi, fun i hi => .inl hi⟩
 have gG := k.G.sc
 (refine Go.run (g:=?_))
 refine GoR.eqRef rfl rfl rfl rfl (.inl rfl) rfl rfl (aEq_ptrNil9 inboxU _) ?_
 (refine Go.run (g:=?_))
 refine GoR.name ?_
 intro h1 e1
 have s1 : Same h h1 := by subst e1; exact (Same.refl h).push _
 have g3 : h1.get h.n = some (.cells [.int .u32 (p.t : Nat), .int .u8 (p.fl : Nat), .int .u16 (p.sid : Nat), .int .u16 (p.ssn : Nat), .int .u32 (p.ppid : Nat), .slice p.a p.z.length p.cap] 33) := by subst e1; exact AHeap.get_push_same _ _
 have n1 : h1.n = h.n + 1 := by subst e1; rfl
 clear e1
 have k1 := k.same s1
 have gx1 := k1.X.xc
 have hz1 := hz.same s1
 have kb := k.G.cb
 have xlt := k.X.lts
 have glt := k.G.lts
 have jl1 := AHeap.lt k.J.jc
 have jl2 := k.J.mp.lt
 clear gx k gG hz s1
 refine GoR.call rfl rfl rfl rfl rfl rfl rfl (((gnext_spec A.sb r t.c t.ks t.da t.dc t.ds n0 p.t b1 _ k1.G).argA).mono ?_)
 rintro _ h2 ⟨rfl, rfl⟩ -
 (refine Go.run (g:=?_))
 have hL1 : -1048576 ≤ limitI A t p ∧ limitI A t p ≤ 1048576 := by unfold limitI; split <;> omega
 refine Go.join1 (α := Unit) (fun _ => [(5, .int .i64 (limitI A t p)), (3, .pointer (some ⟨h.n, 0, none⟩)), (0, .pointer (some ⟨xb, 0, none⟩))]) (fun _ => []) (fun _ => h2) (fun _ => True) ?_ ?_
 ·
  by_cases hnx : p.t = next32 t.c
  ·
   rw [decide_eq_true hnx, show limitI A t p = (A.rm : Int) from if_pos hnx]
   (refine Go.run (g:=?_))
   exact Go.joined () trivial ⟨rfl, rfl, rfl, trivial⟩ rfl rfl
  ·
   rw [decide_eq_false hnx, show limitI A t p = (A.rm : Int) - (A.sp : Int) from if_neg hnx]
   (refine Go.run (g:=?_))
   exact Go.joined () trivial ⟨rfl, rfl, rfl, trivial⟩ rfl rfl
 rintro - -
 refine Go.runN (g:=?_)
 obtain ⟨pr, hpr⟩ : ∃ pr, pr = (hasN t.c t.ks p.t || decide (65535 < spanN t.c p.t)) := ⟨_, rfl⟩
 refine Go.join1 (α := AHeap) (fun _ => [(6, .bool pr), (5, .int .i64 (limitI A t p)), (3, .pointer (some ⟨h.n, 0, none⟩)), (0, .pointer (some ⟨xb, 0, none⟩))]) (fun _ => []) (fun x => x) (fun x => Same h2 x) ?_ ?_
 ·
  generalize limitI A t p = L at *
  (refine Go.run (g:=?_))
  refine GoR.call rfl rfl rfl rfl rfl rfl rfl (((has_spec A.sb r t.c t.ks t.da t.dc t.ds n0 p.t b1 _ k1.G).argA).mono ?_)
  rintro _ h3 rfl s3
  cases hH : hasN t.c t.ks p.t with
  | true =>
   rw [hH, Bool.true_or] at hpr
   subst hpr
   (refine Go.run (g:=?_))
   exact Go.joined h3 s3 ⟨rfl, rfl, rfl, rfl, trivial⟩ rfl rfl
  | false =>
   rw [hH, Bool.false_or] at hpr
   have k3 := k1.same s3
   have gx3 := k3.X.xc
   have g33 := s3.get g3
   (refine Go.run (g:=?_))
   refine GoR.call rfl rfl rfl rfl rfl rfl rfl (((cum_spec A.sb r t.c t.ks t.da t.dc t.ds n0 _ k3.G).argA).mono ?_)
   rintro _ h4 ⟨rfl, rfl⟩ -
   (refine Go.run (g:=?_))
   refine GoR.call rfl rfl rfl rfl rfl rfl rfl (((span_spec t.c p.t kb b1 _).argA).mono ?_)
   rintro _ h5 ⟨rfl, rfl⟩ -
   by_cases hsp : 65535 < spanN t.c p.t
   ·
    rw [decide_eq_true hsp] at hpr
    subst hpr
    (refine Go.run (g:=?_))
    rw [decide_eq_true (show (65535 : Int) < ((spanN t.c p.t : Nat) : Int) by omega)]
    exact Go.joined h5 s3 ⟨rfl, rfl, rfl, rfl, trivial⟩ rfl rfl
   ·
    rw [decide_eq_false hsp] at hpr
    subst hpr
    (refine Go.run (g:=?_))
    rw [decide_eq_false (show ¬ (65535 : Int) < ((spanN t.c p.t : Nat) : Int) by omega)]
    exact Go.joined h5 s3 ⟨rfl, rfl, rfl, rfl, trivial⟩ rfl rfl
 intro h3 s3
 have k3 := k1.same s3
 have gx3 := k3.X.xc
 have g33 := s3.get g3
 have hz3 := hz1.same s3
 have n3 := s3.1
 clear k1 gx1 g3 hz1 s3
 refine Go.runN (g:=?_)
 refine Go.join2 (α := Unit) (fun _ => [(3, .pointer (some ⟨h.n, 0, none⟩)), (0, .pointer (some ⟨xb, 0, none⟩))]) (fun _ => []) (fun _ => h3) (fun _ => pr = true ∨ (t.held : Int) + p.z.length ≤ limitI A t p) ?_ ?_
 ·
  cases hp1 : pr with
  | true =>
   (refine Go.run (g:=?_))
   exact Go.joined () (.inl rfl) ⟨rfl, rfl, trivial⟩ rfl rfl
  | false =>
   have hih := iheld_spec xb A r mr t n0 h3 k3 (by omega)
   have hno : hasN t.c t.ks p.t = false ∧ ¬ 65535 < spanN t.c p.t := by
    rw [hp1] at hpr
    have := hpr.symm
    rw [Bool.or_eq_false_iff] at this
    exact ⟨this.1, of_decide_eq_false this.2⟩
   (refine Go.run (g:=?_))
   refine GoR.call rfl rfl rfl rfl rfl rfl rfl (((hih).argA).mono ?_)
   rintro _ h4 ⟨rfl, rfl⟩ -
   rcases Int.lt_or_le (limitI A t p) ((t.held : Int) + p.z.length) with hf | hf
   ·
    (refine Go.run (g:=?_))
    (first|refine Go.finA rfl ?_|refine Go.finB rfl (hq:=?_))
    exact ⟨7, t, rfl, .full h0 (by rw [hno.1]; decide) hno.2 hf, k3, fun i hi => .inl hi, fun i hi => .inl hi⟩
   ·
    (refine Go.run (g:=?_))
    exact Go.joined () (.inr hf) ⟨rfl, rfl, trivial⟩ rfl rfl
 rintro - hacc
 obtain ⟨code, c', ks', ds', hA⟩ : ∃ code c' ks' ds', addN t.c t.ks t.ds p.t = (code, c', ks', ds') := ⟨_, _, _, _, rfl⟩
 refine Go.runN (g:=?_)
 refine Go.kk 2 rfl ?_
 refine Go.loud (by kernel_rfl) rfl ?_
 (refine Go.runL (g:=?_))
 refine GoL.call rfl rfl rfl rfl rfl rfl rfl (((add_specE A.sb r t.c t.ks t.da t.dc t.ds n0 p.t b1 hds _ (by omega) k3.G hA).argA).mono ?_)
 rintro _ h4 ⟨rfl, da4, dc4, G4, bb4⟩ k4
 refine ⟨fun j hj => .inl (by simp only [List.mem_append]; exact .inl (.inr (List.mem_append.1 hj))), ?_⟩
 have n4 := k4.1
 have bb4 : ∀ i ∈ blk da4, i ∈ blk t.da ∨ h.n ≤ i := fun i hi => (bb4 i hi).imp id fun q => by omega
 have kA := k3.setG k4 G4
 have g34 := k4.get g33 (fun q => by have := glt _ q; omega)
 have hz4 := hz3.keeps k4 (fun i hi q => by have := k3.G.owns i q; have := hpo i hi; omega)
 have hdis : ∀ b ∈ [A.sb, r] ++ blk t.da, b ≠ h.n ∧ b ≠ xb := fun b hb => by
  have := glt b hb
  exact ⟨by omega, fun e => k3.gx b hb (by simp [e])⟩
 have hdis2 := hdis
 (refine Go.runL (g:=?_))
 refine GoL.endC (g:=?_)
 clear hdis hdis2 k4 G4 hz3 g33 gx3 k3
 have gxA := kA.X.xc
 have plim := hacc
 by_cases hcode : code = 0
 case neg =>
  (refine Go.run (g:=?_))
  (first|refine Go.finA rfl ?_|refine Go.finB rfl (hq:=?_))
  exact ⟨4, _, rfl, .told h0 hA hcode, kA, fun i hi => .inl hi, bb4⟩
 subst hcode
 have hprf : pr = false := by
  rw [hpr]
  cases hH : hasN t.c t.ks p.t with
  | true => rw [addN_has t.ds hH] at hA; cases hA
  | false =>
   rw [Bool.false_or]
   refine decide_eq_false fun q => ?_
   rw [addN_far t.ds (by rw [hH]; decide) q] at hA
   cases hA
 have hlim : (t.held : Int) + p.z.length ≤ limitI A t p := by
  rcases hacc with q | q
  · rw [hprf] at q; cases q
  · exact q
 clear hacc plim hpr hprf hL1
 rcases Nat.lt_or_ge p.sid A.st with hsd | hsd
 case inr =>
  (refine Go.run (g:=?_))
  (first|refine Go.finA rfl ?_|refine Go.finB rfl (hq:=?_))
  exact ⟨100, _, rfl, .stream h0 hA hlim hsd, kA, fun i hi => .inl hi, bb4⟩
 have hheld : heldN t.kept + p.z.length ≤ 1000000000 := by unfold IT.held at hb; omega
 refine Go.runN (g:=?_)
 refine Go.kk 2 rfl ?_
 refine Go.drawnQ rfl (by kernel_rfl) rfl ?_
 refine Go.runN (g:=?_)
 refine Go.kk 2 rfl ?_
 refine Go.loud (by kernel_rfl) rfl ?_
 (refine Go.runL (g:=?_))
 refine GoL.call rfl rfl rfl rfl rfl rfl rfl (((put_spec A.jb mr t.kept n0 p ⟨b1, b2, b3, b4, b5⟩ hkl hheld _ (by omega) kA.J hz4).argA).mono ?_)
 rintro v5 h5 ⟨pa, pc, J5, V5⟩ k5
 refine ⟨fun j hj => .inl (List.mem_append_right _ hj), ?_⟩
 have n5 := k5.1
 have kB := kA.setJ k5 J5
 have hjd : ∀ b ∈ [A.jb, mr], b < h.n := fun b hb => by
  simp only [List.mem_cons, List.not_mem_nil, or_false] at hb
  rcases hb with rfl | rfl <;> omega
 have g35 := k5.get g34 (fun q => by have := hjd _ q; omega)
 have hdis : ∀ b ∈ [A.jb, mr], b ≠ h.n ∧ b ≠ xb ∧ b < h4.n := fun b hb => by
  have := hjd b hb
  refine ⟨by omega, fun e => ?_, by omega⟩
  simp only [List.mem_cons, List.not_mem_nil, or_false] at hb
  rcases hb with rfl | rfl
  · exact kA.jx.1 (by simp [e])
  · exact kA.jx.2 (by simp [e])
 have hdis2 := hdis
 cases hput : (putN t.kept { p with a := pa, cap := pc }).2 with
 | none =>
  rw [hput] at V5
  obtain rfl : v5 = _ := V5
  (refine Go.runL (g:=?_))
  refine GoL.st (g:=?_)
  (refine Go.runL (g:=?_))
  refine GoL.endC (g:=?_)
  clear hdis hdis2
  refine Go.name ?_
  intro h6 e6
  have s6 : Same h5 h6 := by subst e6; exact ((Same.refl h5).push _).put (Nat.le_refl _) _
  clear e6
  (refine Go.run (g:=?_))
  (first|refine Go.finA rfl ?_|refine Go.finB rfl (hq:=?_))
  exact ⟨0, _, rfl, .part h0 hA hlim hsd hput, kB.same s6, fun i hi => .inl hi, bb4⟩
 | some ms =>
  obtain ⟨sid, un, ppid, D⟩ := ms
  rw [hput] at V5
  obtain ⟨ma, mc, rfl, sm5, om5⟩ := V5
  (refine Go.runL (g:=?_))
  refine GoL.st (g:=?_)
  (refine Go.runL (g:=?_))
  refine GoL.endC (g:=?_)
  clear hdis hdis2
  refine Go.name ?_
  intro h6 e6
  have s6 : Same h5 h6 := by subst e6; exact ((Same.refl h5).push _).put (Nat.le_refl _) _
  have g76 : h6.get h5.n = some (.cells [.int .u16 (sid : Nat), .bool un, .int .u32 (ppid : Nat), .slice ma D.length mc] 39) := by subst e6; exact hg_
  have n6 : h6.n = h5.n + 1 := by subst e6; rfl
  clear e6
  have kC := kB.same s6
  have sm6 := sm5.same s6
  obtain ⟨bs, bp⟩ := putN_bound kA.J.pb (show PB { p with a := pa, cap := pc } from ⟨b1, b2, b3, b4, b5⟩) hput
  have hph := putN_held t.kept { p with a := pa, cap := pc }
  rw [hput] at hph
  have hDl : lenS t.s + D.length ≤ 1000000000 := by
   have : heldN (putN t.kept { p with a := pa, cap := pc }).1 + D.length ≤ heldN t.kept + p.z.length := hph
   unfold IT.held at hb
   omega
  clear kA kB hph k5 J5 gxA s6 sm5
  (refine Go.run (g:=?_))
  refine GoR.callW rfl rfl rfl rfl rfl rfl rfl (((message_spec xb A t.ra t.rc (lenS t.s) t.s n0 ⟨sid, un, ppid, ma, mc, D⟩ p.ssn b4 hl hDl _ (by omega) kC.X ⟨bs, bp⟩ sm6).argA).mono ?_)
  rintro _ h7 ⟨ra7, rc7, X7, o7⟩ k7
  refine ⟨fun i hi => .inl (List.mem_append_left _ (List.mem_append_left _ hi)), ?_⟩
  cases hmsg : msgN t.s ⟨sid, un, ppid, ma, mc, D⟩ p.ssn with
  | none =>
   rw [hmsg] at X7
   have kD := kC.setX k7 X7
   (refine Go.run (g:=?_))
   (first|refine Go.finA rfl ?_|refine Go.finB rfl (hq:=?_))
   exact ⟨0, _, rfl, .whole (m := ⟨sid, un, ppid, ma, mc, D⟩) h0 hA hlim hsd hput (.inr ⟨hmsg, rfl⟩), kD, fun i hi => (o7 i hi).imp id fun q => by omega, bb4⟩
  | some s' =>
   rw [hmsg] at X7
   have hml := msg_len hmsg
   have X7 : IX h7 xb A ra7 rc7 (lenS t.s + D.length) s' n0 := X7
   rw [show lenS t.s + D.length = lenS s' from hml.symm] at X7
   have kD := kC.setX k7 X7
   (refine Go.run (g:=?_))
   (first|refine Go.finA rfl ?_|refine Go.finB rfl (hq:=?_))
   exact ⟨0, _, rfl, .whole (m := ⟨sid, un, ppid, ma, mc, D⟩) h0 hA hlim hsd hput (.inl hmsg), kD, fun i hi => (o7 i hi).imp id fun q => by omega, bb4⟩
end Go.Proofs.Ytccbmmnkiihkaaa
namespace Go.Proofs.Ytccbmmnkiihkaaa
set_option maxRecDepth 100000
attribute [local irreducible] Go GoR GoL
theorem settle_far (n : Nat) : ∀ (c : Nat) (ks : List Nat), c < 4294967296 → ∃ k, k ≤ n ∧ (settleN n c ks).1 = (c + k) % 4294967296 := by
 induction n with
 | zero => intro c ks hc; exact ⟨0, Nat.le_refl _, by rw [Nat.add_zero, Nat.mod_eq_of_lt hc]; rfl⟩
 | succ n ih =>
  intro c ks hc
  by_cases h : next32 c ∈ ks
  ·
   obtain ⟨k, hk, e⟩ := ih (next32 c) (ks.erase (next32 c)) (next32_lt c)
   refine ⟨k + 1, by omega, ?_⟩
   rw [settleN_yes h, e]
   unfold next32
   omega
  ·
   rw [settleN_no h]
   exact ⟨0, Nat.zero_le _, by rw [Nat.add_zero, Nat.mod_eq_of_lt hc]⟩
theorem addN_far2 {c t : Nat} {ks ds : List Nat} (hc : c < 4294967296) : ∃ k, k ≤ ks.length + 1 ∧ (addN c ks ds t).2.1 = (c + k) % 4294967296 := by
 by_cases h : hasN c ks t = true
 · rw [addN_has ds h]; exact ⟨0, Nat.zero_le _, by rw [Nat.add_zero, Nat.mod_eq_of_lt hc]⟩
 ·
  by_cases h2 : 65535 < spanN c t
  · rw [addN_far ds h h2]; exact ⟨0, Nat.zero_le _, by rw [Nat.add_zero, Nat.mod_eq_of_lt hc]⟩
  ·
   obtain ⟨X, hX⟩ : ∃ X, settleN (ks.length + 1) c (ks ++ [t]) = X := ⟨_, rfl⟩
   have := settle_far (ks.length + 1) c (ks ++ [t]) hc
   rw [hX] at this
   rw [addN_new ds h h2 hX]
   exact this
theorem drain_cnt : ∀ (n sid t : Nat) (w : WL) (rd : List IM), (drainN n sid t w rd).2.1.length + (drainN n sid t w rd).2.2.length = w.length + rd.length
 | 0, sid, t, w, rd => rfl
 | n + 1, sid, t, w, rd => by
  cases h : gl w (sid, t) with
  | none => rw [drainN_none h]
  | some m =>
   rw [drainN_some h]
   have h1 := drain_cnt n sid (nx16 t) (gdel w (sid, t)) (rd ++ [m])
   have h2 := gdel_len h
   rw [List.length_append] at h1
   simp only [List.length_cons, List.length_nil] at h1
   omega
theorem msg_cnt {s s' : IS} {m : IM} {ssn : Nat} (h : msgN s m ssn = some s') : s'.ready.length + s'.waits.length = s.ready.length + s.waits.length + 1 := by
 unfold msgN at h
 split at h
 · cases h; simp only [List.length_append, List.length_cons, List.length_nil]; omega
 ·
  split at h
  ·
   cases h
   have := drain_cnt (s.waits.length + 1) m.sid (nx16 ssn) s.waits (s.ready ++ [m])
   rw [List.length_append] at this
   simp only [List.length_cons, List.length_nil] at this ⊢
   omega
  ·
   split at h
   · cases h; simp only [List.length_append, List.length_cons, List.length_nil]; omega
   · cases h
structure AddO (A : IA) (t t' : IT) : Prop where
 held : t.held ≤ A.rm → t'.held ≤ A.rm
 cum : ∃ k, k ≤ t.ks.length + 1 ∧ t'.c = (t.c + k) % 4294967296
 ks : t'.ks.length ≤ t.ks.length + 1
 ds : t'.ds.length ≤ 16
 kept : t'.kept.length ≤ t.kept.length + 1
 cnt : t'.s.ready.length + t'.s.waits.length ≤ t.s.ready.length + t.s.waits.length + 1
theorem addI_ok {A : IA} {t t' : IT} {p : PV} {code : Int} (hc : t.c < 4294967296) (hd : t.ds.length ≤ 16) (h : AddI A t p code t') : AddO A t t' ∧ (code = 7 → t' = t) := by
 have c0 : ∃ k, k ≤ t.ks.length + 1 ∧ t.c = (t.c + k) % 4294967296 := ⟨0, Nat.zero_le _, by rw [Nat.add_zero, Nat.mod_eq_of_lt hc]⟩
 have hlim : ∀ p, limitI A t p ≤ A.rm := fun p => by unfold limitI; split <;> omega
 have f1 := @addN_far2 t.c p.t t.ks t.ds hc
 have f2 := addN_len t.c t.ks t.ds p.t
 have f3 := addN_ds t.c t.ks t.ds p.t hd
 cases h with
 | arg h0 => exact ⟨⟨id, c0, Nat.le_succ _, hd, Nat.le_succ _, Nat.le_succ _⟩, fun e => by cases e⟩
 | full h0 h1 h2 h3 => exact ⟨⟨id, c0, Nat.le_succ _, hd, Nat.le_succ _, Nat.le_succ _⟩, fun _ => rfl⟩
 | told h0 ha hcc => rw [ha] at f1 f2 f3; exact ⟨⟨id, f1, f2, f3, Nat.le_succ _, Nat.le_succ _⟩, fun e => by cases e⟩
 | stream h0 ha h3 hs => rw [ha] at f1 f2 f3; exact ⟨⟨id, f1, f2, f3, Nat.le_succ _, Nat.le_succ _⟩, fun e => by cases e⟩
 | @part c' ks' ds' da' dc' pa pc h0 ha h3 hs hp =>
  rw [ha] at f1 f2 f3
  have g1 := putN_held t.kept { p with a := pa, cap := pc }
  have g2 := putN_len t.kept { p with a := pa, cap := pc }
  rw [hp] at g1
  have g1 : heldN (putN t.kept { p with a := pa, cap := pc }).1 + 0 ≤ heldN t.kept + p.z.length := g1
  have hl := hlim p
  refine ⟨⟨fun _ => ?_, f1, f2, f3, g2, Nat.le_succ _⟩, fun e => by cases e⟩
  unfold IT.held at h3 ⊢
  simp only
  omega
 | @whole c' ks' ds' da' dc' pa pc m ra' rc' s' h0 ha h3 hs hp hm =>
  rw [ha] at f1 f2 f3
  have g1 := putN_held t.kept { p with a := pa, cap := pc }
  have g2 := putN_len t.kept { p with a := pa, cap := pc }
  rw [hp] at g1
  have g1 : heldN (putN t.kept { p with a := pa, cap := pc }).1 + m.z.length ≤ heldN t.kept + p.z.length := g1
  have hl := hlim p
  have hls : lenS s' ≤ lenS t.s + m.z.length ∧ s'.ready.length + s'.waits.length ≤ t.s.ready.length + t.s.waits.length + 1 := by
   rcases hm with e | ⟨-, e⟩
   · exact ⟨Nat.le_of_eq (msg_len e), Nat.le_of_eq (msg_cnt e)⟩
   · subst e; exact ⟨Nat.le_add_right _ _, Nat.le_succ _⟩
  refine ⟨⟨fun _ => ?_, f1, f2, f3, g2, hls.2⟩, fun e => by cases e⟩
  unfold IT.held at h3 ⊢
  simp only
  omega
abbrev dos10 (l : List (Int × PV)) : List Value := (l.map fun x => Value.int .i64 x.1 :: pC x.2).flatten
theorem dos10_len (l : List (Int × PV)) : (dos10 l).length = l.length * 7 := by
 induction l with
 | nil => rfl
 | cons x l ih => simp only [dos10, List.map_cons, List.flatten_cons, List.length_append, List.length_cons, List.length_nil, pC] at ih ⊢; omega
theorem dos10_get : ∀ {l : List (Int × PV)} {i : Nat} (hi : i < l.length), ((dos10 l).drop (i * 7)).take 7 = .int .i64 l[i].1 :: pC l[i].2
 | x :: l, 0, _ => rfl
 | x :: l, i + 1, hi => by
  have := dos10_get (l := l) (i := i) (by simpa using hi)
  rw [show (i + 1) * 7 = i * 7 + 1 + 1 + 1 + 1 + 1 + 1 + 1 by omega]
  exact this
def addsN (l : List (Int × PV)) : Nat := (l.map fun x => if x.1 = 0 then 1 else 0).sum
def sumN (l : List (Int × PV)) : Nat := (l.map fun x => x.2.z.length).sum
theorem addsN_snoc (l : List (Int × PV)) (x : Int × PV) : addsN (l ++ [x]) = addsN l + if x.1 = 0 then 1 else 0 := by simp [addsN]
theorem sumN_snoc (l : List (Int × PV)) (x : Int × PV) : sumN (l ++ [x]) = sumN l + x.2.z.length := by simp [sumN]
set_option maxHeartbeats 16000000 in
theorem heavy_spec (l : List (Int × PV)) (a : Option Addr) (cap : Nat) (h : AHeap) (hz : Rv Try.prog h 7 a l.length cap (dos10 l)) (hlen : l.length ≤ 140737488355328) (hb : ∀ x ∈ l, x.2.z.length ≤ 140737488355328) : CallS Try.prog [] 7 [.slice a l.length cap] h fun v h' => ∃ b, v = .bool b ∧ (b = false → sumN l ≤ 20000 ∧ addsN l ≤ 60 ∧ l.length ≤ 200) := by
 (refine CallS.of1 Try.func7 rfl Try.ntmps7 Try.results7 rfl ?_)
 (refine Go.run (g:=?_))
 refine Go.loop (α := Nat × AHeap) (fun x => [(9, .int .i64 x.1), (8, .int .i64 l.length), (7, .slice a l.length cap), (0, .slice a l.length cap), (3, .int .i64 (sumN (l.take x.1) : Nat)), (4, .int .i64 (addsN (l.take x.1) : Nat))]) (fun _ => []) (fun x => x.2) (fun x => x.1 ≤ l.length ∧ sumN (l.take x.1) ≤ 20000 ∧ addsN (l.take x.1) ≤ 60 ∧ Same h x.2) (fun x => l.length - x.1) (0, h) ⟨Nat.zero_le _, by simp [sumN], by simp [addsN], Same.refl _⟩ ⟨rfl, rfl, rfl, rfl, rfl, rfl, trivial⟩ rfl rfl ?_
 rintro ⟨i, H⟩ ⟨hi, hs, ha, s⟩
 simp only at hi hs ha s ⊢
 have hz1 := hz.same s
 have nH := s.1
 rcases Nat.lt_or_ge i l.length with i0 | i0
 case inr =>
  have hie : i = l.length := by omega
  subst hie
  rw [List.take_length] at hs ha
  rcases Nat.lt_or_ge 200 l.length with q | q
  ·
   (refine Go.run (g:=?_))
   (first|refine Go.finA rfl ?_|refine Go.finB rfl (hq:=?_))
   exact ⟨true, by simp only [retV]; congr 1; exact decide_eq_true (by omega), fun e => by cases e⟩
  ·
   (refine Go.run (g:=?_))
   (first|refine Go.finA rfl ?_|refine Go.finB rfl (hq:=?_))
   exact ⟨false, by simp only [retV]; congr 1; exact decide_eq_false (by omega), fun _ => ⟨hs, ha, q⟩⟩
 have c0 := dos10_get i0
 have hbe : i * 7 + 7 ≤ (dos10 l).length := by rw [dos10_len]; omega
 have hzb := hb _ (List.getElem_mem i0)
 have htk : l.take (i + 1) = l.take i ++ [l[i]] := by simp
 have e1 : sumN (l.take (i + 1)) = sumN (l.take i) + l[i].2.z.length := by rw [htk, sumN_snoc]
 have e2 : addsN (l.take (i + 1)) = addsN (l.take i) + if l[i].1 = 0 then 1 else 0 := by rw [htk, addsN_snoc]
 generalize hS1 : sumN (l.take (i + 1)) = S1 at *
 generalize hA1 : addsN (l.take (i + 1)) = A1 at *
 generalize sumN (l.take i) = S0 at *
 generalize addsN (l.take i) = A0 at *
 simp only [pC] at c0
 generalize l[i].1 = kd at *
 generalize l[i].2 = p at *
 clear htk
 by_cases k0 : kd = 0
 ·
  rw [if_pos k0] at e2
  subst e1 e2
  rcases Nat.lt_or_ge 20000 (S0 + p.z.length) with q1 | q1
  ·
   (refine Go.run (g:=?_))
   (first|refine Go.finA rfl ?_|refine Go.finB rfl (hq:=?_))
   exact ⟨true, rfl, fun e => by cases e⟩
  rcases Nat.lt_or_ge 60 (A0 + 1) with q2 | q2
  ·
   (refine Go.run (g:=?_))
   (first|refine Go.finA rfl ?_|refine Go.finB rfl (hq:=?_))
   exact ⟨true, rfl, fun e => by cases e⟩
  (refine Go.run (g:=?_))
  refine Go.name ?_
  intro H3 e3
  have s3 : Same H H3 := by subst e3; exact ((Same.refl H).push _).put (Nat.le_refl _) _
  clear e3
  exact Go.again (i + 1, H3) ⟨i0, by simp only; rw [hS1]; exact q1, by simp only; rw [hA1]; exact q2, s.trans s3⟩ (by simp only; omega) ⟨rfl, rfl, rfl, rfl, by rw [hS1]; rfl, by rw [hA1]; rfl, trivial⟩ rfl rfl
 ·
  rw [if_neg k0] at e2
  rw [Nat.add_zero] at e2
  subst e1
  rw [← e2] at *
  rcases Nat.lt_or_ge 20000 (S0 + p.z.length) with q1 | q1
  ·
   (refine Go.run (g:=?_))
   (first|refine Go.finA rfl ?_|refine Go.finB rfl (hq:=?_))
   exact ⟨true, rfl, fun e => by cases e⟩
  rcases Nat.lt_or_ge 60 A1 with q2 | q2
  ·
   (refine Go.run (g:=?_))
   (first|refine Go.finA rfl ?_|refine Go.finB rfl (hq:=?_))
   exact ⟨true, rfl, fun e => by cases e⟩
  (refine Go.run (g:=?_))
  refine Go.name ?_
  intro H3 e3
  have s3 : Same H H3 := by subst e3; exact ((Same.refl H).push _).put (Nat.le_refl _) _
  clear e3
  exact Go.again (i + 1, H3) ⟨i0, by simp only; rw [hS1]; exact q1, by simp only; rw [hA1]; exact q2, s.trans s3⟩ (by simp only; omega) ⟨rfl, rfl, rfl, rfl, by rw [hS1]; rfl, by rw [hA1]; rfl, trivial⟩ rfl rfl
end Go.Proofs.Ytccbmmnkiihkaaa
namespace Go.Proofs.Ytccbmmnkiihkaaa
set_option maxRecDepth 100000
attribute [local irreducible] Go GoR GoL
def pcs (l : List PV) : List Value := (l.map pC).flatten
theorem pcs_len (l : List PV) : (pcs l).length = l.length * 6 := by
 induction l with
 | nil => rfl
 | cons x l ih => simp only [pcs, List.map_cons, List.flatten_cons, List.length_append, List.length_cons, List.length_nil, pC] at ih ⊢; omega
theorem pcs_get : ∀ {l : List PV} {i : Nat} (hi : i < l.length), ((pcs l).drop (i * 6)).take 6 = pC l[i]
 | x :: l, 0, _ => rfl
 | x :: l, i + 1, hi => by
  have := pcs_get (l := l) (i := i) (by simpa using hi)
  rw [show (i + 1) * 6 = i * 6 + 1 + 1 + 1 + 1 + 1 + 1 by omega]
  exact this
theorem pcs_at {l : List PV} {i : Nat} (hi : i < l.length) {j : Nat} (hj : j < 6) : (pcs l)[i * 6 + j]? = (pC l[i])[j]? := by
 rw [← pcs_get hi, List.getElem?_take, if_pos hj, List.getElem?_drop]
theorem pcs_snoc (l : List PV) (p : PV) : pcs (l ++ [p]) = pcs l ++ pC p := by simp [pcs]
set_option maxHeartbeats 4000000 in
theorem bit9_spec (n w : Nat) (hn : n < 256) (hw : w < 256) (h0 : 0 < w) (h : AHeap) : CallS Try.prog [] 62 [.int .u8 n, .int .u8 w] h fun v h' => v = .bool (bitB n w) ∧ h' = h := by
 have hq : n / w < 256 := Nat.lt_of_le_of_lt (Nat.div_le_self n w) hn
 unfold bitB
 (refine CallS.of2 Try.func62 rfl Try.ntmps62 Try.results62 rfl ?_)
 (refine Go.run (g:=?_))
 (first|refine Go.finA rfl ?_|refine Go.finB rfl (hq:=?_))
 exact ⟨by simp only [retV]; congr 1; exact decide_eq_decide.2 (by omega), rfl⟩
set_option maxHeartbeats 8000000 in
theorem find9_spec (jb : Nat) (l : List PV) (a : Option Addr) (cap t : Nat) (ht : t < 4294967296) (hl : l.length ≤ 1000000) (h : AHeap) (hj : h.get jb = some (.cells [.slice a l.length cap] 86)) (hz : Rv Try.prog h 6 a l.length cap (pcs l)) : CallS Try.prog [] 59 [.pointer (some ⟨jb, 0, none⟩), .int .u32 t] h fun v h' => h' = h ∧ ((v = .int .i64 (-1) ∧ pf l t = none) ∨ ∃ i, ∃ hi : i < l.length, v = .int .i64 (i : Nat) ∧ pf l t = some l[i] ∧ pdel l t = l.take i ++ l.drop (i + 1)) := by
 (refine CallS.of2 Try.func59 rfl Try.ntmps59 Try.results59 rfl ?_)
 (refine Go.run (g:=?_))
 refine Go.loop (α := Nat) (fun x => [(5, .int .i64 x), (0, .pointer (some ⟨jb, 0, none⟩)), (1, .int .u32 t)]) (fun _ => []) (fun x => h) (fun x => x ≤ l.length ∧ ∀ k (hk : k < x) (hk' : k < l.length), l[k].t ≠ t) (fun x => l.length - x) 0 ⟨Nat.zero_le _, fun k hk => absurd hk (Nat.not_lt_zero _)⟩ ⟨rfl, rfl, rfl, trivial⟩ rfl rfl ?_
 rintro i ⟨hi, hk⟩
 rcases Nat.lt_or_ge i l.length with i0 | i0
 case inr =>
  (refine Go.run (g:=?_))
  (first|refine Go.finA rfl ?_|refine Go.finB rfl (hq:=?_))
  exact ⟨rfl, .inl ⟨rfl, pf_no fun k h => hk k (by omega) h⟩⟩
 have hb1 : i * 6 < (pcs l).length := by rw [pcs_len]; omega
 have c1 := pcs_at i0 (j := 0) (by decide)
 have hpa := pf_at (t := t) i0 (fun k h => hk k h (by omega))
 have hne : l[i].t ≠ t → ∀ k (h : k < i + 1) (h' : k < l.length), l[k].t ≠ t := fun e k h h' => by
  rcases Nat.lt_or_ge k i with z | z
  · exact hk k z h'
  ·
   obtain rfl : k = i := by omega
   exact e
 have hin : ∃ hi : i < l.length, l[i] = l[i] := ⟨i0, rfl⟩
 clear hk
 generalize hp : l[i] = p at *
 have c1 : (pcs l)[i * 6 + 0]? = some (.int .u32 (p.t : Nat)) := c1
 by_cases e : p.t = t
 ·
  have hpa := hpa e
  (refine Go.run (g:=?_))
  (first|refine Go.finA rfl ?_|refine Go.finB rfl (hq:=?_))
  exact ⟨rfl, .inr ⟨i, i0, rfl, by rw [hp]; exact hpa.1, hpa.2⟩⟩
 ·
  have hne := hne e
  (refine Go.run (g:=?_))
  exact Go.again (i + 1) ⟨i0, hne⟩ (by omega) ⟨rfl, rfl, rfl, trivial⟩ rfl rfl
end Go.Proofs.Ytccbmmnkiihkaaa
namespace Go.Proofs.Ytccbmmnkiihkaaa
set_option maxRecDepth 100000
attribute [local irreducible] Go GoR GoL
theorem add32at (f k : Nat) (hf : f < 4294967296) (hk : k < 4294967296) : iBin .add .u32 (f : Int) (k : Int) = some (.int .u32 ((at32 f k : Nat) : Int)) := by
 have e : ((at32 f k : Nat) : Int) = ((f : Int) + (k : Int)) % 4294967296 := by unfold at32; omega
 simp [iBin, IntKind.wrap, IntKind.bits, IntKind.signed, e]
theorem boolU9 : Try.prog.underlying 4 = some .bool := by kernel_rfl
set_option maxHeartbeats 16000000 in
theorem whole9_spec (l : List PV) (a : Option Addr) (cap : Nat) (hl : l.length ≤ 1000000) (pb : ∀ q ∈ l, PB q) (h : AHeap) (hz : Rv Try.prog h 6 a l.length cap (pcs l)) : CallS Try.prog [] 61 [.slice a l.length cap] h fun v h' => ∃ b, v = .bool b ∧ (b = true ↔ Whole l) := by
 (refine CallS.of1 Try.func61 rfl Try.ntmps61 Try.results61 rfl ?_)
 (refine Go.run (g:=?_))
 refine Go.loop (α := Nat × AHeap) (fun x => [(3, .int .i64 x.1), (0, .slice a l.length cap)]) (fun _ => []) (fun x => x.2) (fun x => x.1 ≤ l.length ∧ Same h x.2 ∧ ∀ k (hk : k < x.1) (hk' : k < l.length), Wh1 l.length (l[0]'(by omega)) k l[k]) (fun x => l.length - x.1) (0, h) ⟨Nat.zero_le _, Same.refl _, fun k hk => absurd hk (Nat.not_lt_zero _)⟩ ⟨rfl, rfl, trivial⟩ rfl rfl ?_
 rintro ⟨i, H⟩ ⟨hi, s, hk⟩
 simp only at hi s hk ⊢
 rcases Nat.lt_or_ge i l.length with i0 | i0
 case inr =>
  rcases Nat.eq_zero_or_pos l.length with q | q
  ·
   (refine Go.run (g:=?_))
   (first|refine Go.finA rfl ?_|refine Go.finB rfl (hq:=?_))
   exact ⟨false, by simp only [retV]; congr 1; exact decide_eq_false (by omega), ⟨fun e => (by cases e), fun w => absurd w.pos (by omega)⟩⟩
  ·
   (refine Go.run (g:=?_))
   (first|refine Go.finA rfl ?_|refine Go.finB rfl (hq:=?_))
   exact ⟨true, by simp only [retV]; congr 1; exact decide_eq_true (by omega), ⟨fun _ => ⟨q, fun k hk' => hk k (by omega) hk'⟩, fun _ => rfl⟩⟩
 have hz1 := hz.same s
 have c0 := pcs_get i0
 have hbe : i * 6 + 6 ≤ (pcs l).length := by rw [pcs_len]; omega
 have hp0 : 0 < l.length := by omega
 have hb1 : 0 * 6 < (pcs l).length := by rw [pcs_len]; omega
 have d0 := pcs_at hp0 (j := 0) (by decide)
 have d1 := pcs_at hp0 (j := 1) (by decide)
 have d2 := pcs_at hp0 (j := 2) (by decide)
 have d3 := pcs_at hp0 (j := 3) (by decide)
 have pb0 := pb _ (List.getElem_mem hp0)
 have pbi := pb _ (List.getElem_mem i0)
 have hnext : Wh1 l.length (l[0]'hp0) i l[i] → ∀ k (hk : k < i + 1) (hk' : k < l.length), Wh1 l.length (l[0]'(by omega)) k l[k] := fun e k h h' => by
  rcases Nat.lt_or_ge k i with z | z
  · exact hk k z h'
  ·
   obtain rfl : k = i := by omega
   exact e
 have hbad : ¬ Wh1 l.length (l[0]'hp0) i l[i] → ¬ Whole l := fun e w => e (w.each i i0)
 clear hk
 generalize l[i] = p at *
 generalize hz0 : l[0] = z at *
 simp only [pC] at c0
 have d0 : (pcs l)[0 * 6 + 0]? = some (.int .u32 (z.t : Nat)) := d0
 have d1 : (pcs l)[0 * 6 + 1]? = some (.int .u8 (z.fl : Nat)) := d1
 have d2 : (pcs l)[0 * 6 + 2]? = some (.int .u16 (z.sid : Nat)) := d2
 have d3 : (pcs l)[0 * 6 + 3]? = some (.int .u16 (z.ssn : Nat)) := d3
 have nH := s.1
 have ht := add32at z.t i pb0.t (by omega)
 have hT : at32 z.t i < 4294967296 := Nat.mod_lt _ (by decide)
 generalize hTe : at32 z.t i = T at *
 refine Go.runN (g:=?_)
 refine Go.name ?_
 intro H1 e1
 have s1 : Same H H1 := by subst e1; exact ((Same.refl H).push _).put (Nat.le_refl _) _
 have g4 : H1.get H.n = some (.cells (pC p) 33) := by subst e1; exact hg_
 simp only [pC] at g4
 clear e1
 have hz2 := hz1.same s1
 refine Go.kk 2 rfl ?_
 refine Go.drawnQ rfl (by kernel_rfl) rfl ?_
 (refine Go.run (g:=?_))
 refine GoR.bin rfl rfl rfl rfl rfl rfl ht ?_
 by_cases q1 : p.t = T
 case neg =>
  (refine Go.run (g:=?_))
  (first|refine Go.finA rfl ?_|refine Go.finB rfl (hq:=?_))
  exact ⟨false, rfl, ⟨fun e => (by cases e), fun w => absurd w (hbad fun e => q1 (by rw [e.t, hTe]))⟩⟩
 by_cases q2 : p.sid = z.sid
 case neg =>
  (refine Go.run (g:=?_))
  (first|refine Go.finA rfl ?_|refine Go.finB rfl (hq:=?_))
  exact ⟨false, rfl, ⟨fun e => (by cases e), fun w => absurd w (hbad fun e => q2 e.sid)⟩⟩
 by_cases q3 : p.ssn = z.ssn
 case neg =>
  (refine Go.run (g:=?_))
  (first|refine Go.finA rfl ?_|refine Go.finB rfl (hq:=?_))
  exact ⟨false, rfl, ⟨fun e => (by cases e), fun w => absurd w (hbad fun e => q3 e.ssn)⟩⟩
 (refine Go.run (g:=?_))
 refine GoR.call rfl rfl rfl rfl rfl rfl rfl (((bit9_spec p.fl 4 pbi.fl (by decide) (by decide) _).argA).mono ?_)
 rintro _ H2 ⟨rfl, rfl⟩ -
 (refine Go.run (g:=?_))
 refine GoR.call rfl rfl rfl rfl rfl rfl rfl (((bit9_spec z.fl 4 pb0.fl (by decide) (by decide) _).argA).mono ?_)
 rintro _ H3 ⟨rfl, rfl⟩ -
 (refine Go.run (g:=?_))
 refine GoR.boolNe rfl rfl rfl rfl rfl rfl boolU9 ?_
 by_cases q4 : bitB p.fl 4 = bitB z.fl 4
 case neg =>
  rw [show (!(bitB p.fl 4 == bitB z.fl 4)) = true from by rw [Bool.not_eq_true', beq_eq_false_iff_ne]; exact q4]
  (refine Go.run (g:=?_))
  (first|refine Go.finA rfl ?_|refine Go.finB rfl (hq:=?_))
  exact ⟨false, rfl, ⟨fun e => (by cases e), fun w => absurd w (hbad fun e => q4 e.u)⟩⟩
 rw [show (!(bitB p.fl 4 == bitB z.fl 4)) = false from by rw [q4, beq_self_eq_true]; rfl]
 (refine Go.run (g:=?_))
 refine GoR.call rfl rfl rfl rfl rfl rfl rfl (((bit9_spec p.fl 2 pbi.fl (by decide) (by decide) _).argA).mono ?_)
 rintro _ H4 ⟨rfl, rfl⟩ -
 (refine Go.run (g:=?_))
 refine GoR.boolNe rfl rfl rfl rfl rfl rfl boolU9 ?_
 rw [show decide ((i : Int) = 0) = decide (i = 0) from decide_eq_decide.2 (by omega)]
 by_cases q5 : bitB p.fl 2 = decide (i = 0)
 case neg =>
  rw [show (!(bitB p.fl 2 == decide (i = 0))) = true from by rw [Bool.not_eq_true', beq_eq_false_iff_ne]; exact q5]
  (refine Go.run (g:=?_))
  (first|refine Go.finA rfl ?_|refine Go.finB rfl (hq:=?_))
  exact ⟨false, rfl, ⟨fun e => (by cases e), fun w => absurd w (hbad fun e => q5 e.b)⟩⟩
 rw [show (!(bitB p.fl 2 == decide (i = 0))) = false from by rw [q5, beq_self_eq_true]; rfl]
 (refine Go.run (g:=?_))
 refine GoR.call rfl rfl rfl rfl rfl rfl rfl (((bit9_spec p.fl 1 pbi.fl (by decide) (by decide) _).argA).mono ?_)
 rintro _ H5 ⟨rfl, rfl⟩ -
 (refine Go.run (g:=?_))
 refine GoR.boolNe rfl rfl rfl rfl rfl rfl boolU9 ?_
 have hce1 : decide ((i : Int) = ((l.length - 1 : Nat) : Int)) = decide (i = l.length - 1) := decide_eq_decide.2 (by omega)
 have hce2 : decide ((i : Int) = (l.length : Int) - 1) = decide (i = l.length - 1) := decide_eq_decide.2 (by omega)
 first | rw [hce1] | rw [hce2]
 by_cases q6 : bitB p.fl 1 = decide (i = l.length - 1)
 case neg =>
  rw [show (!(bitB p.fl 1 == decide (i = l.length - 1))) = true from by rw [Bool.not_eq_true', beq_eq_false_iff_ne]; exact q6]
  (refine Go.run (g:=?_))
  (first|refine Go.finA rfl ?_|refine Go.finB rfl (hq:=?_))
  exact ⟨false, rfl, ⟨fun e => (by cases e), fun w => absurd w (hbad fun e => q6 e.e)⟩⟩
 rw [show (!(bitB p.fl 1 == decide (i = l.length - 1))) = false from by rw [q6, beq_self_eq_true]; rfl]
 (refine Go.run (g:=?_))
 exact Go.again (i + 1, _) ⟨i0, s.trans s1, fun k hk hk' => by rw [hz0]; exact hnext ⟨by rw [q1, hTe], q2, q3, q4, q5, q6⟩ k hk hk'⟩ (by simp only; omega) ⟨rfl, rfl, trivial⟩ rfl rfl
end Go.Proofs.Ytccbmmnkiihkaaa
namespace Go.Proofs.Ytccbmmnkiihkaaa
set_option maxRecDepth 100000
attribute [local irreducible] Go GoR GoL
set_option maxHeartbeats 16000000 in
theorem row9_spec (jb : Nat) (l : List PV) (a : Option Addr) (cap f n : Nat) (hf : f < 4294967296) (hn : n ≤ 1000000) (hl : l.length ≤ 1000000) (h : AHeap) (hj : h.get jb = some (.cells [.slice a l.length cap] 86)) (hz : Sv h 33 6 a l.length cap (pcs l)) : CallS Try.prog [] 60 [.pointer (some ⟨jb, 0, none⟩), .int .u32 f, .int .i64 n] h fun v h' => (v = .tuple #[.slice none 0 0, .bool false] ∧ rowN l f n = none) ∨ ∃ r oa oc, v = .tuple #[.slice oa r.length oc, .bool true] ∧ rowN l f n = some r ∧ Sv h' 33 6 oa r.length oc (pcs r) ∧ Own h.n oa := by
 have hlt := AHeap.lt hj
 have zlt := hz.lt
 (refine CallS.of3 Try.func60 rfl Try.ntmps60 Try.results60 rfl ?_)
 (refine Go.run (g:=?_))
 refine Go.loop (α := Nat × List PV × Option Addr × Nat × AHeap) (fun x => [(9, .int .i64 x.1), (8, .slice x.2.2.1 x.2.1.length x.2.2.2.1), (0, .pointer (some ⟨jb, 0, none⟩)), (1, .int .u32 f), (2, .int .i64 n)]) (fun _ => []) (fun x => x.2.2.2.2) (fun x => x.1 ≤ n ∧ rowN l f x.1 = some x.2.1 ∧ Sv x.2.2.2.2 33 6 x.2.2.1 x.2.1.length x.2.2.2.1 (pcs x.2.1) ∧ Own h.n x.2.2.1 ∧ h.n ≤ x.2.2.2.2.n ∧ x.2.2.2.2.get jb = some (.cells [.slice a l.length cap] 86) ∧ Sv x.2.2.2.2 33 6 a l.length cap (pcs l)) (fun x => n - x.1) (0, [], none, 0, h) ⟨Nat.zero_le _, rfl, Sv.nil, Own.nil _, Nat.le_refl _, hj, hz⟩ ⟨rfl, rfl, rfl, rfl, rfl, trivial⟩ rfl rfl ?_
 rintro ⟨k, r, oa, oc, H⟩ ⟨hk, hr, so, oown, hH, gj, sz⟩
 simp only at hk hr so oown hH gj sz ⊢
 have hrl := ((rowN_iff _ _ _ _).1 hr).1
 rcases Nat.lt_or_ge k n with k0 | k0
 case inr =>
  obtain rfl : k = n := by omega
  (refine Go.run (g:=?_))
  (first|refine Go.finA rfl ?_|refine Go.finB rfl (hq:=?_))
  exact .inr ⟨r, oa, oc, rfl, hr, so, oown⟩
 have ha := add32at f k hf (by omega)
 have hT : at32 f k < 4294967296 := Nat.mod_lt _ (by decide)
 have hsucc := rowN_succ l f k
 rw [hr] at hsucc
 dsimp only at hsucc
 have hnone : pf l (at32 f k) = none → rowN l f n = none := fun e => by
  cases hx : rowN l f n with
  | none => rfl
  | some R =>
   have := rowN_get hx k0
   obtain ⟨hR, -⟩ := (rowN_iff _ _ _ _).1 hx
   rw [e, List.getElem?_eq_getElem (by omega)] at this
   cases this
 generalize hTe : at32 f k = T at *
 (refine Go.run (g:=?_))
 refine GoR.bin rfl rfl rfl rfl rfl rfl ha ?_
 refine GoR.call rfl rfl rfl rfl rfl rfl rfl (((find9_spec jb l a cap T hT hl _ gj sz.rv).argA).mono ?_)
 rintro _ H1 ⟨rfl, hv⟩ -
 rcases hv with ⟨rfl, hno⟩ | ⟨i, i0, rfl, hpf, -⟩
 ·
  (refine Go.run (g:=?_))
  (first|refine Go.finA rfl ?_|refine Go.finB rfl (hq:=?_))
  exact .inl ⟨rfl, hnone hno⟩
 rw [hpf] at hsucc
 dsimp only at hsucc
 have c0 := pcs_get i0
 have hbe : i * 6 + 6 ≤ (pcs l).length := by rw [pcs_len]; omega
 generalize l[i] = p at *
 have hps := pcs_snoc r p
 have hpl : (r ++ [p]).length = r.length + 1 := by simp
 simp only [pC] at c0
 have nob : ∀ j, j < h.n → j ∉ blk oa := fun j hj hm => by have := oown j hm; omega
 (refine Go.run (g:=?_))
 refine GoR.buildRo (c := pC p) rfl rfl rfl rfl rfl (by decide) (by rfl) (by rfl) ?_
 intro b8 h8 hb8 rb8 ob8 s8 n8
 have m8 := s8.1
 refine GoR.appendV rfl rfl rfl rfl rfl rfl (so.same s8) hb8 (fun j hj => .inr (by have := oown j hj; omega)) (by omega) (by omega) (by rfl) ?_
 intro b9 c9 h9 hs9 k9 o9
 have m9 := k9.1
 have sw9 := (sz.same s8).keeps k9 (fun j hj => nob j (zlt j hj))
 have gs9 := k9.get (s8.get gj) (nob _ hlt)
 rw [← hps, ← hpl] at hs9
 rw [← hpl]
 (refine Go.run (g:=?_))
 refine Go.again (k + 1, r ++ [p], b9, c9, h9) ⟨k0, hsucc, hs9, fun j hj => ?_, by simp only; omega, gs9, sw9⟩ (by simp only; omega) ⟨rfl, rfl, rfl, rfl, rfl, trivial⟩ rfl rfl
 rcases o9 j hj with q | q
 · exact oown j q
 · omega
end Go.Proofs.Ytccbmmnkiihkaaa
namespace Go.Proofs.Ytccbmmnkiihkaaa
set_option maxRecDepth 100000
attribute [local irreducible] Go GoR GoL
theorem heldN_take (l : List PV) (i : Nat) : heldN (l.take i) ≤ heldN l := by
 have : heldN (l.take i ++ l.drop i) = heldN (l.take i) + heldN (l.drop i) := by unfold heldN; rw [List.map_append, List.sum_append]
 rw [List.take_append_drop] at this
 omega
set_option maxHeartbeats 8000000 in
theorem held9_spec (jb : Nat) (l : List PV) (a : Option Addr) (cap : Nat) (hl : l.length ≤ 1000000) (hb : heldN l ≤ 1000000000) (h : AHeap) (hj : h.get jb = some (.cells [.slice a l.length cap] 86)) (hz : Rv Try.prog h 6 a l.length cap (pcs l)) : CallS Try.prog [] 50 [.pointer (some ⟨jb, 0, none⟩)] h fun v h' => v = .int .i64 (heldN l : Nat) ∧ h' = h := by
 (refine CallS.of1 Try.func50 rfl Try.ntmps50 Try.results50 rfl ?_)
 (refine Go.run (g:=?_))
 refine Go.loop (α := Nat) (fun x => [(4, .int .i64 x), (3, .int .i64 (heldN (l.take x) : Nat)), (0, .pointer (some ⟨jb, 0, none⟩))]) (fun _ => []) (fun x => h) (fun x => x ≤ l.length) (fun x => l.length - x) 0 (Nat.zero_le _) ⟨rfl, rfl, rfl, trivial⟩ rfl rfl ?_
 rintro i hi
 rcases Nat.lt_or_ge i l.length with i0 | i0
 case inr =>
  obtain rfl : i = l.length := by omega
  rw [List.take_length]
  (refine Go.run (g:=?_))
  (first|refine Go.finA rfl ?_|refine Go.finB rfl (hq:=?_))
  exact ⟨rfl, rfl⟩
 have hb1 : i * 6 < (pcs l).length := by rw [pcs_len]; omega
 have c1 := pcs_at i0 (j := 5) (by decide)
 have htk : l.take (i + 1) = l.take i ++ [l[i]] := by simp
 have hle := heldN_take l (i + 1)
 have hsn := held_snoc (l.take i) l[i]
 rw [← htk] at hsn
 generalize l[i] = p at *
 have c1 : (pcs l)[i * 6 + 5]? = some (.slice p.a p.z.length p.cap) := c1
 generalize hA : heldN (l.take (i + 1)) = A1 at *
 generalize heldN (l.take i) = A0 at *
 subst hsn
 (refine Go.run (g:=?_))
 exact Go.again (i + 1) i0 (by omega) ⟨rfl, by rw [hA]; rfl, rfl, trivial⟩ rfl rfl
end Go.Proofs.Ytccbmmnkiihkaaa