/- What the law leans on, part 7. No conditions. -/
import Derived.Test.YtncbbeghkpjpbaaDoorScriptParsesPart6
set_option linter.unusedVariables false
set_option linter.unusedSimpArgs false
namespace Go.Proofs.YtncbbeghkpjpbaaDoor
open Go.RowKit
set_option maxRecDepth 100000
attribute [local irreducible] Go GoR GoL
def hxB (a b : UInt8) : UInt8 := UInt8.ofNat (16 * hxV a + hxV b).toNat
def prP : List UInt8 → Option (List UInt8)
 | [] => some []
 | [_] => none
 | a :: b :: r => if 0 ≤ hxV a ∧ 0 ≤ hxV b then (prP r).map (hxB a b :: ·) else none
def hxP (w : List UInt8) : Option (List UInt8) := if w = [45] then some [] else prP w
theorem hxV_le (c : UInt8) : -1 ≤ hxV c ∧ hxV c ≤ 15 := by
 unfold hxV
 split
 · omega
 · split <;> omega
theorem prP_step : ∀ (j : Nat) (w : List UInt8) (a b : UInt8), w[2 * j]? = some a → w[2 * j + 1]? = some b → prP (w.take (2 * (j + 1))) = (prP (w.take (2 * j))).bind fun l => if 0 ≤ hxV a ∧ 0 ≤ hxV b then some (l ++ [hxB a b]) else none
 | 0, w, a, b, ha, hb => by
  match w, ha, hb with
  | x :: y :: r, ha, hb =>
   simp at ha hb
   subst ha hb
   simp [prP]
 | j + 1, w, a, b, ha, hb => by
  match w, ha, hb with
  | [], ha, hb => simp at ha
  | [x], ha, hb => simp at hb
  | x :: y :: r, ha, hb =>
   have e1 : 2 * (j + 1) = 2 * j + 1 + 1 := by omega
   have e2 : 2 * (j + 1) + 1 = 2 * j + 1 + 1 + 1 := by omega
   have ih := prP_step j r a b (by rw [e1] at ha; simpa using ha) (by rw [e2] at hb; simpa using hb)
   have t1 : (x :: y :: r).take (2 * (j + 1 + 1)) = x :: y :: r.take (2 * (j + 1)) := by rw [show 2 * (j + 1 + 1) = 2 * (j + 1) + 1 + 1 by omega]; simp
   have t2 : (x :: y :: r).take (2 * (j + 1)) = x :: y :: r.take (2 * j) := by rw [e1]; simp
   rw [t1, t2, prP, prP, ih]
   split
   ·
    cases prP (r.take (2 * j)) with
    | none => rfl
    | some l =>
     simp only [Option.bind_some, Option.map_some]
     split <;> simp
   · rfl
theorem prP_odd : ∀ (n : Nat) (w : List UInt8), w.length = 2 * n + 1 → prP w = none
 | 0, w, h => by
  match w, h with
  | [x], _ => rfl
 | n + 1, w, h => by
  match w, h with
  | x :: y :: r, h =>
   rw [prP, prP_odd n r (by simp at h; omega)]
   split <;> rfl
theorem hxB_val {a b : UInt8} (ha : 0 ≤ hxV a) (hb : 0 ≤ hxV b) : ((hxB a b).toNat : Int) = 16 * hxV a + hxV b := by
 have h1 := hxV_le a
 have h2 := hxV_le b
 unfold hxB
 rw [UInt8.toNat_ofNat']
 omega
set_option maxHeartbeats 16000000 in
theorem rbytes_spec (b : Nat) (w : List UInt8) (r : List (List UInt8)) (bad : Bool) (hw : w.length ≤ 10000000) (h : AHeap) (k : RdI h 78 b (w :: r) bad) : CallS Tryd.prog [b] 36 [.pointer (some ⟨b, 0, none⟩)] h fun v h' => ∃ a cap zs, v = .slice a zs.length cap ∧ Sv h' 5 1 a zs.length cap (zs.map bv) ∧ Own h.n a ∧ zs.length ≤ w.length ∧ (∀ m, hxP w = some m → zs = m) ∧ RdI h' 78 b r (bad || (hxP w).isNone) := by
 (refine CallS.of1 Tryd.func36 rfl Tryd.ntmps36 Tryd.results36 rfl ?_)
 (refine Go.run (g:=?_))
 refine GoR.callW rfl rfl rfl rfl rfl rfl rfl (((take_spec b w r bad _ k).argA).mono ?_)
 rintro _ H1 ⟨rfl, k1⟩ kp1
 refine ⟨fun i hi => .inl hi, ?_⟩
 obtain ⟨a1, c1, g1, R1, o1⟩ := k1
 by_cases hd : w = [45]
 ·
  have hz : decide (w = [45]) = true := decide_eq_true hd
  have hh : hxP w = some [] := by unfold hxP; rw [if_pos hd]
  (refine Go.run (g:=?_))
  (first|refine Go.finA rfl ?_|refine Go.finB rfl (hq:=?_))
  rw [hh]
  exact ⟨none, 0, [], rfl, .nil, .nil _, by simp, fun m hm => by injection hm, a1, c1, by rw [Option.isNone_some, Bool.or_false]; exact g1, R1, o1⟩
 have hz : decide (w = [45]) = false := decide_eq_false hd
 have hh : hxP w = prP w := by unfold hxP; rw [if_neg hd]
 rw [hh]
 have hbn := AHeap.lt g1
 have n1 := kp1.1
 have hb0 : b < h.n := by obtain ⟨_, _, g, -⟩ := k; exact AHeap.lt g
 have hwl : w.length % 2 = 0 ∨ w.length % 2 = 1 := by omega
 rcases hwl with hp | hp
 ·
  (refine Go.run (g:=?_))
  have hq : ∀ (o : Option (List UInt8)), (bad || o.isNone) = (bad || o.isNone) := fun _ => rfl
  generalize hB0 : bad = bd0 at *
  have g2 := g1
  have R2 := R1
  have nn1 : H1.n ≤ H1.n := Nat.le_refl _
  refine Go.loop (α := Nat × List UInt8 × Bool × Option Addr × Nat × AHeap) (fun x => [(0, .pointer (some ⟨b, 0, none⟩)), (3, stv w), (4, .slice x.2.2.2.1 x.2.1.length x.2.2.2.2.1), (5, .int .i64 ((2 * x.1 : Nat) : Int))]) (fun _ => []) (fun x => x.2.2.2.2.2) (fun x => 2 * x.1 ≤ w.length ∧ x.2.2.2.2.2.get b = some (.cells [.slice a1 r.length c1, .bool x.2.2.1] 78) ∧ Rv Tryd.prog x.2.2.2.2.2 1 a1 r.length c1 (r.map stv) ∧ Sv x.2.2.2.2.2 5 1 x.2.2.2.1 x.2.1.length x.2.2.2.2.1 (x.2.1.map bv) ∧ Own H1.n x.2.2.2.1 ∧ H1.n ≤ x.2.2.2.2.2.n ∧ x.2.1.length ≤ x.1 ∧ x.2.2.1 = (bd0 || (prP (w.take (2 * x.1))).isNone) ∧ ∀ l, prP (w.take (2 * x.1)) = some l → x.2.1 = l) (fun x => w.length - 2 * x.1) (0, [], bd0, none, 0, _) ⟨Nat.zero_le _, g2, R2, .nil, .nil _, nn1, Nat.le_refl _, by simp [prP], fun l hl => by simp [prP] at hl; exact hl.symm⟩ ⟨rfl, rfl, rfl, rfl, trivial⟩ rfl rfl ?_
  rintro ⟨j, out, bd, ob, oc, H⟩ ⟨h1, h2, h3, h4, h5, h6, h7, h8, h9⟩
  simp only at h1 h2 h3 h4 h5 h6 h7 h8 h9 ⊢
  have hnb : b ∉ blk ob := fun hi => by have := h5 b hi; omega
  rcases Nat.lt_or_ge (2 * j + 1) w.length with hi | hi
  case inl =>
   obtain ⟨za, hza⟩ : ∃ z, w[2 * j]? = some z := ⟨_, List.getElem?_eq_getElem (by omega)⟩
   obtain ⟨zb, hzb⟩ : ∃ z, w[2 * j + 1]? = some z := ⟨_, List.getElem?_eq_getElem hi⟩
   have hst := prP_step j w za zb hza hzb
   have hva := hxV_le za
   have hvb := hxV_le zb
   generalize hJ : 2 * j = i at *
   refine Go.runN (g:=?_)
   refine Go.loud (by kernel_rfl) rfl ?_
   (refine Go.runL (g:=?_))
   refine GoL.strAt (zs := w) rfl rfl rfl rfl rfl rfl hza ?_
   (refine Go.runL (g:=?_))
   refine GoL.callS rfl rfl rfl rfl rfl rfl rfl (((half_spec za _).argA).mono ?_)
   rintro _ HM ⟨rfl, rfl⟩ sM
   clear sM
   (refine Go.runL (g:=?_))
   refine GoL.strAt (zs := w) rfl rfl rfl rfl rfl rfl hzb ?_
   (refine Go.runL (g:=?_))
   refine GoL.callS rfl rfl rfl rfl rfl rfl rfl (((half_spec zb _).argA).mono ?_)
   rintro _ HN ⟨rfl, rfl⟩ sN
   clear sN
   (refine Go.runL (g:=?_))
   (refine GoL.end_ (g:=?_))
   have e2 : ((2 * (j + 1) : Nat) : Int) = ((i + 2 : Nat) : Int) := by omega
   rcases Int.lt_or_le (hxV za) 0 with qa | qa
   case inl =>
    have hno : prP (w.take (2 * (j + 1))) = none := by rw [hst]; cases prP (w.take i) <;> simp; intro h; omega
    (refine Go.run (g:=?_))
    exact Go.again (j + 1, out, true, ob, oc, _) ⟨by show 2 * (j + 1) ≤ w.length; omega, AHeap.get_put_same _ (AHeap.lt h2) _, h3.putR o1 _, h4.put hnb _, h5, h6, by show out.length ≤ j + 1; omega, by show true = (bd0 || (prP (w.take (2 * (j + 1)))).isNone); rw [hno]; simp, fun l hl => by rw [hno] at hl; cases hl⟩ (by show w.length - 2 * (j + 1) < w.length - i; omega) ⟨rfl, rfl, rfl, congrArg (fun x => some (Value.int .i64 x)) e2.symm, trivial⟩ rfl rfl
   rcases Int.lt_or_le (hxV zb) 0 with qb | qb
   case inl =>
    have hno : prP (w.take (2 * (j + 1))) = none := by rw [hst]; cases prP (w.take i) <;> simp; intro h; omega
    (refine Go.run (g:=?_))
    exact Go.again (j + 1, out, true, ob, oc, _) ⟨by show 2 * (j + 1) ≤ w.length; omega, AHeap.get_put_same _ (AHeap.lt h2) _, h3.putR o1 _, h4.put hnb _, h5, h6, by show out.length ≤ j + 1; omega, by show true = (bd0 || (prP (w.take (2 * (j + 1)))).isNone); rw [hno]; simp, fun l hl => by rw [hno] at hl; cases hl⟩ (by show w.length - 2 * (j + 1) < w.length - i; omega) ⟨rfl, rfl, rfl, congrArg (fun x => some (Value.int .i64 x)) e2.symm, trivial⟩ rfl rfl
   have hby := hxB_val qa qb
   have hyes : prP (w.take (2 * (j + 1))) = (prP (w.take i)).map (· ++ [hxB za zb]) := by
    rw [hst]
    cases prP (w.take i) with
    | none => rfl
    | some l => simp only [Option.bind_some, Option.map_some]; rw [if_pos ⟨qa, qb⟩]
   obtain ⟨p, hpp⟩ : ∃ p : Nat, hxV za = (p : Int) := ⟨(hxV za).toNat, by omega⟩
   obtain ⟨q, hqq⟩ : ∃ q : Nat, hxV zb = (q : Int) := ⟨(hxV zb).toNat, by omega⟩
   rw [hpp] at hva qa hby ⊢
   rw [hqq] at hvb qb hby ⊢
   (refine Go.run (g:=?_))
   have hb8 : (((16 * p + q) % 256 : Nat) : Int) = ((hxB za zb).toNat : Int) := by omega
   rw [hb8]
   refine GoR.buildRo (c := [hxB za zb].map bv) rfl rfl rfl rfl rfl (by decide) (by rfl) (by rfl) ?_
   intro b2 hh2 r2 ro2 ow2 s2 n2
   refine GoR.appendV rfl rfl rfl rfl rfl rfl (h4.same s2) r2 (fun x hx => .inr (by have := h5 x hx; omega)) (by omega) (by omega) (by simp [bv, Value.oneCell']) ?_
   intro b3 c3 hh3 v3 k3 o3
   rw [← List.map_append] at v3
   have m2 := s2.1
   have m3 := k3.1
   (refine Go.run (g:=?_))
   refine Go.again (j + 1, out ++ [hxB za zb], bd, b3, c3, hh3) ⟨by show 2 * (j + 1) ≤ w.length; omega, k3.get (s2.get h2) hnb, ?_, ?_, fun x hx => (o3 x hx).elim (h5 x) (fun e => by omega), by show H1.n ≤ hh3.n; omega, by show (out ++ [hxB za zb]).length ≤ j + 1; simp; omega, ?_, fun l hl => ?_⟩ (by show w.length - 2 * (j + 1) < w.length - i; omega) ⟨rfl, rfl, ?_, congrArg (fun x => some (Value.int .i64 x)) e2.symm, trivial⟩ rfl rfl
   · exact (h3.same s2).keeps k3 fun x hx hy => by have := R1.lt x hx; have := h5 x hy; omega
   ·
    show Sv hh3 5 1 b3 (out ++ [hxB za zb]).length c3 ((out ++ [hxB za zb]).map bv)
    rw [List.length_append]; exact v3
   ·
    show bd = (bd0 || (prP (w.take (2 * (j + 1)))).isNone)
    rw [hyes, h8]; cases prP (w.take i) <;> rfl
   ·
    show out ++ [hxB za zb] = l
    rw [hyes] at hl
    cases hq : prP (w.take i) with
    | none => rw [hq] at hl; cases hl
    | some l0 => rw [hq] at hl; injection hl with hl; rw [h9 l0 hq]; exact hl
   ·
    show some _ = some (Value.slice b3 (out ++ [hxB za zb]).length c3)
    rw [List.length_append]; rfl
  ·
   have he : 2 * j = w.length := by omega
   rw [he, List.take_length] at h8 h9
   (refine Go.run (g:=?_))
   (first|refine Go.finA rfl ?_|refine Go.finB rfl (hq:=?_))
   exact ⟨ob, oc, out, rfl, h4, fun x hx => by have := h5 x hx; omega, by omega, h9, a1, c1, by rw [← h8]; exact h2, h3, o1⟩
 ·
  have hno : prP w = none := prP_odd (w.length / 2) w (by omega)
  rw [hno]
  obtain ⟨bd0, hB0⟩ : ∃ x, x = true := ⟨true, rfl⟩
  have g2 : (H1.put b (some (.cells [.slice a1 r.length c1, .bool true] 78))).get b = some (.cells [.slice a1 r.length c1, .bool bd0] 78) := by rw [hB0]; exact AHeap.get_put_same _ (AHeap.lt g1) _
  have R2 := R1.putR o1 (some (.cells [.slice a1 r.length c1, .bool true] 78))
  have nn1 : H1.n ≤ (H1.put b (some (.cells [.slice a1 r.length c1, .bool true] 78))).n := Nat.le_refl _
  (refine Go.run (g:=?_))
  refine Go.loop (α := Nat × List UInt8 × Bool × Option Addr × Nat × AHeap) (fun x => [(0, .pointer (some ⟨b, 0, none⟩)), (3, stv w), (4, .slice x.2.2.2.1 x.2.1.length x.2.2.2.2.1), (5, .int .i64 ((2 * x.1 : Nat) : Int))]) (fun _ => []) (fun x => x.2.2.2.2.2) (fun x => 2 * x.1 ≤ w.length ∧ x.2.2.2.2.2.get b = some (.cells [.slice a1 r.length c1, .bool x.2.2.1] 78) ∧ Rv Tryd.prog x.2.2.2.2.2 1 a1 r.length c1 (r.map stv) ∧ Sv x.2.2.2.2.2 5 1 x.2.2.2.1 x.2.1.length x.2.2.2.2.1 (x.2.1.map bv) ∧ Own H1.n x.2.2.2.1 ∧ H1.n ≤ x.2.2.2.2.2.n ∧ x.2.1.length ≤ x.1 ∧ x.2.2.1 = (bd0 || (prP (w.take (2 * x.1))).isNone) ∧ ∀ l, prP (w.take (2 * x.1)) = some l → x.2.1 = l) (fun x => w.length - 2 * x.1) (0, [], bd0, none, 0, _) ⟨Nat.zero_le _, g2, R2, .nil, .nil _, nn1, Nat.le_refl _, by simp [prP], fun l hl => by simp [prP] at hl; exact hl.symm⟩ ⟨rfl, rfl, rfl, rfl, trivial⟩ rfl rfl ?_
  rintro ⟨j, out, bd, ob, oc, H⟩ ⟨h1, h2, h3, h4, h5, h6, h7, h8, h9⟩
  simp only at h1 h2 h3 h4 h5 h6 h7 h8 h9 ⊢
  have hnb : b ∉ blk ob := fun hi => by have := h5 b hi; omega
  rcases Nat.lt_or_ge (2 * j + 1) w.length with hi | hi
  case inl =>
   obtain ⟨za, hza⟩ : ∃ z, w[2 * j]? = some z := ⟨_, List.getElem?_eq_getElem (by omega)⟩
   obtain ⟨zb, hzb⟩ : ∃ z, w[2 * j + 1]? = some z := ⟨_, List.getElem?_eq_getElem hi⟩
   have hst := prP_step j w za zb hza hzb
   have hva := hxV_le za
   have hvb := hxV_le zb
   generalize hJ : 2 * j = i at *
   refine Go.runN (g:=?_)
   refine Go.loud (by kernel_rfl) rfl ?_
   (refine Go.runL (g:=?_))
   refine GoL.strAt (zs := w) rfl rfl rfl rfl rfl rfl hza ?_
   (refine Go.runL (g:=?_))
   refine GoL.callS rfl rfl rfl rfl rfl rfl rfl (((half_spec za _).argA).mono ?_)
   rintro _ HM ⟨rfl, rfl⟩ sM
   clear sM
   (refine Go.runL (g:=?_))
   refine GoL.strAt (zs := w) rfl rfl rfl rfl rfl rfl hzb ?_
   (refine Go.runL (g:=?_))
   refine GoL.callS rfl rfl rfl rfl rfl rfl rfl (((half_spec zb _).argA).mono ?_)
   rintro _ HN ⟨rfl, rfl⟩ sN
   clear sN
   (refine Go.runL (g:=?_))
   (refine GoL.end_ (g:=?_))
   have e2 : ((2 * (j + 1) : Nat) : Int) = ((i + 2 : Nat) : Int) := by omega
   rcases Int.lt_or_le (hxV za) 0 with qa | qa
   case inl =>
    have hno : prP (w.take (2 * (j + 1))) = none := by rw [hst]; cases prP (w.take i) <;> simp; intro h; omega
    (refine Go.run (g:=?_))
    exact Go.again (j + 1, out, true, ob, oc, _) ⟨by show 2 * (j + 1) ≤ w.length; omega, AHeap.get_put_same _ (AHeap.lt h2) _, h3.putR o1 _, h4.put hnb _, h5, h6, by show out.length ≤ j + 1; omega, by show true = (bd0 || (prP (w.take (2 * (j + 1)))).isNone); rw [hno]; simp, fun l hl => by rw [hno] at hl; cases hl⟩ (by show w.length - 2 * (j + 1) < w.length - i; omega) ⟨rfl, rfl, rfl, congrArg (fun x => some (Value.int .i64 x)) e2.symm, trivial⟩ rfl rfl
   rcases Int.lt_or_le (hxV zb) 0 with qb | qb
   case inl =>
    have hno : prP (w.take (2 * (j + 1))) = none := by rw [hst]; cases prP (w.take i) <;> simp; intro h; omega
    (refine Go.run (g:=?_))
    exact Go.again (j + 1, out, true, ob, oc, _) ⟨by show 2 * (j + 1) ≤ w.length; omega, AHeap.get_put_same _ (AHeap.lt h2) _, h3.putR o1 _, h4.put hnb _, h5, h6, by show out.length ≤ j + 1; omega, by show true = (bd0 || (prP (w.take (2 * (j + 1)))).isNone); rw [hno]; simp, fun l hl => by rw [hno] at hl; cases hl⟩ (by show w.length - 2 * (j + 1) < w.length - i; omega) ⟨rfl, rfl, rfl, congrArg (fun x => some (Value.int .i64 x)) e2.symm, trivial⟩ rfl rfl
   have hby := hxB_val qa qb
   have hyes : prP (w.take (2 * (j + 1))) = (prP (w.take i)).map (· ++ [hxB za zb]) := by
    rw [hst]
    cases prP (w.take i) with
    | none => rfl
    | some l => simp only [Option.bind_some, Option.map_some]; rw [if_pos ⟨qa, qb⟩]
   obtain ⟨p, hpp⟩ : ∃ p : Nat, hxV za = (p : Int) := ⟨(hxV za).toNat, by omega⟩
   obtain ⟨q, hqq⟩ : ∃ q : Nat, hxV zb = (q : Int) := ⟨(hxV zb).toNat, by omega⟩
   rw [hpp] at hva qa hby ⊢
   rw [hqq] at hvb qb hby ⊢
   (refine Go.run (g:=?_))
   have hb8 : (((16 * p + q) % 256 : Nat) : Int) = ((hxB za zb).toNat : Int) := by omega
   rw [hb8]
   refine GoR.buildRo (c := [hxB za zb].map bv) rfl rfl rfl rfl rfl (by decide) (by rfl) (by rfl) ?_
   intro b2 hh2 r2 ro2 ow2 s2 n2
   refine GoR.appendV rfl rfl rfl rfl rfl rfl (h4.same s2) r2 (fun x hx => .inr (by have := h5 x hx; omega)) (by omega) (by omega) (by simp [bv, Value.oneCell']) ?_
   intro b3 c3 hh3 v3 k3 o3
   rw [← List.map_append] at v3
   have m2 := s2.1
   have m3 := k3.1
   (refine Go.run (g:=?_))
   refine Go.again (j + 1, out ++ [hxB za zb], bd, b3, c3, hh3) ⟨by show 2 * (j + 1) ≤ w.length; omega, k3.get (s2.get h2) hnb, ?_, ?_, fun x hx => (o3 x hx).elim (h5 x) (fun e => by omega), by show H1.n ≤ hh3.n; omega, by show (out ++ [hxB za zb]).length ≤ j + 1; simp; omega, ?_, fun l hl => ?_⟩ (by show w.length - 2 * (j + 1) < w.length - i; omega) ⟨rfl, rfl, ?_, congrArg (fun x => some (Value.int .i64 x)) e2.symm, trivial⟩ rfl rfl
   · exact (h3.same s2).keeps k3 fun x hx hy => by have := R1.lt x hx; have := h5 x hy; omega
   ·
    show Sv hh3 5 1 b3 (out ++ [hxB za zb]).length c3 ((out ++ [hxB za zb]).map bv)
    rw [List.length_append]; exact v3
   ·
    show bd = (bd0 || (prP (w.take (2 * (j + 1)))).isNone)
    rw [hyes, h8]; cases prP (w.take i) <;> rfl
   ·
    show out ++ [hxB za zb] = l
    rw [hyes] at hl
    cases hq : prP (w.take i) with
    | none => rw [hq] at hl; cases hl
    | some l0 => rw [hq] at hl; injection hl with hl; rw [h9 l0 hq]; exact hl
   ·
    show some _ = some (Value.slice b3 (out ++ [hxB za zb]).length c3)
    rw [List.length_append]; rfl
  have hbd : bd = true := by rw [h8, hB0]; rfl
  (refine Go.run (g:=?_))
  (first|refine Go.finA rfl ?_|refine Go.finB rfl (hq:=?_))
  exact ⟨ob, oc, out, rfl, h4, fun x hx => by have := h5 x hx; omega, by omega, (fun m hm => by cases hm), a1, c1, by rw [Option.isNone_none, Bool.or_true, ← hbd]; exact h2, h3, o1⟩
end Go.Proofs.YtncbbeghkpjpbaaDoor
namespace Go.Proofs.YtncbbeghkpjpbaaDoor
open Go.RowKit
set_option maxRecDepth 100000
attribute [local irreducible] Go GoR GoL
theorem val_mono (a : List UInt8) : ∀ b, val a ≤ val (a ++ b) := by
 intro b
 induction b generalizing a with
 | nil => simp
 | cons c b ih =>
  have h1 := ih (a ++ [c])
  rw [List.append_assoc] at h1
  have h2 := val_snoc a c
  simp only [List.cons_append, List.nil_append] at h1
  omega
theorem val_take (s : List UInt8) (i : Nat) : val (s.take i) ≤ val s := by
 have := val_mono (s.take i) (s.drop i)
 rwa [List.take_append_drop] at this
def eV : Nat → Value
 | 0 => .nilIface
 | n => .iface 120 (.int .i64 (n : Nat))
theorem low_spec (c : Nat) (hc : c < 256) (h : AHeap) : CallS Tryd.prog [] 101 [.int .u8 (c : Nat)] h fun v h' => v = .int .u8 ((c ||| 32 : Nat) : Int) ∧ h' = h := by
 (refine CallS.of1 Tryd.func101 rfl Tryd.ntmps101 Tryd.results101 rfl ?_)
 (refine Go.run (g:=?_))
 (first|refine Go.finA rfl ?_|refine Go.finB rfl (hq:=?_))
 exact ⟨rfl, rfl⟩
theorem or32_lt {c : Nat} (hc : c < 256) : c ||| 32 < 256 := Nat.or_lt_two_pow (n := 8) hc (by decide)
def PuPost (s : List UInt8) (v : Value) : Prop := ∃ (n e : Nat), v = .tuple #[.int .u64 (n : Nat), eV e] ∧ (e = 0 ∨ e = 1 ∨ e = 2) ∧ n < 18446744073709551616 ∧ (e = 1 → n = 18446744073709551615) ∧ (s.all isD = true → s ≠ [] → val s < 18446744073709551616 → e = 0 ∧ n = val s)
theorem sh64 : iSh .shl .u64 1 64 = some (.int .u64 0) := by rfl
theorem mx64 : iBin .sub .u64 0 1 = some (.int .u64 18446744073709551615) := by rfl
theorem aBytes_str (zs : List UInt8) : aBytes Tryd.prog 9 31 (stv zs) = some (zs.length, .cells (zs.map bv) 5) := by
 unfold aBytes stv
 rw [Tryd.underlying9, Tryd.underlying31]
 simp only [Tryd.underlying5]
 rw [if_pos (by kernel_rfl)]
 rfl
theorem add_wrap {a b : Nat} (ha : a < 18446744073709551616) (hb : b < 18446744073709551616) (h : 18446744073709551616 ≤ a + b) : iBin .add .u64 (a : Int) (b : Int) = some (.int .u64 ((a + b - 18446744073709551616 : Nat) : Int)) := by
 have e : IntKind.u64.wrap ((a : Int) + (b : Int)) = ((a + b - 18446744073709551616 : Nat) : Int) := by
  simp [IntKind.wrap, IntKind.signed, IntKind.bits]
  omega
 exact congrArg (fun x => some (Value.int .u64 x)) e
set_option maxHeartbeats 32000000 in
theorem pu_spec (s : List UInt8) (hs : s.length ≤ 10000000) (h : AHeap) : CallS Tryd.prog [] 93 [stv s, .int .i64 10, .int .i64 0] h fun v h' => PuPost s v := by
 (refine CallS.of3 Tryd.func93 rfl Tryd.ntmps93 Tryd.results93 rfl ?_)
 by_cases hn : s = []
 ·
  subst hn
  (refine Go.run (g:=?_))
  refine GoR.mkIf rfl rfl rfl rfl rfl Tryd.underlying120 (fun _ h => by cases h) ?_
  (refine Go.run (g:=?_))
  (first|refine Go.finA rfl ?_|refine Go.finB rfl (hq:=?_))
  exact ⟨0, 2, rfl, .inr (.inr rfl), by decide, (fun h => by cases h), fun _ h => absurd rfl h⟩
 have hz : decide (s = []) = false := decide_eq_false hn
 (refine Go.run (g:=?_))
 refine GoR.convE 64 rfl rfl rfl rfl rfl rfl ?_
 refine GoR.shiftE _ rfl rfl rfl rfl rfl rfl sh64 ?_
 refine GoR.binE _ rfl rfl rfl rfl rfl rfl mx64 ?_
 (refine Go.run (g:=?_))
 refine GoR.convBytes rfl rfl rfl rfl rfl (aBytes_str s) ?_
 refine GoR.name ?_
 intro H1 e1
 have R1 : Rv Tryd.prog H1 1 (some ⟨h.n, 0, none⟩) s.length s.length (s.map bv) := by
  have : Sv H1 5 1 (some ⟨h.n, 0, none⟩) s.length s.length (s.map bv) := by rw [e1]; exact Sv.new h _ _ (by simp)
  exact this.rv
 clear e1
 (refine Go.run (g:=?_))
 refine Go.loop (α := Nat × Nat) (fun x => [(8, .bool false), (1, .int .i64 10), (9, stv s), (10, .int .u64 1844674407370955162), (11, .int .u64 18446744073709551615), (12, .bool false), (13, .int .u64 (x.2 : Nat)), (99, .slice (some ⟨h.n, 0, none⟩) s.length s.length), (100, .int .i64 (s.length : Nat)), (101, .int .i64 (x.1 : Nat))]) (fun _ => []) (fun _ => H1) (fun x => x.1 ≤ s.length ∧ (s.take x.1).all isD = true ∧ x.2 = val (s.take x.1) ∧ x.2 < 18446744073709551616) (fun x => s.length - x.1) (0, 0) ⟨Nat.zero_le _, by simp, by simp [val], by decide⟩ ⟨rfl, rfl, rfl, rfl, rfl, rfl, rfl, rfl, rfl, rfl, trivial⟩ rfl rfl ?_
 rintro ⟨i, n⟩ ⟨h1, h2, h3, h4⟩
 simp only at h1 h2 h3 h4 ⊢
 rcases Nat.lt_or_ge i s.length with hi | hi
 case inr =>
  obtain rfl : i = s.length := by omega
  rw [List.take_length] at h2 h3
  (refine Go.run (g:=?_))
  (first|refine Go.finA rfl ?_|refine Go.finB rfl (hq:=?_))
  exact ⟨n, 0, rfl, .inl rfl, h4, (fun h => by cases h), fun _ _ _ => ⟨rfl, h3⟩⟩
 obtain ⟨z, hz⟩ : ∃ z, s[i]? = some z := ⟨_, List.getElem?_eq_getElem hi⟩
 have hzb := z.toNat_lt
 have hts := take_snoc hz
 have hzm : (s.map bv)[i]? = some (.int .u8 (z.toNat : Nat)) := by rw [List.getElem?_map, hz]; rfl
 have hno' : isD z = false → s.all isD = false := fun hd => by
  rw [← List.take_append_drop (i + 1) s, List.all_append, hts, List.all_append]
  simp [hd]
 by_cases d1 : 48 ≤ z.toNat
 case neg =>
  have hno := hno' (by simp [isD]; omega)
  have hlow := low_spec z.toNat hzb
  have hy := or32_lt hzb
  generalize hY : z.toNat ||| 32 = y at *
  (refine Go.run (g:=?_))
  refine GoR.call rfl rfl rfl rfl rfl rfl rfl (((hlow _).argA).mono ?_)
  rintro _ _ ⟨rfl, rfl⟩ sL
  clear sL
  by_cases y1 : 97 ≤ y
  case neg =>
   (refine Go.run (g:=?_))
   refine GoR.mkIf rfl rfl rfl rfl rfl Tryd.underlying120 (fun _ h => by cases h) ?_
   (refine Go.run (g:=?_))
   (first|refine Go.finA rfl ?_|refine Go.finB rfl (hq:=?_))
   refine ⟨0, 2, rfl, .inr (.inr rfl), by decide, (fun h => by cases h), fun ha => ?_⟩
   rw [hno] at ha; cases ha
  (refine Go.run (g:=?_))
  refine GoR.call rfl rfl rfl rfl rfl rfl rfl (((hlow _).argA).mono ?_)
  rintro _ _ ⟨rfl, rfl⟩ sL
  clear sL
  by_cases y2 : y ≤ 122
  case neg =>
   (refine Go.run (g:=?_))
   refine GoR.mkIf rfl rfl rfl rfl rfl Tryd.underlying120 (fun _ h => by cases h) ?_
   (refine Go.run (g:=?_))
   (first|refine Go.finA rfl ?_|refine Go.finB rfl (hq:=?_))
   refine ⟨0, 2, rfl, .inr (.inr rfl), by decide, (fun h => by cases h), fun ha => ?_⟩
   rw [hno] at ha; cases ha
  (refine Go.run (g:=?_))
  refine GoR.call rfl rfl rfl rfl rfl rfl rfl (((hlow _).argA).mono ?_)
  rintro _ _ ⟨rfl, rfl⟩ sL
  clear sL
  (refine Go.run (g:=?_))
  refine GoR.mkIf rfl rfl rfl rfl rfl Tryd.underlying120 (fun _ h => by cases h) ?_
  (refine Go.run (g:=?_))
  (first|refine Go.finA rfl ?_|refine Go.finB rfl (hq:=?_))
  refine ⟨0, 2, rfl, .inr (.inr rfl), by decide, (fun h => by cases h), fun ha => ?_⟩
  rw [hno] at ha; cases ha
 by_cases d2 : z.toNat ≤ 57
 case neg =>
  have hno := hno' (by simp [isD]; omega)
  by_cases z95 : z.toNat = 95
  case pos =>
   have hlow := low_spec z.toNat hzb
   have hy := or32_lt hzb
   generalize hY : z.toNat ||| 32 = y at *
   (refine Go.run (g:=?_))
   refine GoR.call rfl rfl rfl rfl rfl rfl rfl (((hlow _).argA).mono ?_)
   rintro _ _ ⟨rfl, rfl⟩ sL
   clear sL
   by_cases y1 : 97 ≤ y
   case neg =>
    (refine Go.run (g:=?_))
    refine GoR.mkIf rfl rfl rfl rfl rfl Tryd.underlying120 (fun _ h => by cases h) ?_
    (refine Go.run (g:=?_))
    (first|refine Go.finA rfl ?_|refine Go.finB rfl (hq:=?_))
    refine ⟨0, 2, rfl, .inr (.inr rfl), by decide, (fun h => by cases h), fun ha => ?_⟩
    rw [hno] at ha; cases ha
   (refine Go.run (g:=?_))
   refine GoR.call rfl rfl rfl rfl rfl rfl rfl (((hlow _).argA).mono ?_)
   rintro _ _ ⟨rfl, rfl⟩ sL
   clear sL
   by_cases y2 : y ≤ 122
   case neg =>
    (refine Go.run (g:=?_))
    refine GoR.mkIf rfl rfl rfl rfl rfl Tryd.underlying120 (fun _ h => by cases h) ?_
    (refine Go.run (g:=?_))
    (first|refine Go.finA rfl ?_|refine Go.finB rfl (hq:=?_))
    refine ⟨0, 2, rfl, .inr (.inr rfl), by decide, (fun h => by cases h), fun ha => ?_⟩
    rw [hno] at ha; cases ha
   (refine Go.run (g:=?_))
   refine GoR.call rfl rfl rfl rfl rfl rfl rfl (((hlow _).argA).mono ?_)
   rintro _ _ ⟨rfl, rfl⟩ sL
   clear sL
   (refine Go.run (g:=?_))
   refine GoR.mkIf rfl rfl rfl rfl rfl Tryd.underlying120 (fun _ h => by cases h) ?_
   (refine Go.run (g:=?_))
   (first|refine Go.finA rfl ?_|refine Go.finB rfl (hq:=?_))
   refine ⟨0, 2, rfl, .inr (.inr rfl), by decide, (fun h => by cases h), fun ha => ?_⟩
   rw [hno] at ha; cases ha
  have hlow := low_spec z.toNat hzb
  have hy := or32_lt hzb
  generalize hY : z.toNat ||| 32 = y at *
  (refine Go.run (g:=?_))
  refine GoR.call rfl rfl rfl rfl rfl rfl rfl (((hlow _).argA).mono ?_)
  rintro _ _ ⟨rfl, rfl⟩ sL
  clear sL
  by_cases y1 : 97 ≤ y
  case neg =>
   (refine Go.run (g:=?_))
   refine GoR.mkIf rfl rfl rfl rfl rfl Tryd.underlying120 (fun _ h => by cases h) ?_
   (refine Go.run (g:=?_))
   (first|refine Go.finA rfl ?_|refine Go.finB rfl (hq:=?_))
   refine ⟨0, 2, rfl, .inr (.inr rfl), by decide, (fun h => by cases h), fun ha => ?_⟩
   rw [hno] at ha; cases ha
  (refine Go.run (g:=?_))
  refine GoR.call rfl rfl rfl rfl rfl rfl rfl (((hlow _).argA).mono ?_)
  rintro _ _ ⟨rfl, rfl⟩ sL
  clear sL
  by_cases y2 : y ≤ 122
  case neg =>
   (refine Go.run (g:=?_))
   refine GoR.mkIf rfl rfl rfl rfl rfl Tryd.underlying120 (fun _ h => by cases h) ?_
   (refine Go.run (g:=?_))
   (first|refine Go.finA rfl ?_|refine Go.finB rfl (hq:=?_))
   refine ⟨0, 2, rfl, .inr (.inr rfl), by decide, (fun h => by cases h), fun ha => ?_⟩
   rw [hno] at ha; cases ha
  (refine Go.run (g:=?_))
  refine GoR.call rfl rfl rfl rfl rfl rfl rfl (((hlow _).argA).mono ?_)
  rintro _ _ ⟨rfl, rfl⟩ sL
  clear sL
  (refine Go.run (g:=?_))
  refine GoR.mkIf rfl rfl rfl rfl rfl Tryd.underlying120 (fun _ h => by cases h) ?_
  (refine Go.run (g:=?_))
  (first|refine Go.finA rfl ?_|refine Go.finB rfl (hq:=?_))
  refine ⟨0, 2, rfl, .inr (.inr rfl), by decide, (fun h => by cases h), fun ha => ?_⟩
  rw [hno] at ha; cases ha
 have hvs := val_snoc (s.take i) z
 rw [← hts, ← h3] at hvs
 have hmo := val_take s (i + 1)
 rw [hvs] at hmo
 obtain ⟨d, hd⟩ : ∃ d, z.toNat = 48 + d := ⟨z.toNat - 48, by omega⟩
 have hall : (s.take (i + 1)).all isD = true := by rw [hts, List.all_append, h2]; simp [isD]; omega
 rw [hd] at hzm hvs hmo d1 d2
 rw [Nat.add_sub_cancel_left] at hvs hmo
 have hd9 : d ≤ 9 := by omega
 clear d1 d2 hno' hts
 by_cases hc : 1844674407370955162 ≤ n
 case pos =>
  (refine Go.run (g:=?_))
  refine GoR.mkIf rfl rfl rfl rfl rfl Tryd.underlying120 (fun _ h => by cases h) ?_
  (refine Go.run (g:=?_))
  (first|refine Go.finA rfl ?_|refine Go.finB rfl (hq:=?_))
  exact ⟨18446744073709551615, 1, rfl, .inr (.inl rfl), by decide, fun _ => rfl, fun _ _ hl => by omega⟩
 by_cases ho : 10 * n + d < 18446744073709551616
 case neg =>
  have hw : iBin .add .u64 ((n * 10 : Nat) : Int) ((48 + d - 48 : Nat) : Int) = some (.int .u64 ((n * 10 + (48 + d - 48) - 18446744073709551616 : Nat) : Int)) := add_wrap (by omega) (by omega) (by omega)
  (refine Go.run (g:=?_))
  refine GoR.convE ((10 : Nat) : Int) rfl rfl rfl rfl rfl rfl ?_
  (refine Go.run (g:=?_))
  refine GoR.binE _ rfl rfl rfl rfl rfl rfl hw ?_
  have hlt : n * 10 + (48 + d - 48) - 18446744073709551616 < n * 10 := by omega
  generalize n * 10 + (48 + d - 48) - 18446744073709551616 = m at *
  (refine Go.run (g:=?_))
  refine GoR.mkIf rfl rfl rfl rfl rfl Tryd.underlying120 (fun _ h => by cases h) ?_
  (refine Go.run (g:=?_))
  (first|refine Go.finA rfl ?_|refine Go.finB rfl (hq:=?_))
  exact ⟨18446744073709551615, 1, rfl, .inr (.inl rfl), by decide, fun _ => rfl, fun _ _ hl => by omega⟩
 have e13 : 10 * n + d = n * 10 + (48 + d - 48) := by omega
 (refine Go.run (g:=?_))
 refine GoR.convE ((10 : Nat) : Int) rfl rfl rfl rfl rfl rfl ?_
 (refine Go.run (g:=?_))
 exact Go.again (i + 1, 10 * n + d) ⟨hi, hall, hvs.symm, ho⟩ (by show s.length - (i + 1) < s.length - i; omega) ⟨rfl, rfl, rfl, rfl, rfl, rfl, congrArg (fun x : Nat => some (Value.int .u64 (x : Int))) e13.symm, rfl, rfl, rfl, trivial⟩ rfl rfl
end Go.Proofs.YtncbbeghkpjpbaaDoor
namespace Go.Proofs.YtncbbeghkpjpbaaDoor
open Go.RowKit
set_option maxRecDepth 100000
attribute [local irreducible] Go GoR GoL
def PiPost (s : List UInt8) (v : Value) : Prop := ∃ (n : Int) (e : Nat), v = .tuple #[.int .i64 n, eV e] ∧ (e = 0 ∨ e = 1 ∨ e = 2) ∧ -9223372036854775808 ≤ n ∧ n < 9223372036854775808 ∧ ∀ m, numP s = some m → e = 0 ∧ n = m
theorem numP_plus (l : List UInt8) : numP (43 :: l) = none := by
 simp only [numP]
 rw [if_neg (by decide), if_neg]
 rintro ⟨h, -⟩
 simp [cdB, isD] at h
theorem numP_pos {c : UInt8} {l : List UInt8} (hc : c ≠ 45) {m : Int} (h : numP (c :: l) = some m) : (c :: l).all isD = true ∧ val (c :: l) < 9223372036854775808 ∧ m = val (c :: l) := by
 simp only [numP] at h
 rw [if_neg hc] at h
 split at h
 ·
  rename_i hh
  obtain ⟨h1, h2⟩ := hh
  simp only [cdB, Bool.and_eq_true] at h1
  exact ⟨h1.2.1, h2, (Option.some.inj h).symm⟩
 · cases h
theorem numP_neg {l : List UInt8} {m : Int} (h : numP (45 :: l) = some m) : l.all isD = true ∧ l ≠ [] ∧ val l ≤ 9223372036854775808 ∧ m = -(val l : Int) := by
 simp only [numP] at h
 rw [if_pos trivial] at h
 split at h
 ·
  rename_i hh
  obtain ⟨h1, h2, h3⟩ := hh
  simp only [cdB, Bool.and_eq_true] at h1
  exact ⟨h1.2.1, fun e => by rw [e] at h1; simp at h1, h3, (Option.some.inj h).symm⟩
 · cases h
theorem eV_if (e : Nat) (h : e = 0 ∨ e = 1 ∨ e = 2) : IfV (eV e) (decide (e ≠ 0)) := by
 rcases h with rfl | rfl | rfl
 · exact .inl ⟨rfl, rfl⟩
 · exact .inr ⟨_, _, rfl, rfl⟩
 · exact .inr ⟨_, _, rfl, rfl⟩
theorem wrapNeg {n : Nat} (h : n ≤ 9223372036854775808) : IntKind.i64.wrap (0 - IntKind.i64.wrap (n : Int)) = -(n : Int) := by
 simp [IntKind.wrap, IntKind.signed, IntKind.bits]
 omega
theorem wrapRng (n : Int) : -9223372036854775808 ≤ IntKind.i64.wrap n ∧ IntKind.i64.wrap n < 9223372036854775808 := by
 simp [IntKind.wrap, IntKind.signed, IntKind.bits]
 omega
theorem sh63 : iSh .shl .u64 1 63 = some (.int .u64 9223372036854775808) := by rfl
set_option maxHeartbeats 32000000 in
theorem pi_spec (s : List UInt8) (hs : s.length ≤ 10000000) (h : AHeap) : CallS Tryd.prog [] 75 [stv s, .int .i64 10, .int .i64 0] h fun v h' => PiPost s v := by
 (refine CallS.of3 Tryd.func75 rfl Tryd.ntmps75 Tryd.results75 rfl ?_)
 match s, hs with
 | [], hs =>
  (refine Go.run (g:=?_))
  refine GoR.mkIf rfl rfl rfl rfl rfl Tryd.underlying120 (fun _ h => by cases h) ?_
  (refine Go.run (g:=?_))
  (first|refine Go.finA rfl ?_|refine Go.finB rfl (hq:=?_))
  exact ⟨0, 2, rfl, .inr (.inr rfl), by decide, by decide, fun m hm => by cases hm⟩
 | c :: l, hs =>
  have hz : decide (c :: l = []) = false := rfl
  have hc0 : (c :: l)[0]? = some c := rfl
  have hcb := c.toNat_lt
  have hl : l.length ≤ 10000000 := by simp at hs; omega
  (refine Go.run (g:=?_))
  refine GoR.strAtI (zs := c :: l) rfl rfl rfl rfl rfl rfl (by decide) hc0 ?_
  by_cases c43 : c.toNat = 43
  case pos =>
   obtain rfl : c = 43 := UInt8.toNat_inj.1 c43
   have hP : ∀ m, numP (43 :: l) = some m → l.all isD = true ∧ l ≠ [] ∧ val l < 9223372036854775808 ∧ m = val l := fun m hm => by rw [numP_plus l] at hm; cases hm
   (refine Go.run (g:=?_))
   refine GoR.strLo (zs := 43 :: l) (l := 1) rfl rfl rfl rfl rfl rfl (by simp) ?_
   (refine Go.run (g:=?_))
   refine GoR.call rfl rfl rfl rfl rfl rfl rfl (((pu_spec l (by omega) _).argA).mono ?_)
   rintro _ H1 ⟨n, e, rfl, he, hn, h1, hp⟩ s1
   clear s1
   rcases he with rfl | rfl | rfl
   case inr.inr =>
    (refine Go.run (g:=?_))
    refine GoR.ifNil rfl rfl rfl rfl rfl (eV_if 2 (.inr (.inr rfl))) Tryd.underlying91 ?_
    (refine Go.run (g:=?_))
    refine GoR.mkIf rfl rfl rfl rfl rfl Tryd.underlying120 (fun _ h => by cases h) ?_
    (refine Go.run (g:=?_))
    refine GoR.ifInt rfl rfl rfl rfl (.inr rfl) rfl rfl Tryd.underlying91 (by kernel_rfl) Tryd.underlying120 ?_
    (refine Go.run (g:=?_))
    (first|refine Go.finA rfl ?_|refine Go.finB rfl (hq:=?_))
    exact ⟨0, 2, rfl, .inr (.inr rfl), by decide, by decide, (fun m hm => by obtain ⟨x1, x2, x3, x4⟩ := hP m hm; have := (hp x1 x2 (by omega)).1; omega)⟩
   case inr.inl =>
    have h1 := h1 rfl
    subst h1
    (refine Go.run (g:=?_))
    refine GoR.ifNil rfl rfl rfl rfl rfl (eV_if 1 (.inr (.inl rfl))) Tryd.underlying91 ?_
    (refine Go.run (g:=?_))
    refine GoR.mkIf rfl rfl rfl rfl rfl Tryd.underlying120 (fun _ h => by cases h) ?_
    (refine Go.run (g:=?_))
    refine GoR.ifInt rfl rfl rfl rfl (.inr rfl) rfl rfl Tryd.underlying91 (by kernel_rfl) Tryd.underlying120 ?_
    (refine Go.run (g:=?_))
    refine GoR.convE 63 rfl rfl rfl rfl rfl rfl ?_
    refine GoR.shiftE _ rfl rfl rfl rfl rfl rfl sh63 ?_
    (refine Go.run (g:=?_))
    refine GoR.convE 9223372036854775807 rfl rfl rfl rfl rfl (by decide) ?_
    refine GoR.mkIf rfl rfl rfl rfl rfl Tryd.underlying120 (fun _ h => by cases h) ?_
    (refine Go.run (g:=?_))
    (first|refine Go.finA rfl ?_|refine Go.finB rfl (hq:=?_))
    exact ⟨9223372036854775807, 1, rfl, .inr (.inl rfl), by decide, by decide, (fun m hm => by obtain ⟨x1, x2, x3, x4⟩ := hP m hm; have := (hp x1 x2 (by omega)).1; omega)⟩
   case inl =>
    (refine Go.run (g:=?_))
    refine GoR.ifNil rfl rfl rfl rfl rfl (eV_if 0 (.inl rfl)) Tryd.underlying91 ?_
    (refine Go.run (g:=?_))
    refine GoR.convE 63 rfl rfl rfl rfl rfl rfl ?_
    refine GoR.shiftE _ rfl rfl rfl rfl rfl rfl sh63 ?_
    (refine Go.run (g:=?_))
    by_cases hb : 9223372036854775808 ≤ n
    case pos =>
     (refine Go.run (g:=?_))
     refine GoR.convE 9223372036854775807 rfl rfl rfl rfl rfl (by decide) ?_
     refine GoR.mkIf rfl rfl rfl rfl rfl Tryd.underlying120 (fun _ h => by cases h) ?_
     (refine Go.run (g:=?_))
     (first|refine Go.finA rfl ?_|refine Go.finB rfl (hq:=?_))
     exact ⟨9223372036854775807, 1, rfl, .inr (.inl rfl), by decide, by decide, (fun m hm => by obtain ⟨x1, x2, x3, x4⟩ := hP m hm; have := (hp x1 x2 (by omega)).2; omega)⟩
    (refine Go.run (g:=?_))
    (first|refine Go.finA rfl ?_|refine Go.finB rfl (hq:=?_))
    exact ⟨n, 0, rfl, .inl rfl, by omega, by omega, (fun m hm => by obtain ⟨x1, x2, x3, x4⟩ := hP m hm; have := (hp x1 x2 (by omega)).2; exact ⟨rfl, by omega⟩)⟩
  by_cases c45 : c.toNat = 45
  case pos =>
   obtain rfl : c = 45 := UInt8.toNat_inj.1 c45
   (refine Go.run (g:=?_))
   refine GoR.strLo (zs := 45 :: l) (l := 1) rfl rfl rfl rfl rfl rfl (by simp) ?_
   have hP := fun m => @numP_neg l m
   (refine Go.run (g:=?_))
   refine GoR.call rfl rfl rfl rfl rfl rfl rfl (((pu_spec l (by omega) _).argA).mono ?_)
   rintro _ H1 ⟨n, e, rfl, he, hn, h1, hp⟩ s1
   clear s1
   rcases he with rfl | rfl | rfl
   case inr.inr =>
    (refine Go.run (g:=?_))
    refine GoR.ifNil rfl rfl rfl rfl rfl (eV_if 2 (.inr (.inr rfl))) Tryd.underlying91 ?_
    (refine Go.run (g:=?_))
    refine GoR.mkIf rfl rfl rfl rfl rfl Tryd.underlying120 (fun _ h => by cases h) ?_
    (refine Go.run (g:=?_))
    refine GoR.ifInt rfl rfl rfl rfl (.inr rfl) rfl rfl Tryd.underlying91 (by kernel_rfl) Tryd.underlying120 ?_
    (refine Go.run (g:=?_))
    (first|refine Go.finA rfl ?_|refine Go.finB rfl (hq:=?_))
    exact ⟨0, 2, rfl, .inr (.inr rfl), by decide, by decide, (fun m hm => by obtain ⟨x1, x2, x3, x4⟩ := hP m hm; have := (hp x1 x2 (by omega)).1; omega)⟩
   case inr.inl =>
    have h1 := h1 rfl
    subst h1
    (refine Go.run (g:=?_))
    refine GoR.ifNil rfl rfl rfl rfl rfl (eV_if 1 (.inr (.inl rfl))) Tryd.underlying91 ?_
    (refine Go.run (g:=?_))
    refine GoR.mkIf rfl rfl rfl rfl rfl Tryd.underlying120 (fun _ h => by cases h) ?_
    (refine Go.run (g:=?_))
    refine GoR.ifInt rfl rfl rfl rfl (.inr rfl) rfl rfl Tryd.underlying91 (by kernel_rfl) Tryd.underlying120 ?_
    (refine Go.run (g:=?_))
    refine GoR.convE 63 rfl rfl rfl rfl rfl rfl ?_
    refine GoR.shiftE _ rfl rfl rfl rfl rfl rfl sh63 ?_
    (refine Go.run (g:=?_))
    refine GoR.convE (-9223372036854775808) rfl rfl rfl rfl rfl (by decide) ?_
    refine GoR.neg rfl rfl rfl rfl rfl ?_
    refine GoR.mkIf rfl rfl rfl rfl rfl Tryd.underlying120 (fun _ h => by cases h) ?_
    (refine Go.run (g:=?_))
    (first|refine Go.finA rfl ?_|refine Go.finB rfl (hq:=?_))
    exact ⟨_, 1, rfl, .inr (.inl rfl), (wrapRng _).1, (wrapRng _).2, (fun m hm => by obtain ⟨x1, x2, x3, x4⟩ := hP m hm; have := (hp x1 x2 (by omega)).1; omega)⟩
   case inl =>
    (refine Go.run (g:=?_))
    refine GoR.ifNil rfl rfl rfl rfl rfl (eV_if 0 (.inl rfl)) Tryd.underlying91 ?_
    (refine Go.run (g:=?_))
    refine GoR.convE 63 rfl rfl rfl rfl rfl rfl ?_
    refine GoR.shiftE _ rfl rfl rfl rfl rfl rfl sh63 ?_
    (refine Go.run (g:=?_))
    by_cases hb : 9223372036854775808 < n
    case pos =>
     (refine Go.run (g:=?_))
     refine GoR.convE (-9223372036854775808) rfl rfl rfl rfl rfl (by decide) ?_
     refine GoR.neg rfl rfl rfl rfl rfl ?_
     refine GoR.mkIf rfl rfl rfl rfl rfl Tryd.underlying120 (fun _ h => by cases h) ?_
     (refine Go.run (g:=?_))
     (first|refine Go.finA rfl ?_|refine Go.finB rfl (hq:=?_))
     exact ⟨_, 1, rfl, .inr (.inl rfl), (wrapRng _).1, (wrapRng _).2, (fun m hm => by obtain ⟨x1, x2, x3, x4⟩ := hP m hm; have := (hp x1 x2 (by omega)).2; omega)⟩
    (refine Go.run (g:=?_))
    refine GoR.convE _ rfl rfl rfl rfl rfl rfl ?_
    (refine Go.run (g:=?_))
    refine GoR.neg rfl rfl rfl rfl rfl ?_
    rw [wrapNeg (by omega)]
    (refine Go.run (g:=?_))
    (first|refine Go.finA rfl ?_|refine Go.finB rfl (hq:=?_))
    exact ⟨-(n : Int), 0, rfl, .inl rfl, by omega, by omega, (fun m hm => by obtain ⟨x1, x2, x3, x4⟩ := hP m hm; have := (hp x1 x2 (by omega)).2; exact ⟨rfl, by omega⟩)⟩
  have hc45 : c ≠ 45 := fun e => c45 (by rw [e]; rfl)
  have hP : ∀ m, numP (c :: l) = some m → (c :: l).all isD = true ∧ c :: l ≠ [] ∧ val (c :: l) < 9223372036854775808 ∧ m = val (c :: l) := fun m hm => by
   obtain ⟨x1, x2, x3⟩ := numP_pos hc45 hm
   exact ⟨x1, by simp, x2, x3⟩
  (refine Go.run (g:=?_))
  refine GoR.call rfl rfl rfl rfl rfl rfl rfl (((pu_spec (c :: l) (by omega) _).argA).mono ?_)
  rintro _ H1 ⟨n, e, rfl, he, hn, h1, hp⟩ s1
  clear s1
  rcases he with rfl | rfl | rfl
  case inr.inr =>
   (refine Go.run (g:=?_))
   refine GoR.ifNil rfl rfl rfl rfl rfl (eV_if 2 (.inr (.inr rfl))) Tryd.underlying91 ?_
   (refine Go.run (g:=?_))
   refine GoR.mkIf rfl rfl rfl rfl rfl Tryd.underlying120 (fun _ h => by cases h) ?_
   (refine Go.run (g:=?_))
   refine GoR.ifInt rfl rfl rfl rfl (.inr rfl) rfl rfl Tryd.underlying91 (by kernel_rfl) Tryd.underlying120 ?_
   (refine Go.run (g:=?_))
   (first|refine Go.finA rfl ?_|refine Go.finB rfl (hq:=?_))
   exact ⟨0, 2, rfl, .inr (.inr rfl), by decide, by decide, (fun m hm => by obtain ⟨x1, x2, x3, x4⟩ := hP m hm; have := (hp x1 x2 (by omega)).1; omega)⟩
  case inr.inl =>
   have h1 := h1 rfl
   subst h1
   (refine Go.run (g:=?_))
   refine GoR.ifNil rfl rfl rfl rfl rfl (eV_if 1 (.inr (.inl rfl))) Tryd.underlying91 ?_
   (refine Go.run (g:=?_))
   refine GoR.mkIf rfl rfl rfl rfl rfl Tryd.underlying120 (fun _ h => by cases h) ?_
   (refine Go.run (g:=?_))
   refine GoR.ifInt rfl rfl rfl rfl (.inr rfl) rfl rfl Tryd.underlying91 (by kernel_rfl) Tryd.underlying120 ?_
   (refine Go.run (g:=?_))
   refine GoR.convE 63 rfl rfl rfl rfl rfl rfl ?_
   refine GoR.shiftE _ rfl rfl rfl rfl rfl rfl sh63 ?_
   (refine Go.run (g:=?_))
   refine GoR.convE 9223372036854775807 rfl rfl rfl rfl rfl (by decide) ?_
   refine GoR.mkIf rfl rfl rfl rfl rfl Tryd.underlying120 (fun _ h => by cases h) ?_
   (refine Go.run (g:=?_))
   (first|refine Go.finA rfl ?_|refine Go.finB rfl (hq:=?_))
   exact ⟨9223372036854775807, 1, rfl, .inr (.inl rfl), by decide, by decide, (fun m hm => by obtain ⟨x1, x2, x3, x4⟩ := hP m hm; have := (hp x1 x2 (by omega)).1; omega)⟩
  case inl =>
   (refine Go.run (g:=?_))
   refine GoR.ifNil rfl rfl rfl rfl rfl (eV_if 0 (.inl rfl)) Tryd.underlying91 ?_
   (refine Go.run (g:=?_))
   refine GoR.convE 63 rfl rfl rfl rfl rfl rfl ?_
   refine GoR.shiftE _ rfl rfl rfl rfl rfl rfl sh63 ?_
   (refine Go.run (g:=?_))
   by_cases hb : 9223372036854775808 ≤ n
   case pos =>
    (refine Go.run (g:=?_))
    refine GoR.convE 9223372036854775807 rfl rfl rfl rfl rfl (by decide) ?_
    refine GoR.mkIf rfl rfl rfl rfl rfl Tryd.underlying120 (fun _ h => by cases h) ?_
    (refine Go.run (g:=?_))
    (first|refine Go.finA rfl ?_|refine Go.finB rfl (hq:=?_))
    exact ⟨9223372036854775807, 1, rfl, .inr (.inl rfl), by decide, by decide, (fun m hm => by obtain ⟨x1, x2, x3, x4⟩ := hP m hm; have := (hp x1 x2 (by omega)).2; omega)⟩
   (refine Go.run (g:=?_))
   (first|refine Go.finA rfl ?_|refine Go.finB rfl (hq:=?_))
   exact ⟨n, 0, rfl, .inl rfl, by omega, by omega, (fun m hm => by obtain ⟨x1, x2, x3, x4⟩ := hP m hm; have := (hp x1 x2 (by omega)).2; exact ⟨rfl, by omega⟩)⟩
end Go.Proofs.YtncbbeghkpjpbaaDoor
namespace Go.Proofs.YtncbbeghkpjpbaaDoor
open Go.RowKit
set_option maxRecDepth 100000
attribute [local irreducible] Go GoR GoL
theorem wrapM {n : Nat} (h : n < 9223372036854775808) : IntKind.i64.wrap (0 - (n : Int)) = -(n : Int) := by
 simp [IntKind.wrap, IntKind.signed, IntKind.bits]
 omega
theorem sub48 {z : Nat} (h : z < 48) : iBin .sub .u8 (z : Int) 48 = some (.int .u8 ((z + 208 : Nat) : Int)) := by
 have e : IntKind.u8.wrap ((z : Int) - 48) = ((z + 208 : Nat) : Int) := by
  simp [IntKind.wrap, IntKind.signed, IntKind.bits]
  omega
 exact congrArg (fun x => some (Value.int .u8 x)) e
set_option maxHeartbeats 32000000 in
theorem atoi0_spec (s : List UInt8) (hs : s.length ≤ 10000000) (h : AHeap) : CallS Tryd.prog [] 63 [stv s] h fun v h' => PiPost s v := by
 (refine CallS.of1 Tryd.func63 rfl Tryd.ntmps63 Tryd.results63 rfl ?_)
 by_cases q1 : 0 < s.length
 case neg =>
  obtain rfl : s = [] := List.length_eq_zero_iff.1 (by omega)
  (refine Go.run (g:=?_))
  refine GoR.call rfl rfl rfl rfl rfl rfl rfl (((pi_spec [] hs _).argA).mono ?_)
  rintro _ H1 ⟨n, e, rfl, he, n0, n1, hp⟩ s1
  (refine Go.run (g:=?_))
  (first|refine Go.finA rfl ?_|refine Go.finB rfl (hq:=?_))
  exact ⟨n, e, rfl, he, n0, n1, hp⟩
 by_cases q2 : s.length < 19
 case neg =>
  have q10 : ¬ s.length < 10 := by omega
  (refine Go.run (g:=?_))
  refine GoR.call rfl rfl rfl rfl rfl rfl rfl (((pi_spec s hs _).argA).mono ?_)
  rintro _ H1 ⟨n, e, rfl, he, n0, n1, hp⟩ s1
  (refine Go.run (g:=?_))
  (first|refine Go.finA rfl ?_|refine Go.finB rfl (hq:=?_))
  exact ⟨n, e, rfl, he, n0, n1, hp⟩
 obtain ⟨c, l, rfl⟩ : ∃ c l, s = c :: l := by
  cases s with
  | nil => simp at q1
  | cons c l => exact ⟨c, l, rfl⟩
 generalize hs' : c :: l = s at *
 have hc0 : s[0]? = some c := by rw [← hs']; rfl
 have hcb := c.toNat_lt
 have hsl : s.length = l.length + 1 := by rw [← hs']; rfl
 (refine Go.run (g:=?_))
 refine GoR.strAtI (zs := s) rfl rfl rfl rfl rfl rfl (by decide) hc0 ?_
 by_cases c45 : c.toNat = 45
 case pos =>
  obtain rfl : c = 45 := UInt8.toNat_inj.1 c45
  have hP : ∀ m, numP s = some m → l.all isD = true ∧ m = -(val l : Int) := fun m hm => by
   rw [← hs'] at hm
   obtain ⟨x1, x2, x3, x4⟩ := numP_neg hm
   exact ⟨x1, x4⟩
  (refine Go.run (g:=?_))
  refine GoR.strLo (zs := s) (l := 1) rfl rfl rfl rfl rfl rfl (by omega) ?_
  rw [show s.drop 1 = l from by rw [← hs']; rfl]
  by_cases ql : l.length < 1
  case pos =>
   obtain rfl : l = [] := List.length_eq_zero_iff.1 (by omega)
   (refine Go.run (g:=?_))
   refine GoR.mkIf rfl rfl rfl rfl rfl Tryd.underlying120 (fun _ h => by cases h) ?_
   (refine Go.run (g:=?_))
   (first|refine Go.finA rfl ?_|refine Go.finB rfl (hq:=?_))
   exact ⟨0, 2, rfl, .inr (.inr rfl), by decide, by decide, fun m hm => by rw [← hs'] at hm; simp [numP, cdB] at hm⟩
  have htl : l.length ≤ 18 := by omega
  (refine Go.run (g:=?_))
  refine GoR.convBytes rfl rfl rfl rfl rfl (aBytes_str l) ?_
  refine GoR.name ?_
  intro H1 e1
  have R1 : Rv Tryd.prog H1 1 (some ⟨h.n, 0, none⟩) l.length l.length (l.map bv) := by
   have : Sv H1 5 1 (some ⟨h.n, 0, none⟩) l.length l.length (l.map bv) := by rw [e1]; exact Sv.new h _ _ (by simp)
   exact this.rv
  clear e1
  (refine Go.run (g:=?_))
  refine Go.loop (α := Nat × Nat) (fun x => [(5, stv s), (6, .int .i64 (x.2 : Nat)), (47, .slice (some ⟨h.n, 0, none⟩) l.length l.length), (48, .int .i64 (l.length : Nat)), (49, .int .i64 (x.1 : Nat))]) (fun _ => []) (fun _ => H1) (fun x => x.1 ≤ l.length ∧ (l.take x.1).all isD = true ∧ x.2 = val (l.take x.1)) (fun x => l.length - x.1) (0, 0) ⟨Nat.zero_le _, by simp, by simp [val]⟩ ⟨rfl, rfl, rfl, rfl, rfl, trivial⟩ rfl rfl ?_
  rintro ⟨i, n⟩ ⟨h1, h2, h3⟩
  simp only at h1 h2 h3 ⊢
  have hvl := val_lt _ h2
  rw [← h3] at hvl
  have hpw : 10 ^ (l.take i).length ≤ 10 ^ 18 := Nat.pow_le_pow_right (by decide) (by rw [List.length_take]; omega)
  have hn18 : n < 1000000000000000000 := Nat.lt_of_lt_of_le hvl hpw
  clear hpw
  rcases Nat.lt_or_ge i l.length with hi | hi
  case inl =>
   have hn17 : n < 10 ^ 17 := Nat.lt_of_lt_of_le hvl (Nat.pow_le_pow_right (by decide) (by rw [List.length_take]; omega))
   have hn17 : n < 100000000000000000 := hn17
   clear hvl
   obtain ⟨z, hz⟩ : ∃ z, l[i]? = some z := ⟨_, List.getElem?_eq_getElem hi⟩
   have hzb := z.toNat_lt
   have hts := take_snoc hz
   have hzm : (l.map bv)[i]? = some (.int .u8 (z.toNat : Nat)) := by rw [List.getElem?_map, hz]; rfl
   have hno' : isD z = false → l.all isD = false := fun hd => by
    rw [← List.take_append_drop (i + 1) l, List.all_append, hts, List.all_append]
    simp [hd]
   by_cases d1 : 48 ≤ z.toNat
   case neg =>
    have hno := hno' (by simp [isD]; omega)
    (refine Go.run (g:=?_))
    refine GoR.binE _ rfl rfl rfl rfl rfl rfl (sub48 (by omega)) ?_
    (refine Go.run (g:=?_))
    refine GoR.mkIf rfl rfl rfl rfl rfl Tryd.underlying120 (fun _ h => by cases h) ?_
    (refine Go.run (g:=?_))
    (first|refine Go.finA rfl ?_|refine Go.finB rfl (hq:=?_))
    refine ⟨0, 2, rfl, .inr (.inr rfl), by decide, by decide, fun m hm => ?_⟩
    obtain ⟨x1, x2⟩ := hP m hm
    rw [hno] at x1; cases x1
   by_cases d2 : z.toNat ≤ 57
   case neg =>
    have hno := hno' (by simp [isD]; omega)
    (refine Go.run (g:=?_))
    refine GoR.mkIf rfl rfl rfl rfl rfl Tryd.underlying120 (fun _ h => by cases h) ?_
    (refine Go.run (g:=?_))
    (first|refine Go.finA rfl ?_|refine Go.finB rfl (hq:=?_))
    refine ⟨0, 2, rfl, .inr (.inr rfl), by decide, by decide, fun m hm => ?_⟩
    obtain ⟨x1, x2⟩ := hP m hm
    rw [hno] at x1; cases x1
   have hvs := val_snoc (l.take i) z
   rw [← hts, ← h3] at hvs
   have hall : (l.take (i + 1)).all isD = true := by rw [hts, List.all_append, h2]; simp [isD]; omega
   clear hno' hts
   (refine Go.run (g:=?_))
   exact Go.again (i + 1, n * 10 + (z.toNat - 48)) ⟨hi, hall, by show n * 10 + (z.toNat - 48) = _; rw [hvs]; omega⟩ (by show l.length - (i + 1) < l.length - i; omega) ⟨rfl, rfl, rfl, rfl, rfl, trivial⟩ rfl rfl
  clear hvl
  obtain rfl : i = l.length := by omega
  rw [List.take_length] at h2 h3
  (refine Go.run (g:=?_))
  refine GoR.strAtI (zs := s) rfl rfl rfl rfl rfl rfl (by decide) hc0 ?_
  (refine Go.run (g:=?_))
  refine GoR.neg rfl rfl rfl rfl rfl ?_
  have e : IntKind.i64.wrap (0 - (n : Int)) = -(n : Int) := wrapM (by omega)
  rw [e]
  (refine Go.run (g:=?_))
  (first|refine Go.finA rfl ?_|refine Go.finB rfl (hq:=?_))
  exact ⟨-(n : Int), 0, rfl, .inl rfl, by omega, by omega, fun m hm => ⟨rfl, by rw [(hP m hm).2, h3]⟩⟩
 by_cases c43 : c.toNat = 43
 case pos =>
  obtain rfl : c = 43 := UInt8.toNat_inj.1 c43
  have hP : ∀ m, numP s = some m → l.all isD = true ∧ m = -(val l : Int) := fun m hm => by
   rw [← hs', numP_plus] at hm; cases hm
  (refine Go.run (g:=?_))
  refine GoR.strAtI (zs := s) rfl rfl rfl rfl rfl rfl (by decide) hc0 ?_
  (refine Go.run (g:=?_))
  refine GoR.strLo (zs := s) (l := 1) rfl rfl rfl rfl rfl rfl (by omega) ?_
  rw [show s.drop 1 = l from by rw [← hs']; rfl]
  by_cases ql : l.length < 1
  case pos =>
   obtain rfl : l = [] := List.length_eq_zero_iff.1 (by omega)
   (refine Go.run (g:=?_))
   refine GoR.mkIf rfl rfl rfl rfl rfl Tryd.underlying120 (fun _ h => by cases h) ?_
   (refine Go.run (g:=?_))
   (first|refine Go.finA rfl ?_|refine Go.finB rfl (hq:=?_))
   exact ⟨0, 2, rfl, .inr (.inr rfl), by decide, by decide, fun m hm => by rw [← hs', numP_plus] at hm; cases hm⟩
  have htl : l.length ≤ 18 := by omega
  (refine Go.run (g:=?_))
  refine GoR.convBytes rfl rfl rfl rfl rfl (aBytes_str l) ?_
  refine GoR.name ?_
  intro H1 e1
  have R1 : Rv Tryd.prog H1 1 (some ⟨h.n, 0, none⟩) l.length l.length (l.map bv) := by
   have : Sv H1 5 1 (some ⟨h.n, 0, none⟩) l.length l.length (l.map bv) := by rw [e1]; exact Sv.new h _ _ (by simp)
   exact this.rv
  clear e1
  (refine Go.run (g:=?_))
  refine Go.loop (α := Nat × Nat) (fun x => [(5, stv s), (6, .int .i64 (x.2 : Nat)), (47, .slice (some ⟨h.n, 0, none⟩) l.length l.length), (48, .int .i64 (l.length : Nat)), (49, .int .i64 (x.1 : Nat))]) (fun _ => []) (fun _ => H1) (fun x => x.1 ≤ l.length ∧ (l.take x.1).all isD = true ∧ x.2 = val (l.take x.1)) (fun x => l.length - x.1) (0, 0) ⟨Nat.zero_le _, by simp, by simp [val]⟩ ⟨rfl, rfl, rfl, rfl, rfl, trivial⟩ rfl rfl ?_
  rintro ⟨i, n⟩ ⟨h1, h2, h3⟩
  simp only at h1 h2 h3 ⊢
  have hvl := val_lt _ h2
  rw [← h3] at hvl
  have hpw : 10 ^ (l.take i).length ≤ 10 ^ 18 := Nat.pow_le_pow_right (by decide) (by rw [List.length_take]; omega)
  have hn18 : n < 1000000000000000000 := Nat.lt_of_lt_of_le hvl hpw
  clear hpw
  rcases Nat.lt_or_ge i l.length with hi | hi
  case inl =>
   have hn17 : n < 10 ^ 17 := Nat.lt_of_lt_of_le hvl (Nat.pow_le_pow_right (by decide) (by rw [List.length_take]; omega))
   have hn17 : n < 100000000000000000 := hn17
   clear hvl
   obtain ⟨z, hz⟩ : ∃ z, l[i]? = some z := ⟨_, List.getElem?_eq_getElem hi⟩
   have hzb := z.toNat_lt
   have hts := take_snoc hz
   have hzm : (l.map bv)[i]? = some (.int .u8 (z.toNat : Nat)) := by rw [List.getElem?_map, hz]; rfl
   have hno' : isD z = false → l.all isD = false := fun hd => by
    rw [← List.take_append_drop (i + 1) l, List.all_append, hts, List.all_append]
    simp [hd]
   by_cases d1 : 48 ≤ z.toNat
   case neg =>
    have hno := hno' (by simp [isD]; omega)
    (refine Go.run (g:=?_))
    refine GoR.binE _ rfl rfl rfl rfl rfl rfl (sub48 (by omega)) ?_
    (refine Go.run (g:=?_))
    refine GoR.mkIf rfl rfl rfl rfl rfl Tryd.underlying120 (fun _ h => by cases h) ?_
    (refine Go.run (g:=?_))
    (first|refine Go.finA rfl ?_|refine Go.finB rfl (hq:=?_))
    refine ⟨0, 2, rfl, .inr (.inr rfl), by decide, by decide, fun m hm => ?_⟩
    obtain ⟨x1, x2⟩ := hP m hm
    rw [hno] at x1; cases x1
   by_cases d2 : z.toNat ≤ 57
   case neg =>
    have hno := hno' (by simp [isD]; omega)
    (refine Go.run (g:=?_))
    refine GoR.mkIf rfl rfl rfl rfl rfl Tryd.underlying120 (fun _ h => by cases h) ?_
    (refine Go.run (g:=?_))
    (first|refine Go.finA rfl ?_|refine Go.finB rfl (hq:=?_))
    refine ⟨0, 2, rfl, .inr (.inr rfl), by decide, by decide, fun m hm => ?_⟩
    obtain ⟨x1, x2⟩ := hP m hm
    rw [hno] at x1; cases x1
   have hvs := val_snoc (l.take i) z
   rw [← hts, ← h3] at hvs
   have hall : (l.take (i + 1)).all isD = true := by rw [hts, List.all_append, h2]; simp [isD]; omega
   clear hno' hts
   (refine Go.run (g:=?_))
   exact Go.again (i + 1, n * 10 + (z.toNat - 48)) ⟨hi, hall, by show n * 10 + (z.toNat - 48) = _; rw [hvs]; omega⟩ (by show l.length - (i + 1) < l.length - i; omega) ⟨rfl, rfl, rfl, rfl, rfl, trivial⟩ rfl rfl
  clear hvl
  obtain rfl : i = l.length := by omega
  rw [List.take_length] at h2 h3
  (refine Go.run (g:=?_))
  refine GoR.strAtI (zs := s) rfl rfl rfl rfl rfl rfl (by decide) hc0 ?_
  (refine Go.run (g:=?_))
  (first|refine Go.finA rfl ?_|refine Go.finB rfl (hq:=?_))
  exact ⟨n, 0, rfl, .inl rfl, by omega, by omega, fun m hm => by rw [← hs', numP_plus] at hm; cases hm⟩
 have hc45 : c ≠ 45 := fun e => c45 (by rw [e]; rfl)
 have hP : ∀ m, numP s = some m → s.all isD = true ∧ m = (val s : Int) := fun m hm => by
  rw [← hs'] at hm ⊢
  obtain ⟨x1, x2, x3⟩ := numP_pos hc45 hm
  exact ⟨x1, x3⟩
 (refine Go.run (g:=?_))
 refine GoR.strAtI (zs := s) rfl rfl rfl rfl rfl rfl (by decide) hc0 ?_
 (refine Go.run (g:=?_))
 refine GoR.convBytes rfl rfl rfl rfl rfl (aBytes_str s) ?_
 refine GoR.name ?_
 intro H1 e1
 have R1 : Rv Tryd.prog H1 1 (some ⟨h.n, 0, none⟩) s.length s.length (s.map bv) := by
  have : Sv H1 5 1 (some ⟨h.n, 0, none⟩) s.length s.length (s.map bv) := by rw [e1]; exact Sv.new h _ _ (by simp)
  exact this.rv
 clear e1
 (refine Go.run (g:=?_))
 refine Go.loop (α := Nat × Nat) (fun x => [(5, stv s), (6, .int .i64 (x.2 : Nat)), (47, .slice (some ⟨h.n, 0, none⟩) s.length s.length), (48, .int .i64 (s.length : Nat)), (49, .int .i64 (x.1 : Nat))]) (fun _ => []) (fun _ => H1) (fun x => x.1 ≤ s.length ∧ (s.take x.1).all isD = true ∧ x.2 = val (s.take x.1)) (fun x => s.length - x.1) (0, 0) ⟨Nat.zero_le _, by simp, by simp [val]⟩ ⟨rfl, rfl, rfl, rfl, rfl, trivial⟩ rfl rfl ?_
 rintro ⟨i, n⟩ ⟨h1, h2, h3⟩
 simp only at h1 h2 h3 ⊢
 have hvl := val_lt _ h2
 rw [← h3] at hvl
 have hpw : 10 ^ (s.take i).length ≤ 10 ^ 18 := Nat.pow_le_pow_right (by decide) (by rw [List.length_take]; omega)
 have hn18 : n < 1000000000000000000 := Nat.lt_of_lt_of_le hvl hpw
 clear hpw
 rcases Nat.lt_or_ge i s.length with hi | hi
 case inl =>
  have hn17 : n < 10 ^ 17 := Nat.lt_of_lt_of_le hvl (Nat.pow_le_pow_right (by decide) (by rw [List.length_take]; omega))
  have hn17 : n < 100000000000000000 := hn17
  clear hvl
  obtain ⟨z, hz⟩ : ∃ z, s[i]? = some z := ⟨_, List.getElem?_eq_getElem hi⟩
  have hzb := z.toNat_lt
  have hts := take_snoc hz
  have hzm : (s.map bv)[i]? = some (.int .u8 (z.toNat : Nat)) := by rw [List.getElem?_map, hz]; rfl
  have hno' : isD z = false → s.all isD = false := fun hd => by
   rw [← List.take_append_drop (i + 1) s, List.all_append, hts, List.all_append]
   simp [hd]
  by_cases d1 : 48 ≤ z.toNat
  case neg =>
   have hno := hno' (by simp [isD]; omega)
   (refine Go.run (g:=?_))
   refine GoR.binE _ rfl rfl rfl rfl rfl rfl (sub48 (by omega)) ?_
   (refine Go.run (g:=?_))
   refine GoR.mkIf rfl rfl rfl rfl rfl Tryd.underlying120 (fun _ h => by cases h) ?_
   (refine Go.run (g:=?_))
   (first|refine Go.finA rfl ?_|refine Go.finB rfl (hq:=?_))
   refine ⟨0, 2, rfl, .inr (.inr rfl), by decide, by decide, fun m hm => ?_⟩
   obtain ⟨x1, x2⟩ := hP m hm
   rw [hno] at x1; cases x1
  by_cases d2 : z.toNat ≤ 57
  case neg =>
   have hno := hno' (by simp [isD]; omega)
   (refine Go.run (g:=?_))
   refine GoR.mkIf rfl rfl rfl rfl rfl Tryd.underlying120 (fun _ h => by cases h) ?_
   (refine Go.run (g:=?_))
   (first|refine Go.finA rfl ?_|refine Go.finB rfl (hq:=?_))
   refine ⟨0, 2, rfl, .inr (.inr rfl), by decide, by decide, fun m hm => ?_⟩
   obtain ⟨x1, x2⟩ := hP m hm
   rw [hno] at x1; cases x1
  have hvs := val_snoc (s.take i) z
  rw [← hts, ← h3] at hvs
  have hall : (s.take (i + 1)).all isD = true := by rw [hts, List.all_append, h2]; simp [isD]; omega
  clear hno' hts
  (refine Go.run (g:=?_))
  exact Go.again (i + 1, n * 10 + (z.toNat - 48)) ⟨hi, hall, by show n * 10 + (z.toNat - 48) = _; rw [hvs]; omega⟩ (by show s.length - (i + 1) < s.length - i; omega) ⟨rfl, rfl, rfl, rfl, rfl, trivial⟩ rfl rfl
 clear hvl
 obtain rfl : i = s.length := by omega
 rw [List.take_length] at h2 h3
 (refine Go.run (g:=?_))
 refine GoR.strAtI (zs := s) rfl rfl rfl rfl rfl rfl (by decide) hc0 ?_
 (refine Go.run (g:=?_))
 (first|refine Go.finA rfl ?_|refine Go.finB rfl (hq:=?_))
 exact ⟨n, 0, rfl, .inl rfl, by omega, by omega, fun m hm => ⟨rfl, by rw [(hP m hm).2, h3]⟩⟩
end Go.Proofs.YtncbbeghkpjpbaaDoor
namespace Go.Proofs.YtncbbeghkpjpbaaDoor
open Go.RowKit
set_option maxRecDepth 100000
attribute [local irreducible] Go GoR GoL
def errC (b : Nat) : List Value := [.iface 154 (.pointer (some ⟨b, 0, none⟩))]
def GE : AHeap := AHeap.put (AHeap.put (AHeap.put ⟨10, .nil⟩ 1 (some (.ro pow10L))) 5 (some (.ro (errC 8)))) 4 (some (.ro (errC 9)))
theorem Holds.err {h : AHeap} (k : Holds GE h) : h.get 5 = some (.ro (errC 8)) ∧ h.get 4 = some (.ro (errC 9)) := ⟨k.2 _ _ (by unfold GE; rw [AHeap.get_put, if_neg (by decide), AHeap.get_put, if_pos rfl, if_pos (by decide)]), k.2 _ _ (by unfold GE; rw [AHeap.get_put, if_pos rfl, if_pos (by decide)])⟩
theorem Holds.gh {h : AHeap} (k : Holds GE h) : Holds GH h := ⟨Nat.le_trans (by decide) k.1, fun i o e => by
 obtain ⟨rfl, rfl⟩ := GH_get i o e
 exact k.2 _ _ (by unfold GE; rw [AHeap.get_put, if_neg (by decide), AHeap.get_put, if_neg (by decide), AHeap.get_put, if_pos rfl, if_pos (by decide)])⟩
theorem GoR.unsafeStr {P : Program} {W : Nat → Prop} {q : Bool} {N : Nat} {k : List It} {ov : Ov} {df : List Nat} {h : AHeap} {Q : PQ} {ops : Array Oper} {os : List Oper} {o : Oper} {d : Nat} {p x : Operand} {pt it e : TypeId} {b off : Nat} {c : List Value} {zs : List UInt8} (ho : o.op = .call ⟨.builtin .unsafeString, #[p, x], #[pt, it]⟩) (hdd : o.dst = some d) (hN : dOk d N = true) (hgd : o.guard = none) (hp : P.underlying pt = some (.pointer e)) (hc1 : P.cellsOf e = 1) (hx : evO ov p = some (.pointer (some ⟨b, off, none⟩))) (hn : evO ov x = some (.int .i64 (zs.length : Nat))) (hg : h.get b = some (.cells c e)) (h0 : 0 < zs.length) (h63 : zs.length < 9223372036854775808) (hof : off + zs.length ≤ c.length) (hz : (c.drop off).take zs.length = zs.map bv) (hW : W b) (g : GoR P W q N ops true os k ((d, .string ⟨zs.toArray⟩) :: ov) df (h.put b none) Q) : GoR P W q N ops true (o :: os) k ov df h Q :=
 GoR.step (r := ⟨.string ⟨zs.toArray⟩, h.put b none, [b], [b], false, false⟩) hgd hdd hN (fun tm hr => .write fun D W hD hW => OpRun.unsafeStr ho hp hc1 (evO_eq hr hx) (evO_eq hr hn) hg h0 h63 hof hz (hD b (by simp)) (hW b (by simp)).2) (.inl rfl) (fun i hi => by simp at hi; subst hi; exact hW) g
theorem aCopy_str {h : AHeap} {b : Nat} {zs : List UInt8} {c : List Value} (hg : h.get b = some (.cells c 5)) (hc : c.length = zs.length) (h0 : 0 < zs.length) : aCopy Tryd.prog h 31 (.slice (some ⟨b, 0, none⟩) zs.length zs.length) (stv zs) = some (zs.length, h.put b (some (.cells (zs.map bv) 5)), [b], [b]) := by
 unfold aCopy stv
 rw [Tryd.underlying31]
 have hs : sizeT Tryd.prog 5 = some 1 := by kernel_rfl
 have hz : (⟨zs.toArray⟩ : ByteArray).size = zs.length := by simp [ByteArray.size]
 have hm : Nat.min zs.length zs.length = zs.length := Nat.min_self _
 simp only [hs, lenV, hz, hm, aSrc, List.take_length, hg]
 have e1 : (zs.map fun b => Value.int .u8 (b.toNat : Nat)) = zs.map bv := rfl
 rw [e1, if_neg (by cases zs <;> simp_all), if_pos ⟨by simp [hc], by simp [bv, Value.oneCell']⟩]
 congr
 simp [setL, hc]
set_option maxHeartbeats 8000000 in
theorem sclone_spec (s : List UInt8) (hs : s.length ≤ 10000000) (h : AHeap) : CallS Tryd.prog [] 94 [stv s] h fun v h' => v = stv s := by
 (refine CallS.of1 Tryd.func94 rfl Tryd.ntmps94 Tryd.results94 rfl ?_)
 rcases Nat.eq_zero_or_pos s.length with h0 | h0
 ·
  obtain rfl : s = [] := List.length_eq_zero_iff.1 h0
  (refine Go.run (g:=?_))
  (first|refine Go.finA rfl ?_|refine Go.finB rfl (hq:=?_))
  rfl
 (refine Go.run (g:=?_))
 refine GoR.makeN (bytes := 1) (l := s.length) (c := s.length) rfl rfl rfl rfl rfl rfl (Nat.le_refl _) (by omega) (by omega) ?_
 refine GoR.name ?_
 intro H1 e1
 have g1 : H1.get h.n = some (.cells (List.replicate s.length (.int .u8 0)) 5) := by rw [e1]; exact AHeap.get_push_same _ _
 have s1 : Same h H1 := by rw [e1]; exact (Same.refl h).push _
 have n1 : H1.n = h.n + 1 := by rw [e1]; rfl
 clear e1
 (refine Go.run (g:=?_))
 refine GoR.copy rfl rfl rfl rfl rfl rfl (aCopy_str g1 (by simp) h0) (fun i hi => .inr (by simp at hi; omega)) ?_
 have S2 : Sv (H1.put h.n (some (.cells (s.map bv) 5))) 5 1 (some ⟨h.n, 0, none⟩) s.length s.length (s.map bv) := .mk (c := s.map bv) (AHeap.get_put_same _ (AHeap.lt g1) _) (by simp) (Nat.le_refl _) (by rw [List.drop_zero, List.take_of_length_le (by simp)])
 have R2 := S2.rv (P := Tryd.prog)
 (refine Go.run (g:=?_))
 refine GoR.unsafeStr (e := 5) (zs := s) rfl rfl rfl rfl (by kernel_rfl) (by kernel_rfl) rfl rfl (AHeap.get_put_same _ (AHeap.lt g1) _) h0 (by omega) (by simp) (by rw [List.drop_zero, List.take_of_length_le (by simp)]) (.inr (Nat.le_refl _)) ?_
 (refine Go.run (g:=?_))
 (first|refine Go.finA rfl ?_|refine Go.finB rfl (hq:=?_))
 rfl
set_option maxHeartbeats 8000000 in
theorem synErr_spec (fn s : List UInt8) (hs : s.length ≤ 10000000) (h : AHeap) (hG : Holds GE h) : CallS Tryd.prog [] 76 [stv fn, stv s] h fun v h' => ∃ b, v = .pointer (some ⟨b, 0, none⟩) := by
 have hg := hG.err.2
 (refine CallS.of2 Tryd.func76 rfl Tryd.ntmps76 Tryd.results76 rfl ?_)
 (refine Go.run (g:=?_))
 refine GoR.call rfl rfl rfl rfl rfl rfl rfl (((sclone_spec s hs _).argA).mono ?_)
 rintro _ H1 rfl s1
 have r1 : Rv Tryd.prog H1 1 (some ⟨4, 0, none⟩) 1 1 (errC 9) := .mk (.inr (s1.get hg)) (by decide) (Nat.le_refl _) rfl
 (refine Go.run (g:=?_))
 refine GoR.loadV (a := some ⟨4, 0, none⟩) (kv := 0) rfl rfl rfl rfl rfl r1 rfl ?_
 (refine Go.run (g:=?_))
 (first|refine Go.finA rfl ?_|refine Go.finB rfl (hq:=?_))
 exact ⟨_, rfl⟩
set_option maxHeartbeats 8000000 in
theorem rngErr_spec (fn s : List UInt8) (hs : s.length ≤ 10000000) (h : AHeap) (hG : Holds GE h) : CallS Tryd.prog [] 77 [stv fn, stv s] h fun v h' => ∃ b, v = .pointer (some ⟨b, 0, none⟩) := by
 have hg := hG.err.1
 (refine CallS.of2 Tryd.func77 rfl Tryd.ntmps77 Tryd.results77 rfl ?_)
 (refine Go.run (g:=?_))
 refine GoR.call rfl rfl rfl rfl rfl rfl rfl (((sclone_spec s hs _).argA).mono ?_)
 rintro _ H1 rfl s1
 have r1 : Rv Tryd.prog H1 1 (some ⟨5, 0, none⟩) 1 1 (errC 8) := .mk (.inr (s1.get hg)) (by decide) (Nat.le_refl _) rfl
 (refine Go.run (g:=?_))
 refine GoR.loadV (a := some ⟨5, 0, none⟩) (kv := 0) rfl rfl rfl rfl rfl r1 rfl ?_
 (refine Go.run (g:=?_))
 (first|refine Go.finA rfl ?_|refine Go.finB rfl (hq:=?_))
 exact ⟨_, rfl⟩
set_option maxHeartbeats 8000000 in
theorem toErr_spec (fn s : List UInt8) (e : Nat) (he : e = 1 ∨ e = 2) (hs : s.length ≤ 10000000) (h : AHeap) (hG : Holds GE h) : CallS Tryd.prog [] 64 [stv fn, stv s, .int .i64 0, .int .i64 0, eV e] h fun v h' => IfV v true := by
 (refine CallS.of5 Tryd.func64 rfl Tryd.ntmps64 Tryd.results64 rfl ?_)
 rcases he with rfl | rfl
 ·
  (refine Go.run (g:=?_))
  refine GoR.mkIf rfl rfl rfl rfl rfl Tryd.underlying120 (fun _ h => by cases h) ?_
  refine GoR.ifInt rfl rfl rfl rfl (.inl rfl) rfl rfl Tryd.underlying91 (by kernel_rfl) Tryd.underlying120 ?_
  (refine Go.run (g:=?_))
  refine GoR.mkIf rfl rfl rfl rfl rfl Tryd.underlying120 (fun _ h => by cases h) ?_
  refine GoR.ifInt rfl rfl rfl rfl (.inl rfl) rfl rfl Tryd.underlying91 (by kernel_rfl) Tryd.underlying120 ?_
  (refine Go.run (g:=?_))
  refine GoR.call rfl rfl rfl rfl rfl rfl rfl (((rngErr_spec fn s hs _ hG).argA).mono ?_)
  rintro _ H1 ⟨b, rfl⟩ s1
  (refine Go.run (g:=?_))
  refine GoR.mkIf rfl rfl rfl rfl rfl Tryd.underlying123 (fun _ h => by cases h) ?_
  (refine Go.run (g:=?_))
  (first|refine Go.finA rfl ?_|refine Go.finB rfl (hq:=?_))
  exact .inr ⟨_, _, rfl, rfl⟩
 ·
  (refine Go.run (g:=?_))
  refine GoR.mkIf rfl rfl rfl rfl rfl Tryd.underlying120 (fun _ h => by cases h) ?_
  refine GoR.ifInt rfl rfl rfl rfl (.inl rfl) rfl rfl Tryd.underlying91 (by kernel_rfl) Tryd.underlying120 ?_
  (refine Go.run (g:=?_))
  refine GoR.call rfl rfl rfl rfl rfl rfl rfl (((synErr_spec fn s hs _ hG).argA).mono ?_)
  rintro _ H1 ⟨b, rfl⟩ s1
  (refine Go.run (g:=?_))
  refine GoR.mkIf rfl rfl rfl rfl rfl Tryd.underlying123 (fun _ h => by cases h) ?_
  (refine Go.run (g:=?_))
  (first|refine Go.finA rfl ?_|refine Go.finB rfl (hq:=?_))
  exact .inr ⟨_, _, rfl, rfl⟩
def AtPost (s : List UInt8) (v : Value) : Prop := ∃ (n : Int) (u : Value) (b : Bool), v = .tuple #[.int .i64 n, u] ∧ IfV u b ∧ -9223372036854775808 ≤ n ∧ n < 9223372036854775808 ∧ ∀ m, numP s = some m → b = false ∧ n = m
set_option maxHeartbeats 8000000 in
theorem atoi_spec (s : List UInt8) (hs : s.length ≤ 10000000) (h : AHeap) (hG : Holds GE h) : CallS Tryd.prog [] 46 [stv s] h fun v h' => AtPost s v := by
 (refine CallS.of1 Tryd.func46 rfl Tryd.ntmps46 Tryd.results46 rfl ?_)
 (refine Go.run (g:=?_))
 refine GoR.call rfl rfl rfl rfl rfl rfl rfl (((atoi0_spec s hs _).argA).mono ?_)
 rintro _ H1 ⟨n, e, rfl, he, n0, n1, hp⟩ s1
 rcases he with rfl | he
 ·
  (refine Go.run (g:=?_))
  refine GoR.ifNil rfl rfl rfl rfl rfl (eV_if 0 (.inl rfl)) Tryd.underlying91 ?_
  (refine Go.run (g:=?_))
  (first|refine Go.finA rfl ?_|refine Go.finB rfl (hq:=?_))
  exact ⟨n, .nilIface, false, rfl, .inl ⟨rfl, rfl⟩, n0, n1, fun m hm => ⟨rfl, (hp m hm).2⟩⟩
 ·
  have hne : decide (e ≠ 0) = true := decide_eq_true (by omega)
  (refine Go.run (g:=?_))
  refine GoR.ifNil rfl rfl rfl rfl rfl (eV_if e (.inr he)) Tryd.underlying91 ?_
  (refine Go.run (g:=?_))
  refine GoR.call rfl rfl rfl rfl rfl rfl rfl (((toErr_spec _ s e he hs _ (hG.same s1)).argA).mono ?_)
  rintro u H2 hu s2
  (refine Go.run (g:=?_))
  (first|refine Go.finA rfl ?_|refine Go.finB rfl (hq:=?_))
  exact ⟨n, u, true, rfl, hu, n0, n1, fun m hm => by have := (hp m hm).1; omega⟩
end Go.Proofs.YtncbbeghkpjpbaaDoor
namespace Go.Proofs.YtncbbeghkpjpbaaDoor
open Go.RowKit
set_option maxRecDepth 100000
attribute [local irreducible] Go GoR GoL
theorem CallS.knownGA {P : Program} {G : AHeap} (hfl : FlatRo G) (hs : P.globals.size ≤ G.n) {f : FuncId} {args : List Value} (hfa : ∀ x ∈ args, flatB x = true) {v : Value} {W' : Nat → Prop} {h' : AHeap} (k : CallRun P W' f args.toArray G v h') (hv : flatB v = true) (h : AHeap) (hG : Holds G h) : CallS P [] f args h fun u h' => u = v ∧ h' = h := by
 refine ⟨v, h, ⟨.refl _ _, fun m w args' hm hf har hh => ?_⟩, rfl, rfl⟩
 obtain rfl : args' = args.toArray := by
  apply Array.ext
  · exact har.1.symm
  ·
   intro i h1 h2
   exact VRel.eq_of_flat (har.2 i _ _ (Array.getElem?_eq_getElem h2) (Array.getElem?_eq_getElem h1)) (hfa _ (by simp))
 have live : ∀ i, ¬ G.live i := fun i ⟨o, e, ho⟩ => by obtain ⟨c, rfl, _⟩ := hfl i o e; cases ho
 obtain ⟨m₁, hm₁⟩ : ∃ m₁ : Mp, m₁ = fun i => if i < G.n then m i else none := ⟨_, rfl⟩
 have e2 : ∀ i l, m₁ i = some l → i < G.n ∧ m i = some l := fun i l e => by
  rw [hm₁] at e
  by_cases q : i < G.n
  · simp [q] at e; exact ⟨q, e⟩
  · simp [q] at e
 have hr := k.run m₁ w args.toArray (fun g hg => by
  obtain ⟨l, a, b⟩ := hm g hg
  exact ⟨l, by rw [hm₁]; simp [show g < G.n by omega, a], b⟩) (fun i h1 h2 => by rw [hm₁]; exact if_neg (by omega)) ⟨rfl, fun i u u' e e' => by
   rw [e] at e'
   obtain rfl := Option.some.inj e'
   exact VRel.flat _ (hfa _ (by have := Array.mem_of_getElem? e; simpa using this))⟩ ?_
 ·
  refine hr.mono ?_
  rintro e w' ⟨v', m', rfl, hF, hV, _⟩
  have keep : ∀ b, b < w.heap.size → w'.heap[b]? = w.heap[b]? := fun b hb => hF.keep b hb fun j k hj _ hl => absurd hl (live j)
  refine ⟨v', m, rfl, ⟨fun _ _ => rfl, fun i l a b _ => by omega, fun b hb _ => keep b hb, hF.size, hF.os, hF.tape, hF.output⟩, ?_, ?_⟩
  · rw [VRel.eq_of_flat hV hv]; exact .flat m hv
  ·
   exact {
       lt := fun i l e => Nat.lt_of_lt_of_le (hh.lt i l e) hF.size
       typ := hh.typ
       inj := hh.inj
       roS := hh.roS
       obj := fun i l o hd e g => by
        obtain ⟨o', a, b⟩ := hh.obj i l o hd e g
        exact ⟨o', by rw [keep l.b (hh.lt i l e)]; exact a, b⟩ }
 ·
  refine ⟨fun i l e => hh.lt _ l (e2 i l e).2, fun i l c t e g => ?_, fun i j l k e e' _ hl _ => absurd hl (live j), fun i l c e g => hh.roS _ l c (e2 i l e).2 (hG.2 i _ g), fun i l o _ e g => ?_⟩
  · obtain ⟨c', e', _⟩ := hfl i _ g; cases e'
  ·
   obtain ⟨c, rfl, hc⟩ := hfl i _ g
   obtain ⟨o', a, b⟩ := hh.obj i l _ trivial (e2 i l e).2 (hG.2 i _ g)
   refine ⟨o', a, ?_⟩
   cases b with
   | ro hs hv =>
    refine .ro hs fun j u e => ?_
    obtain ⟨u', x, y⟩ := hv j u e
    have fu := hc u (List.mem_of_getElem? e)
    rw [VRel.eq_of_flat y fu] at x
    exact ⟨u, x, VRel.flat m₁ fu⟩
abbrev hexW : List UInt8 := [48, 49, 50, 51, 52, 53, 54, 55, 56, 57, 97, 98, 99, 100, 101, 102]
def isXn (c : Nat) : Bool := (decide (48 ≤ c) && decide (c ≤ 57)) || (decide (97 ≤ c) && decide (c ≤ 102))
def isX (c : UInt8) : Bool := decide (0 ≤ hxV c)
theorem isX_n (c : UInt8) : isXn c.toNat = isX c := by
 unfold isXn isX hxV
 generalize c.toNat = n
 by_cases h1 : 48 ≤ n ∧ n ≤ 57
 ·
  rw [if_pos h1]
  have e : decide (0 ≤ (n : Int) - 48) = true := decide_eq_true (by omega)
  rw [e, decide_eq_true h1.1, decide_eq_true h1.2]; simp
 ·
  rw [if_neg h1]
  by_cases h2 : 97 ≤ n ∧ n ≤ 102
  ·
   rw [if_pos h2]
   have e : decide (0 ≤ (n : Int) - 87) = true := decide_eq_true (by omega)
   rw [e, decide_eq_true h2.1, decide_eq_true h2.2]; simp
  ·
   rw [if_neg h2]
   have e1 : (decide (48 ≤ n) && decide (n ≤ 57)) = false := by simp; omega
   have e2 : (decide (97 ≤ n) && decide (n ≤ 102)) = false := by simp; omega
   rw [e1, e2]; rfl
def setC : List Value := (List.range 256).map fun c => .bool (isXn c)
def setV : Value := .tuple #[.agg setC.toArray, .bool true]
theorem asetRun : callK (A := Value) Tryd.prog strOn (fev Tryd.prog strOn 5000) 82 [stv hexW] GH someV = some setV := by kernel_rfl
theorem aset_spec (h : AHeap) (hG : Holds GH h) : CallS Tryd.prog [] 82 [stv hexW] h fun v h' => v = setV ∧ h' = h := by
 obtain ⟨v, h', wr, hc, he⟩ := callRun_of strOn_ok asetRun
 obtain rfl : v = setV := Option.some.inj he
 exact CallS.knownGA GH_flat GH_size (fun x hx => by obtain rfl := List.mem_singleton.1 hx; rfl) hc (by kernel_rfl) h hG
theorem setC_len : setC.length = 256 := by simp [setC]
theorem setC_at {c : Nat} (h : c < 256) : setC[c]? = some (.bool (isXn c)) := by
 unfold setC
 rw [List.getElem?_map, List.getElem?_range h]
 rfl
theorem has_spec (n : Nat) (c : UInt8) (h : AHeap) (hg : h.get n = some (.cells setC 128)) : CallS Tryd.prog [] 96 [.pointer (some ⟨n, 0, none⟩), .int .u8 (c.toNat : Nat)] h fun v h' => v = .bool (isX c) ∧ h' = h := by
 have hc := c.toNat_lt
 rw [← isX_n]
 generalize c.toNat = k at *
 (refine CallS.of2 Tryd.func96 rfl Tryd.ntmps96 Tryd.results96 rfl ?_)
 have hv := setC_at hc
 (refine Go.run (g:=?_))
 rw [show 0 + ((k : Nat) : Int).toNat * 1 = k from by simp]
 (refine Go.run (g:=?_))
 (first|refine Go.finA rfl ?_|refine Go.finB rfl (hq:=?_))
 exact ⟨rfl, rfl⟩
theorem all_take_drop {w : List UInt8} {i : Nat} {z : UInt8} (hz : w[i]? = some z) : (w.drop i).all isX = (isX z && (w.drop (i + 1)).all isX) := by
 obtain ⟨hi, rfl⟩ := List.getElem?_eq_some_iff.1 hz
 rw [List.drop_eq_getElem_cons hi, List.all_cons]
set_option maxHeartbeats 8000000 in
theorem trimR_spec (n : Nat) (w : List UInt8) (hw : w.length ≤ 10000000) (h : AHeap) (hg : h.get n = some (.cells setC 128)) : CallS Tryd.prog [] 84 [stv w, .pointer (some ⟨n, 0, none⟩)] h fun v h' => h' = h ∧ ∃ j, v = stv (w.take j) ∧ j ≤ w.length ∧ (w.drop j).all isX = true ∧ ∀ i z, j = i + 1 → w[i]? = some z → isX z = false := by
 (refine CallS.of2 Tryd.func84 rfl Tryd.ntmps84 Tryd.results84 rfl ?_)
 (refine Go.run (g:=?_))
 refine Go.loop (α := Nat) (fun x => [(0, stv (w.take x)), (1, .pointer (some ⟨n, 0, none⟩))]) (fun _ => []) (fun _ => h) (fun x => x ≤ w.length ∧ (w.drop x).all isX = true) (fun x => x) w.length ⟨Nat.le_refl _, by simp⟩ ⟨by rw [List.take_length]; rfl, rfl, trivial⟩ rfl rfl ?_
 rintro j ⟨h1, h2⟩
 have hl : (w.take j).length = j := by rw [List.length_take]; omega
 cases j with
 | zero =>
  (refine Go.run (g:=?_))
  (first|refine Go.finA rfl ?_|refine Go.finB rfl (hq:=?_))
  exact ⟨rfl, 0, rfl, h1, h2, fun i z e => by omega⟩
 | succ i =>
  obtain ⟨z, hz⟩ : ∃ z, w[i]? = some z := ⟨_, List.getElem?_eq_getElem (by omega)⟩
  obtain ⟨u, hu⟩ : ∃ u, w.take (i + 1) = u := ⟨_, rfl⟩
  have hz' : u[u.length - 1]? = some z := by rw [← hu, hl, Nat.add_sub_cancel, List.getElem?_take_of_lt (by omega)]; exact hz
  have hul : u.length = i + 1 := by rw [← hu]; exact hl
  rw [hu]
  (refine Go.run (g:=?_))
  refine GoR.strAt (zs := u) (i := u.length - 1) rfl rfl rfl rfl rfl rfl hz' ?_
  refine GoR.call rfl rfl rfl rfl rfl rfl rfl (((has_spec n z _ hg).argA).mono ?_)
  rintro _ H' ⟨rfl, e'⟩ sL
  subst e'
  clear sL
  cases hx : isX z
  case false =>
   (refine Go.run (g:=?_))
   (first|refine Go.finA rfl ?_|refine Go.finB rfl (hq:=?_))
   refine ⟨rfl, i + 1, by rw [hu]; rfl, h1, h2, fun i' z' e ez => ?_⟩
   rw [show i' = i by omega, hz] at ez
   injection ez with ez
   rw [← ez]; exact hx
  (refine Go.run (g:=?_))
  refine GoR.strHi (zs := u) (r := u.length - 1) rfl rfl rfl rfl rfl rfl (by omega) ?_
  rw [show u.take (u.length - 1) = w.take i from by rw [hul, ← hu, List.take_take, Nat.add_sub_cancel, Nat.min_eq_left (by omega)]]
  (refine Go.run (g:=?_))
  exact Go.again i ⟨by show i ≤ w.length; omega, by show (w.drop i).all isX = true; rw [all_take_drop hz, hx, h2]; rfl⟩ (by show i < i + 1; omega) ⟨rfl, rfl, trivial⟩ rfl rfl
set_option maxHeartbeats 8000000 in
theorem trimL_spec (n : Nat) (w : List UInt8) (hw : w.length ≤ 10000000) (hl : w = [] ∨ ∃ z, w.getLast? = some z ∧ isX z = false) (h : AHeap) (hg : h.get n = some (.cells setC 128)) : CallS Tryd.prog [] 83 [stv w, .pointer (some ⟨n, 0, none⟩)] h fun v h' => ∃ r, v = stv r ∧ (r = [] ↔ w = []) := by
 (refine CallS.of2 Tryd.func83 rfl Tryd.ntmps83 Tryd.results83 rfl ?_)
 (refine Go.run (g:=?_))
 refine Go.loop (α := List UInt8) (fun x => [(0, stv x), (1, .pointer (some ⟨n, 0, none⟩))]) (fun _ => []) (fun _ => h) (fun x => x.length ≤ 10000000 ∧ (x = [] ↔ w = []) ∧ (x = [] ∨ ∃ z, x.getLast? = some z ∧ isX z = false)) (fun x => x.length) w ⟨hw, Iff.rfl, hl⟩ ⟨rfl, rfl, trivial⟩ rfl rfl ?_
 rintro u ⟨h1, h2, h3⟩
 match u, h1, h2, h3 with
 | [], h1, h2, h3 =>
  (refine Go.run (g:=?_))
  (first|refine Go.finA rfl ?_|refine Go.finB rfl (hq:=?_))
  exact ⟨[], rfl, h2⟩
 | z :: u, h1, h2, h3 =>
  obtain ⟨v, hv⟩ : ∃ v, z :: u = v := ⟨_, rfl⟩
  have hvl : v.length = u.length + 1 := by rw [← hv]; rfl
  have hz : v[0]? = some z := by rw [← hv]; rfl
  rw [hv] at h1 h2 h3 ⊢
  (refine Go.run (g:=?_))
  refine GoR.strAtI (zs := v) rfl rfl rfl rfl rfl rfl (by decide) hz ?_
  refine GoR.call rfl rfl rfl rfl rfl rfl rfl (((has_spec n z _ hg).argA).mono ?_)
  rintro _ H' ⟨rfl, e'⟩ sL
  subst e'
  clear sL
  cases hx : isX z
  case false =>
   (refine Go.run (g:=?_))
   (first|refine Go.finA rfl ?_|refine Go.finB rfl (hq:=?_))
   exact ⟨v, rfl, h2⟩
  (refine Go.run (g:=?_))
  refine GoR.strLo (zs := v) (l := 1) rfl rfl rfl rfl rfl rfl (by omega) ?_
  rw [show v.drop 1 = u from by rw [← hv]; rfl]
  have hu : u ≠ [] ∧ ∃ z, u.getLast? = some z ∧ isX z = false := by
   rcases h3 with e | ⟨y, e1, e2⟩
   · rw [e] at hvl; simp at hvl
   ·
    cases u with
    | nil => rw [← hv] at e1; simp at e1; rw [e1] at hx; rw [hx] at e2; cases e2
    | cons a b => exact ⟨by simp, y, by rw [← hv] at e1; simpa using e1, e2⟩
  have hw0 : w ≠ [] := fun e => by rw [h2.2 e] at hvl; simp at hvl
  (refine Go.run (g:=?_))
  exact Go.again u ⟨by show u.length ≤ 10000000; omega, ⟨fun e => absurd e hu.1, fun e => absurd e hw0⟩, .inr hu.2⟩ (by show u.length < v.length; omega) ⟨rfl, rfl, trivial⟩ rfl rfl
set_option maxHeartbeats 8000000 in
theorem trim_spec (w : List UInt8) (hw : w.length ≤ 10000000) (h0 : w ≠ []) (h : AHeap) (hG : Holds GH h) : CallS Tryd.prog [] 65 [stv w, stv hexW] h fun v h' => ∃ r, v = stv r ∧ (r = [] ↔ w.all isX = true) := by
 have hz : decide (w = []) = false := decide_eq_false h0
 (refine CallS.of2 Tryd.func65 rfl Tryd.ntmps65 Tryd.results65 rfl ?_)
 (refine Go.run (g:=?_))
 refine GoR.call rfl rfl rfl rfl rfl rfl rfl (((aset_spec _ hG).argA).mono ?_)
 rintro _ H0 ⟨rfl, e0⟩ s1
 subst e0
 clear s1
 unfold setV
 (refine Go.run (g:=?_))
 refine GoR.name ?_
 intro H1 e1
 obtain ⟨c, g1, hc⟩ : ∃ c, H1.get H0.n = some (.cells c 128) ∧ c.length = 256 := ⟨_, by rw [e1]; exact AHeap.get_push_same _ _, by rfl⟩
 have s1 : Same H0 H1 := by rw [e1]; exact (Same.refl H0).push _
 clear e1
 refine GoR.store (l := setC) (c' := setC) rfl rfl rfl rfl rfl g1 (by simp [cellsL]) setC_len (by omega) (List.all_eq_true.2 fun x hx => by simp [setC] at hx; obtain ⟨a, -, rfl⟩ := hx; rfl) (by simp [setL, setC_len, hc]) (.inr (Nat.le_refl _)) ?_
 have g2 := AHeap.get_put_same H1 (AHeap.lt g1) (some (.cells setC 128))
 (refine Go.run (g:=?_))
 refine GoR.call rfl rfl rfl rfl rfl rfl rfl (((trimR_spec _ w hw _ g2).argA).mono ?_)
 rintro _ _ ⟨rfl, j, rfl, j1, j2, j3⟩ s3
 clear s3
 (refine Go.run (g:=?_))
 refine GoR.call rfl rfl rfl rfl rfl rfl rfl (((trimL_spec _ (w.take j) (by simp; omega) ?_ _ g2).argA).mono ?_)
 ·
  cases j with
  | zero => exact .inl rfl
  | succ i =>
   obtain ⟨z, hz⟩ : ∃ z, w[i]? = some z := ⟨_, List.getElem?_eq_getElem (by omega)⟩
   exact .inr ⟨z, by rw [take_snoc hz]; simp, j3 i z rfl hz⟩
 rintro _ H3 ⟨r, rfl, hr⟩ s3
 (refine Go.run (g:=?_))
 (first|refine Go.finA rfl ?_|refine Go.finB rfl (hq:=?_))
 refine ⟨r, rfl, hr.trans ⟨fun e => ?_, fun e => ?_⟩⟩
 ·
  have : (w.take j).length = 0 := by rw [e]; rfl
  rw [List.length_take] at this
  have hp := List.length_pos_iff.2 h0
  obtain rfl : j = 0 := by omega
  exact j2
 ·
  cases j with
  | zero => rfl
  | succ i =>
   obtain ⟨z, hz⟩ : ∃ z, w[i]? = some z := ⟨_, List.getElem?_eq_getElem (by omega)⟩
   have h1 := j3 i z rfl hz
   rw [List.all_eq_true.1 e z (List.mem_of_getElem? hz)] at h1
   cases h1
end Go.Proofs.YtncbbeghkpjpbaaDoor
namespace Go.Proofs.YtncbbeghkpjpbaaDoor
open Go.RowKit
set_option maxRecDepth 100000
attribute [local irreducible] Go GoR GoL
abbrev connW : List UInt8 := [99, 111, 110, 110, 101, 99, 116]
abbrev sendW : List UInt8 := [115, 101, 110, 100]
abbrev recvW : List UInt8 := [114, 101, 99, 118]
abbrev shutW : List UInt8 := [115, 104, 117, 116, 100, 111, 119, 110]
abbrev abortW : List UInt8 := [97, 98, 111, 114, 116]
abbrev peelW : List UInt8 := [112, 101, 101, 108, 111, 102, 102]
abbrev closeW : List UInt8 := [99, 108, 111, 115, 101]
abbrev noteW : List UInt8 := [110, 111, 116, 101]
abbrev pickW : List UInt8 := [112, 105, 99, 107]
abbrev delW : List UInt8 := [100, 101, 108, 105, 118, 101, 114]
abbrev dropW : List UInt8 := [100, 114, 111, 112]
abbrev twiceW : List UInt8 := [116, 119, 105, 99, 101]
abbrev turnW : List UInt8 := [116, 117, 114, 110]
abbrev tickW : List UInt8 := [116, 105, 99, 107]
abbrev injW : List UInt8 := [105, 110, 106, 101, 99, 116]
abbrev callW : List UInt8 := [99, 97, 108, 108]
abbrev blockW : List UInt8 := [98, 108, 111, 99, 107]
abbrev unordW : List UInt8 := [117, 110, 111, 114, 100, 101, 114, 101, 100]
def kindP (w : List UInt8) : Nat × Int := if w = pickW then (2, 1) else if w = delW then (3, 1) else if w = dropW then (4, 1) else if w = twiceW then (5, 1) else if w = turnW then (6, 2) else if w = tickW then (8, 1) else (0, 0)
def manyP (w : List UInt8) : Int × Int := if w = connW then (1, 1000000) else if w = sendW then (4, 5) else if w = recvW then (1, 1) else if w = shutW then (1, 1) else if w = abortW then (1, 1) else if w = peelW then (1, 1) else if w = closeW then (0, 0) else if w = noteW then (0, 0) else (-1, -1)
set_option maxHeartbeats 8000000 in
theorem kind_spec (w : List UInt8) (h : AHeap) : CallS Tryd.prog [] 33 [stv w] h fun v h' => v = .tuple #[.int .u8 ((kindP w).1 : Nat), .int .i64 (kindP w).2] ∧ h' = h := by
 (refine CallS.of1 Tryd.func33 rfl Tryd.ntmps33 Tryd.results33 rfl ?_)
 by_cases q0 : w = pickW
 ·
  have z0 : decide (w = pickW) = true := decide_eq_true q0
  (refine Go.run (g:=?_))
  (first|refine Go.finA rfl ?_|refine Go.finB rfl (hq:=?_))
  refine ⟨?_, rfl⟩
  unfold kindP
  rw [if_pos q0]
  rfl
 have z0 : decide (w = pickW) = false := decide_eq_false q0
 by_cases q1 : w = delW
 ·
  have z1 : decide (w = delW) = true := decide_eq_true q1
  (refine Go.run (g:=?_))
  (first|refine Go.finA rfl ?_|refine Go.finB rfl (hq:=?_))
  refine ⟨?_, rfl⟩
  unfold kindP
  rw [if_neg q0, if_pos q1]
  rfl
 have z1 : decide (w = delW) = false := decide_eq_false q1
 by_cases q2 : w = dropW
 ·
  have z2 : decide (w = dropW) = true := decide_eq_true q2
  (refine Go.run (g:=?_))
  (first|refine Go.finA rfl ?_|refine Go.finB rfl (hq:=?_))
  refine ⟨?_, rfl⟩
  unfold kindP
  rw [if_neg q0, if_neg q1, if_pos q2]
  rfl
 have z2 : decide (w = dropW) = false := decide_eq_false q2
 by_cases q3 : w = twiceW
 ·
  have z3 : decide (w = twiceW) = true := decide_eq_true q3
  (refine Go.run (g:=?_))
  (first|refine Go.finA rfl ?_|refine Go.finB rfl (hq:=?_))
  refine ⟨?_, rfl⟩
  unfold kindP
  rw [if_neg q0, if_neg q1, if_neg q2, if_pos q3]
  rfl
 have z3 : decide (w = twiceW) = false := decide_eq_false q3
 by_cases q4 : w = turnW
 ·
  have z4 : decide (w = turnW) = true := decide_eq_true q4
  (refine Go.run (g:=?_))
  (first|refine Go.finA rfl ?_|refine Go.finB rfl (hq:=?_))
  refine ⟨?_, rfl⟩
  unfold kindP
  rw [if_neg q0, if_neg q1, if_neg q2, if_neg q3, if_pos q4]
  rfl
 have z4 : decide (w = turnW) = false := decide_eq_false q4
 by_cases q5 : w = tickW
 ·
  have z5 : decide (w = tickW) = true := decide_eq_true q5
  (refine Go.run (g:=?_))
  (first|refine Go.finA rfl ?_|refine Go.finB rfl (hq:=?_))
  refine ⟨?_, rfl⟩
  unfold kindP
  rw [if_neg q0, if_neg q1, if_neg q2, if_neg q3, if_neg q4, if_pos q5]
  rfl
 have z5 : decide (w = tickW) = false := decide_eq_false q5
 (refine Go.run (g:=?_))
 (first|refine Go.finA rfl ?_|refine Go.finB rfl (hq:=?_))
 refine ⟨?_, rfl⟩
 unfold kindP
 rw [if_neg q0, if_neg q1, if_neg q2, if_neg q3, if_neg q4, if_neg q5]
 rfl
set_option maxHeartbeats 8000000 in
theorem many_spec (w : List UInt8) (h : AHeap) : CallS Tryd.prog [] 51 [stv w] h fun v h' => v = .tuple #[.int .i64 (manyP w).1, .int .i64 (manyP w).2] ∧ h' = h := by
 (refine CallS.of1 Tryd.func51 rfl Tryd.ntmps51 Tryd.results51 rfl ?_)
 by_cases q0 : w = connW
 ·
  have z0 : decide (w = connW) = true := decide_eq_true q0
  (refine Go.run (g:=?_))
  (first|refine Go.finA rfl ?_|refine Go.finB rfl (hq:=?_))
  refine ⟨?_, rfl⟩
  unfold manyP
  rw [if_pos q0]
  rfl
 have z0 : decide (w = connW) = false := decide_eq_false q0
 by_cases q1 : w = sendW
 ·
  have z1 : decide (w = sendW) = true := decide_eq_true q1
  (refine Go.run (g:=?_))
  (first|refine Go.finA rfl ?_|refine Go.finB rfl (hq:=?_))
  refine ⟨?_, rfl⟩
  unfold manyP
  rw [if_neg q0, if_pos q1]
  rfl
 have z1 : decide (w = sendW) = false := decide_eq_false q1
 by_cases q2 : w = recvW
 ·
  have z2 : decide (w = recvW) = true := decide_eq_true q2
  (refine Go.run (g:=?_))
  (first|refine Go.finA rfl ?_|refine Go.finB rfl (hq:=?_))
  refine ⟨?_, rfl⟩
  unfold manyP
  rw [if_neg q0, if_neg q1, if_pos q2]
  rfl
 have z2 : decide (w = recvW) = false := decide_eq_false q2
 by_cases q3 : w = shutW
 ·
  have z3 : decide (w = shutW) = true := decide_eq_true q3
  (refine Go.run (g:=?_))
  (first|refine Go.finA rfl ?_|refine Go.finB rfl (hq:=?_))
  refine ⟨?_, rfl⟩
  unfold manyP
  rw [if_neg q0, if_neg q1, if_neg q2, if_pos q3]
  rfl
 have z3 : decide (w = shutW) = false := decide_eq_false q3
 by_cases q4 : w = abortW
 ·
  have z4 : decide (w = abortW) = true := decide_eq_true q4
  (refine Go.run (g:=?_))
  (first|refine Go.finA rfl ?_|refine Go.finB rfl (hq:=?_))
  refine ⟨?_, rfl⟩
  unfold manyP
  rw [if_neg q0, if_neg q1, if_neg q2, if_neg q3, if_pos q4]
  rfl
 have z4 : decide (w = abortW) = false := decide_eq_false q4
 by_cases q5 : w = peelW
 ·
  have z5 : decide (w = peelW) = true := decide_eq_true q5
  (refine Go.run (g:=?_))
  (first|refine Go.finA rfl ?_|refine Go.finB rfl (hq:=?_))
  refine ⟨?_, rfl⟩
  unfold manyP
  rw [if_neg q0, if_neg q1, if_neg q2, if_neg q3, if_neg q4, if_pos q5]
  rfl
 have z5 : decide (w = peelW) = false := decide_eq_false q5
 by_cases q6 : w = closeW
 ·
  have z6 : decide (w = closeW) = true := decide_eq_true q6
  (refine Go.run (g:=?_))
  (first|refine Go.finA rfl ?_|refine Go.finB rfl (hq:=?_))
  refine ⟨?_, rfl⟩
  unfold manyP
  rw [if_neg q0, if_neg q1, if_neg q2, if_neg q3, if_neg q4, if_neg q5, if_pos q6]
  rfl
 have z6 : decide (w = closeW) = false := decide_eq_false q6
 by_cases q7 : w = noteW
 ·
  have z7 : decide (w = noteW) = true := decide_eq_true q7
  (refine Go.run (g:=?_))
  (first|refine Go.finA rfl ?_|refine Go.finB rfl (hq:=?_))
  refine ⟨?_, rfl⟩
  unfold manyP
  rw [if_neg q0, if_neg q1, if_neg q2, if_neg q3, if_neg q4, if_neg q5, if_neg q6, if_pos q7]
  rfl
 have z7 : decide (w = noteW) = false := decide_eq_false q7
 (refine Go.run (g:=?_))
 (first|refine Go.finA rfl ?_|refine Go.finB rfl (hq:=?_))
 refine ⟨?_, rfl⟩
 unfold manyP
 rw [if_neg q0, if_neg q1, if_neg q2, if_neg q3, if_neg q4, if_neg q5, if_neg q6, if_neg q7]
 rfl
end Go.Proofs.YtncbbeghkpjpbaaDoor
namespace Go.Proofs.YtncbbeghkpjpbaaDoor
open Go.RowKit
set_option maxRecDepth 100000
structure PM where
 k : Nat := 0
 host : Nat := 0
 n : Int := 0
 bit : Int := 0
 ok : Nat := 0
 id : Int := 0
 ads : List Nat := []
 port : Nat := 0
 sid : Nat := 0
 un : Bool := false
 ppid : Nat := 0
 zs : List UInt8 := []
 blk : Bool := false
 fr : Nat := 0
 to : Nat := 0
 bs : List UInt8 := []
abbrev W := List UInt8
def numD (w : W) : Int := (numP w).getD 0
def upD (most : Int) (w : W) : Nat := ((upP most w).getD 0).toNat
def hxD (w : W) : List UInt8 := (hxP w).getD []
def nbad (w : W) : Bool := (numP w).isNone
def ubad (most : Int) (w : W) : Bool := (upP most w).isNone
def hbad (w : W) : Bool := (hxP w).isNone
abbrev w16 : Int := 65535
abbrev w32 : Int := 4294967295
def opP : List W → Option (Bool × PM)
 | [] => none
 | w :: r =>
  if w = connW then (match r with
   | [] => none
   | p :: l => some (ubad w16 p || l.any (ubad w32), { ok := 1, port := upD w16 p, ads := l.map (upD w32) }))
  else if w = sendW then (match r with
   | [a, b, c, d] => some (nbad a || ubad w16 b || ubad w32 c || hbad d, { ok := 2, id := numD a, sid := upD w16 b, ppid := upD w32 c, zs := hxD d })
   | [a, b, c, d, e] => if e = unordW then some (nbad a || ubad w16 b || ubad w32 c || hbad d, { ok := 2, id := numD a, sid := upD w16 b, un := true, ppid := upD w32 c, zs := hxD d }) else none
   | _ => none)
  else if w = recvW then (match r with
   | [a] => some (nbad a, { ok := 3, id := numD a })
   | _ => none)
  else if w = shutW then (match r with
   | [a] => some (nbad a, { ok := 4, id := numD a })
   | _ => none)
  else if w = abortW then (match r with
   | [a] => some (nbad a, { ok := 5, id := numD a })
   | _ => none)
  else if w = peelW then (match r with
   | [a] => some (nbad a, { ok := 6, id := numD a })
   | _ => none)
  else if w = closeW then (match r with
   | [] => some (false, { ok := 7 })
   | _ => none)
  else if w = noteW then (match r with
   | [] => some (false, { ok := 8 })
   | _ => none)
  else none
def lineQ : List W → Option (Bool × PM)
 | [] => none
 | w :: r =>
  if (kindP w).1 ≠ 0 then (
   if (r.length : Int) ≠ (kindP w).2 then none else match r with
   | [a] => some (nbad a, { k := (kindP w).1, n := numD a })
   | [a, b] => some (nbad a || nbad b, { k := (kindP w).1, n := numD a, bit := numD b })
   | _ => none)
  else if w = injW then (match r with
   | [a, b, c] => some (ubad w32 a || ubad w32 b || hbad c, { k := 7, fr := upD w32 a, to := upD w32 b, bs := hxD c })
   | _ => none)
  else if w = callW then (match r with
   | h :: s :: t => (opP (if s = blockW then t else s :: t)).map fun x => (ubad 1 h || x.1, { x.2 with k := 1, host := upD 1 h, blk := decide (s = blockW) })
   | _ => none)
  else none
def lineE (ws : List W) : Nat := match lineQ ws with
 | none => 2
 | some (true, _) => 5
 | some (false, _) => 0
def OpV.pm (o : OpV) : PM := { ok := o.k, id := o.id, ads := o.ads, port := o.port, sid := o.sid, un := o.un, ppid := o.ppid, zs := o.zs, blk := o.blk }
def MvV.pm (m : MvV) : PM := { k := m.k, host := m.host, n := m.n, bit := m.bit, ok := m.o.k, id := m.o.id, ads := m.o.ads, port := m.o.port, sid := m.o.sid, un := m.o.un, ppid := m.o.ppid, zs := m.o.zs, blk := m.o.blk, fr := m.fr, to := m.to, bs := m.bs }
theorem num_get {w : W} {n : Int} (h : ∀ m, numP w = some m → n = m) (hb : nbad w = false) : n = numD w := by
 unfold nbad at hb; unfold numD
 cases hq : numP w with
 | none => rw [hq] at hb; cases hb
 | some m => rw [h m hq]; rfl
theorem up_get {w : W} {m n : Int} (h : ∀ x, upP m w = some x → n = x) (h0 : 0 ≤ n) (hb : ubad m w = false) : n = (upD m w : Nat) := by
 unfold ubad at hb; unfold upD
 cases hq : upP m w with
 | none => rw [hq] at hb; cases hb
 | some x => have := h x hq; subst this; show n = ((n.toNat : Nat) : Int); omega
theorem hx_get {w : W} {z : List UInt8} (h : ∀ m, hxP w = some m → z = m) (hb : hbad w = false) : z = hxD w := by
 unfold hbad at hb; unfold hxD
 cases hq : hxP w with
 | none => rw [hq] at hb; cases hb
 | some m => rw [h m hq]; rfl
end Go.Proofs.YtncbbeghkpjpbaaDoor
namespace Go.Proofs.YtncbbeghkpjpbaaDoor
open Go.RowKit
set_option maxRecDepth 100000
attribute [local irreducible] Go GoR GoL
theorem ix_hx (c : UInt8) : ixV hexW c = hxV c := by
 by_cases h : c ∈ hexW
 ·
  simp only [hexW, List.mem_cons, List.not_mem_nil, or_false] at h
  rcases h with rfl | rfl | rfl | rfl | rfl | rfl | rfl | rfl | rfl | rfl | rfl | rfl | rfl | rfl | rfl | rfl <;> rfl
 have hn : hexW.findIdx? (· == c) = none := List.findIdx?_eq_none_iff.2 fun x hx => by
  cases e : x == c with
  | false => rfl
  | true => exact absurd (by rw [← eq_of_beq e]; exact hx) h
 have h1 : ¬ (48 ≤ c.toNat ∧ c.toNat ≤ 57) := fun hh => by
  have : c.toNat = 48 ∨ c.toNat = 49 ∨ c.toNat = 50 ∨ c.toNat = 51 ∨ c.toNat = 52 ∨ c.toNat = 53 ∨ c.toNat = 54 ∨ c.toNat = 55 ∨ c.toNat = 56 ∨ c.toNat = 57 := by omega
  rcases this with e | e | e | e | e | e | e | e | e | e
  · exact h (by rw [show c = 48 from UInt8.toNat_inj.1 e]; decide)
  · exact h (by rw [show c = 49 from UInt8.toNat_inj.1 e]; decide)
  · exact h (by rw [show c = 50 from UInt8.toNat_inj.1 e]; decide)
  · exact h (by rw [show c = 51 from UInt8.toNat_inj.1 e]; decide)
  · exact h (by rw [show c = 52 from UInt8.toNat_inj.1 e]; decide)
  · exact h (by rw [show c = 53 from UInt8.toNat_inj.1 e]; decide)
  · exact h (by rw [show c = 54 from UInt8.toNat_inj.1 e]; decide)
  · exact h (by rw [show c = 55 from UInt8.toNat_inj.1 e]; decide)
  · exact h (by rw [show c = 56 from UInt8.toNat_inj.1 e]; decide)
  · exact h (by rw [show c = 57 from UInt8.toNat_inj.1 e]; decide)
 have h2 : ¬ (97 ≤ c.toNat ∧ c.toNat ≤ 102) := fun hh => by
  have : c.toNat = 97 ∨ c.toNat = 98 ∨ c.toNat = 99 ∨ c.toNat = 100 ∨ c.toNat = 101 ∨ c.toNat = 102 := by omega
  rcases this with e | e | e | e | e | e
  · exact h (by rw [show c = 97 from UInt8.toNat_inj.1 e]; decide)
  · exact h (by rw [show c = 98 from UInt8.toNat_inj.1 e]; decide)
  · exact h (by rw [show c = 99 from UInt8.toNat_inj.1 e]; decide)
  · exact h (by rw [show c = 100 from UInt8.toNat_inj.1 e]; decide)
  · exact h (by rw [show c = 101 from UInt8.toNat_inj.1 e]; decide)
  · exact h (by rw [show c = 102 from UInt8.toNat_inj.1 e]; decide)
 unfold ixV hxV
 rw [hn, if_neg h1, if_neg h2]
theorem or_hex (p q : Nat) (h : q < 16) : p * 2 ^ 4 ||| q = 16 * p + q := by
 have := Nat.two_pow_add_eq_or_of_lt (i := 4) (b := q) h p
 rw [Nat.mul_comm p, ← this]
theorem prP_bad : ∀ w : List UInt8, w.all isX = false → prP w = none
 | [], h => by simp at h
 | [_], _ => rfl
 | a :: b :: r, h => by
  rw [List.all_cons, List.all_cons] at h
  rw [prP]
  split
  ·
   rename_i hh
   have ha : isX a = true := decide_eq_true hh.1
   have hb : isX b = true := decide_eq_true hh.2
   rw [ha, hb, Bool.true_and, Bool.true_and] at h
   rw [prP_bad r h]; rfl
  · rfl
theorem ixb2_spec (zs : List UInt8) (c : UInt8) (h : AHeap) : CallS Tryd.prog [] 66 [.string ⟨zs.toArray⟩, .int .u8 (c.toNat : Nat)] h fun v h' => v = .int .i64 (ixV zs c) ∧ h' = h := by
 (refine CallS.of2 Tryd.func66 rfl Tryd.ntmps66 Tryd.results66 rfl ?_)
 (refine Go.run (g:=?_))
 refine GoR.call rfl rfl rfl rfl rfl rfl rfl (((ixb_spec zs c _).argA).mono ?_)
 rintro _ H ⟨rfl, e⟩ s
 subst e
 clear s
 (refine Go.run (g:=?_))
 (first|refine Go.finA rfl ?_|refine Go.finB rfl (hq:=?_))
 exact ⟨rfl, rfl⟩
set_option maxHeartbeats 16000000 in
theorem unhex_spec (w : List UInt8) (hw : w.length ≤ 10000000) (h0 : w ≠ []) (h : AHeap) (hG : Holds GH h) : CallS Tryd.prog [] 47 [stv w] h fun v h' => ∃ a cap zs, v = .tuple #[.slice a zs.length cap, .bool (hxP w).isSome] ∧ Sv h' 5 1 a zs.length cap (zs.map bv) ∧ Own h.n a ∧ zs.length ≤ w.length ∧ (∀ m, hxP w = some m → zs = m) := by
 have hz0 : decide (w = []) = false := decide_eq_false h0
 (refine CallS.of1 Tryd.func47 rfl Tryd.ntmps47 Tryd.results47 rfl ?_)
 by_cases hd : w = [45]
 ·
  have hz : decide (w = [45]) = true := decide_eq_true hd
  have hh : hxP w = some [] := by unfold hxP; rw [if_pos hd]
  (refine Go.run (g:=?_))
  (first|refine Go.finA rfl ?_|refine Go.finB rfl (hq:=?_))
  rw [hh]
  exact ⟨none, 0, [], rfl, .nil, Own.nil _, Nat.zero_le _, fun m hm => Option.some.inj hm⟩
 have hz : decide (w = [45]) = false := decide_eq_false hd
 have hh : hxP w = prP w := by unfold hxP; rw [if_neg hd]
 have hwl : w.length % 2 = 0 ∨ w.length % 2 = 1 := by omega
 rcases hwl with hp | hp
 case inr =>
  have hno : hxP w = none := by rw [hh]; exact prP_odd (w.length / 2) w (by omega)
  (refine Go.run (g:=?_))
  (first|refine Go.finA rfl ?_|refine Go.finB rfl (hq:=?_))
  rw [hno]
  exact ⟨none, 0, [], rfl, .nil, Own.nil _, Nat.zero_le _, fun m hm => by cases hm⟩
 (refine Go.run (g:=?_))
 refine GoR.call rfl rfl rfl rfl rfl rfl rfl (((trim_spec w hw h0 _ hG).argA).mono ?_)
 rintro _ H1 ⟨r, rfl, hr⟩ s1
 by_cases hx : w.all isX = true
 case neg =>
  have hx := Bool.eq_false_iff.2 hx
  have hno : hxP w = none := by rw [hh]; exact prP_bad w hx
  have hrz : (!decide (r = [])) = true := by rw [decide_eq_false (fun e => by rw [hr.1 e] at hx; cases hx)]; rfl
  clear hx hr
  (refine Go.run (g:=?_))
  (first|refine Go.finA rfl ?_|refine Go.finB rfl (hq:=?_))
  rw [hno]
  exact ⟨none, 0, [], rfl, .nil, Own.nil _, Nat.zero_le _, fun m hm => by cases hm⟩
 have hrz : (!decide (r = [])) = false := by rw [decide_eq_true (hr.2 hx)]; rfl
 have hall : ∀ z ∈ w, 0 ≤ hxV z := fun z hz => of_decide_eq_true (List.all_eq_true.1 hx z hz)
 clear hx hr
 have hG1 := hG.same s1
 have n1 := s1.1
 (refine Go.run (g:=?_))
 refine Go.loop (α := Nat × List UInt8 × Option Addr × Nat × AHeap) (fun x => [(0, stv w), (4, .slice x.2.2.1 x.2.1.length x.2.2.2.1), (5, .int .i64 ((2 * x.1 : Nat) : Int))]) (fun _ => []) (fun x => x.2.2.2.2) (fun x => 2 * x.1 ≤ w.length ∧ Sv x.2.2.2.2 5 1 x.2.2.1 x.2.1.length x.2.2.2.1 (x.2.1.map bv) ∧ Own H1.n x.2.2.1 ∧ H1.n ≤ x.2.2.2.2.n ∧ x.2.1.length = x.1 ∧ prP (w.take (2 * x.1)) = some x.2.1) (fun x => w.length - 2 * x.1) (0, [], none, 0, H1) ⟨Nat.zero_le _, .nil, Own.nil _, Nat.le_refl _, rfl, rfl⟩ ⟨rfl, rfl, rfl, trivial⟩ rfl rfl ?_
 rintro ⟨j, out, ob, oc, H⟩ ⟨h1, h4, h5, h6, h7, h8⟩
 simp only at h1 h4 h5 h6 h7 h8 ⊢
 rcases Nat.lt_or_ge (2 * j) w.length with hi | hi
 case inr =>
  have he : 2 * j = w.length := by omega
  rw [he, List.take_length] at h8
  (refine Go.run (g:=?_))
  (first|refine Go.finA rfl ?_|refine Go.finB rfl (hq:=?_))
  rw [hh, h8]
  exact ⟨ob, oc, out, rfl, h4, fun x hx => by have := h5 x hx; omega, by omega, fun m hm => Option.some.inj hm⟩
 obtain ⟨za, hza⟩ : ∃ z, w[2 * j]? = some z := ⟨_, List.getElem?_eq_getElem (by omega)⟩
 obtain ⟨zb, hzb⟩ : ∃ z, w[2 * j + 1]? = some z := ⟨_, List.getElem?_eq_getElem (by omega)⟩
 have hst := prP_step j w za zb hza hzb
 have hva := hxV_le za
 have hvb := hxV_le zb
 have qa : 0 ≤ hxV za := hall za (List.mem_of_getElem? hza)
 have qb : 0 ≤ hxV zb := hall zb (List.mem_of_getElem? hzb)
 have hby := hxB_val qa qb
 have hyes : prP (w.take (2 * (j + 1))) = some (out ++ [hxB za zb]) := by
  rw [hst, h8, Option.bind_some, if_pos ⟨qa, qb⟩]
 have ia := ix_hx za
 have ib := ix_hx zb
 obtain ⟨p, hpp⟩ : ∃ p : Nat, hxV za = (p : Int) := ⟨(hxV za).toNat, by omega⟩
 obtain ⟨q, hqq⟩ : ∃ q : Nat, hxV zb = (q : Int) := ⟨(hxV zb).toNat, by omega⟩
 rw [hpp] at hva hby ia
 rw [hqq] at hvb hby ib
 have e2 : ((2 * (j + 1) : Nat) : Int) = ((2 * j + 2 : Nat) : Int) := by omega
 generalize hJ : 2 * j = i at *
 refine Go.runN (g:=?_)
 refine Go.loud (by kernel_rfl) rfl ?_
 (refine Go.runL (g:=?_))
 refine GoL.strAt (zs := w) rfl rfl rfl rfl rfl rfl hza ?_
 refine GoL.callS rfl rfl rfl rfl rfl rfl rfl (((ixb2_spec hexW za _).argA).mono ?_)
 rintro _ HM ⟨rfl, e⟩ sM
 subst e
 clear sM
 rw [ia]
 (refine Go.runL (g:=?_))
 refine GoL.strAt (zs := w) rfl rfl rfl rfl rfl rfl hzb ?_
 refine GoL.callS rfl rfl rfl rfl rfl rfl rfl (((ixb2_spec hexW zb _).argA).mono ?_)
 rintro _ HM ⟨rfl, e⟩ sM
 subst e
 clear sM
 rw [ib]
 (refine Go.runL (g:=?_))
 have hb8 : (((p * 2 ^ 4 ||| q) % 256 : Nat) : Int) = ((hxB za zb).toNat : Int) := by rw [or_hex p q (by omega)]; omega
 rw [hb8]
 refine GoL.buildRo (c := [hxB za zb].map bv) rfl rfl rfl rfl rfl (by decide) (by rfl) (by rfl) ?_
 intro b2 hh2 r2 ro2 ow2 s2 n2
 refine GoL.appendV rfl rfl rfl rfl rfl rfl (h4.same s2) r2 (fun x hx => .inr (by have := h5 x hx; omega)) (by omega) (by omega) (by simp [bv, Value.oneCell']) ?_
 intro b3 c3 hh3 rd wr hwr hrd v3 k3 o3
 rw [← List.map_append] at v3
 have m2 := s2.1
 have m3 := k3.1
 (refine Go.runL (g:=?_))
 (refine GoL.end_ (g:=?_))
 (refine Go.run (g:=?_))
 refine Go.again (j + 1, out ++ [hxB za zb], b3, c3, hh3) ⟨by show 2 * (j + 1) ≤ w.length; omega, ?_, fun x hx => (o3 x hx).elim (h5 x) (fun e => by omega), by show H1.n ≤ hh3.n; omega, by show (out ++ [hxB za zb]).length = j + 1; simp; omega, hyes⟩ (by show w.length - 2 * (j + 1) < w.length - i; omega) ⟨rfl, ?_, congrArg (fun x => some (Value.int .i64 x)) e2.symm, trivial⟩ rfl rfl
 ·
  show Sv hh3 5 1 b3 (out ++ [hxB za zb]).length c3 ((out ++ [hxB za zb]).map bv)
  rw [List.length_append]; exact v3
 ·
  show some _ = some (Value.slice b3 (out ++ [hxB za zb]).length c3)
  rw [List.length_append]; rfl
theorem GE_ro (i : Nat) (o : AObj) (e : GE.get i = some o) : ∃ c, o = .ro c := by
 unfold GE at e
 rw [AHeap.get_put] at e
 split at e
 ·
  split at e
  · cases e; exact ⟨_, rfl⟩
  · cases e
 ·
  rw [AHeap.get_put] at e
  split at e
  ·
   split at e
   · cases e; exact ⟨_, rfl⟩
   · cases e
  ·
   rw [AHeap.get_put] at e
   split at e
   ·
    split at e
    · cases e; exact ⟨_, rfl⟩
    · cases e
   · simp [AHeap.get, Tr.get] at e
theorem Holds.keepE {h h' : AHeap} {b : Nat} {c : List Value} {T : TypeId} (k : Holds GE h) (s : Keeps [b] h h') (g : h.get b = some (.cells c T)) : Holds GE h' := ⟨Nat.le_trans k.1 s.1, fun i o e => s.get (k.2 i o e) (fun hm => by
 obtain rfl := List.mem_singleton.1 hm
 obtain ⟨c', rfl⟩ := GE_ro i o e
 rw [k.2 i _ e] at g
 cases g)⟩
theorem RdI.holds {h h' : AHeap} {T b : Nat} {ws : List W} {bad : Bool} (r : RdI h T b ws bad) (k : Holds GE h) (s : Keeps [b] h h') : Holds GE h' := by
 obtain ⟨_, _, g, _⟩ := r
 exact k.keepE s g
theorem Holds.putE {h : AHeap} {b : Nat} {c : List Value} {T : TypeId} (k : Holds GE h) (g : h.get b = some (.cells c T)) (o : Option AObj) : Holds GE (h.put b o) := k.keepE ⟨Nat.le_refl _, fun i _ hi => AHeap.get_put_ne _ _ (fun e => hi (by simp [e]))⟩ g
def RnPost (h : AHeap) (b : Nat) (r : List W) (f : Option Int) (bad : Bool) (v : Value) (h' : AHeap) : Prop := ∃ n : Int, v = .int .i64 n ∧ -9223372036854775808 ≤ n ∧ n < 9223372036854775808 ∧ (∀ m, f = some m → n = m) ∧ RdI h' 66 b r (bad || f.isNone)
set_option maxHeartbeats 8000000 in
theorem int_spec (b : Nat) (w : List UInt8) (r : List (List UInt8)) (bad : Bool) (hw : w.length ≤ 10000000) (h : AHeap) (hG : Holds GE h) (k : RdI h 66 b (w :: r) bad) : CallS Tryd.prog [b] 27 [.pointer (some ⟨b, 0, none⟩)] h (RnPost h b r (numP w) bad) := by
 (refine CallS.of1 Tryd.func27 rfl Tryd.ntmps27 Tryd.results27 rfl ?_)
 (refine Go.run (g:=?_))
 refine GoR.callW rfl rfl rfl rfl rfl rfl rfl (((word_spec b w r bad _ k).argA).mono ?_)
 rintro _ H1 ⟨rfl, k1⟩ kp1
 refine ⟨fun i hi => .inl hi, ?_⟩
 have hG1 := k.holds hG kp1
 obtain ⟨a1, c1, g1, R1, o1⟩ := k1
 (refine Go.run (g:=?_))
 refine GoR.call rfl rfl rfl rfl rfl rfl rfl (((atoi_spec w hw _ hG1).argA).mono ?_)
 rintro _ H2 ⟨n, u, e, rfl, hif, n0, n1, hp⟩ s2
 have hp2 : ∀ m, numP w = some m → n = m := fun m hm => (hp m hm).2
 have g2 := s2.get g1
 have hb2 := AHeap.lt g2
 cases bad
 case true =>
  (refine Go.run (g:=?_))
  (first|refine Go.finA rfl ?_|refine Go.finB rfl (hq:=?_))
  exact ⟨n, rfl, n0, n1, hp2, a1, c1, AHeap.get_put_same _ hb2 _, (R1.same s2).putR o1 _, o1⟩
 (refine Go.run (g:=?_))
 refine GoR.ifNil rfl rfl rfl rfl rfl hif Tryd.underlying91 ?_
 cases e
 case true =>
  (refine Go.run (g:=?_))
  (first|refine Go.finA rfl ?_|refine Go.finB rfl (hq:=?_))
  refine ⟨n, rfl, n0, n1, hp2, a1, c1, ?_, (R1.same s2).putR o1 _, o1⟩
  cases hq : numP w with
  | none => exact AHeap.get_put_same _ hb2 _
  | some m => exact absurd (hp m hq).1 (by decide)
 (refine Go.run (g:=?_))
 refine GoR.call rfl rfl rfl rfl rfl rfl rfl (((itoa_spec n n0 n1 _ (hG1.same s2).gh).argA).mono ?_)
 rintro _ H3 rfl s3
 have g3 := s3.get g2
 have hb3 := AHeap.lt g3
 have R3 := (R1.same s2).same s3
 by_cases hd : dgI n = w
 ·
  have hz : (!decide (dgI n = w)) = false := by rw [decide_eq_true hd]; rfl
  have hq : numP w = some n := by rw [← hd]; exact numP_dgI n0 n1
  (refine Go.run (g:=?_))
  rw [hz]
  (refine Go.run (g:=?_))
  (first|refine Go.finA rfl ?_|refine Go.finB rfl (hq:=?_))
  refine ⟨n, rfl, n0, n1, hp2, a1, c1, ?_, R3.putR o1 _, o1⟩
  rw [hq]
  exact AHeap.get_put_same _ hb3 _
 ·
  have hz : (!decide (dgI n = w)) = true := by rw [decide_eq_false hd]; rfl
  have hq : numP w = none := by
   cases hq : numP w with
   | none => rfl
   | some m => exact absurd (by rw [hp2 m hq]; exact (numP_some hq).1) hd
  (refine Go.run (g:=?_))
  rw [hz]
  (refine Go.run (g:=?_))
  (first|refine Go.finA rfl ?_|refine Go.finB rfl (hq:=?_))
  refine ⟨n, rfl, n0, n1, hp2, a1, c1, ?_, R3.putR o1 _, o1⟩
  rw [hq]
  exact AHeap.get_put_same _ hb3 _
set_option maxHeartbeats 8000000 in
theorem up_spec (most : Int) (hm0 : 0 ≤ most) (hm1 : most < 9223372036854775808) (b : Nat) (w : List UInt8) (r : List (List UInt8)) (bad : Bool) (hw : w.length ≤ 10000000) (h : AHeap) (hG : Holds GE h) (k : RdI h 66 b (w :: r) bad) : CallS Tryd.prog [b] 29 [.pointer (some ⟨b, 0, none⟩), .int .i64 most] h (RnPost h b r (upP most w) bad) := by
 (refine CallS.of2 Tryd.func29 rfl Tryd.ntmps29 Tryd.results29 rfl ?_)
 (refine Go.run (g:=?_))
 refine GoR.callW rfl rfl rfl rfl rfl rfl rfl (((int_spec b w r bad hw _ hG k).argA).mono ?_)
 rintro _ H1 ⟨n, rfl, n0, n1, hp, k1⟩ kp1
 refine ⟨fun i hi => .inl hi, ?_⟩
 have hup : ∀ m, upP most w = some m → n = m := fun m hm => by
  unfold upP at hm
  cases hq : numP w with
  | none => rw [hq] at hm; cases hm
  | some x =>
   rw [hq] at hm
   simp only at hm
   split at hm
   · rw [hp x hq]; exact Option.some.inj hm
   · cases hm
 have hnn : numP w = none → upP most w = none := fun e => by unfold upP; rw [e]
 generalize hB : (bad || (numP w).isNone) = B at k1
 obtain ⟨a1, c1, g1, R1, o1⟩ := k1
 have hb1 := AHeap.lt g1
 cases B
 case true =>
  have e1 : (bad || (upP most w).isNone) = true := by
   cases bad with
   | true => rfl
   | false => cases hq : numP w with
    | none => rw [hnn hq]; rfl
    | some x => rw [hq] at hB; cases hB
  (refine Go.run (g:=?_))
  (first|refine Go.finA rfl ?_|refine Go.finB rfl (hq:=?_))
  refine ⟨n, rfl, n0, n1, hup, a1, c1, ?_, R1.putR o1 _, o1⟩
  rw [e1]
  exact AHeap.get_put_same _ hb1 _
 obtain ⟨x, hx⟩ : ∃ x, numP w = some x := by
  cases hq : numP w with
  | none => rw [hq, Option.isNone_none, Bool.or_true] at hB; cases hB
  | some x => exact ⟨x, rfl⟩
 have hnx := hp x hx
 subst hnx
 rw [hx, Option.isNone_some, Bool.or_false] at hB
 subst hB
 by_cases hr : 0 ≤ n ∧ n ≤ most
 ·
  have e1 : upP most w = some n := by unfold upP; rw [hx]; simp only; rw [if_pos hr]
  obtain ⟨r1, r2⟩ := hr
  (refine Go.run (g:=?_))
  (first|refine Go.finA rfl ?_|refine Go.finB rfl (hq:=?_))
  refine ⟨n, rfl, n0, n1, hup, a1, c1, ?_, R1.putR o1 _, o1⟩
  rw [e1, decide_eq_false (show ¬ most < n by omega)]
  exact AHeap.get_put_same _ hb1 _
 ·
  have e1 : upP most w = none := by unfold upP; rw [hx]; simp only; rw [if_neg hr]
  rcases Int.lt_or_le n 0 with r1 | r1
  ·
   (refine Go.run (g:=?_))
   (first|refine Go.finA rfl ?_|refine Go.finB rfl (hq:=?_))
   refine ⟨n, rfl, n0, n1, hup, a1, c1, ?_, R1.putR o1 _, o1⟩
   rw [e1]
   exact AHeap.get_put_same _ hb1 _
  ·
   have r2 : most < n := by omega
   (refine Go.run (g:=?_))
   (first|refine Go.finA rfl ?_|refine Go.finB rfl (hq:=?_))
   refine ⟨n, rfl, n0, n1, hup, a1, c1, ?_, R1.putR o1 _, o1⟩
   rw [e1, decide_eq_true r2]
   exact AHeap.get_put_same _ hb1 _
set_option maxHeartbeats 8000000 in
theorem bytes_spec (b : Nat) (w : List UInt8) (r : List (List UInt8)) (bad : Bool) (hw : w.length ≤ 10000000) (h0 : w ≠ []) (h : AHeap) (hG : Holds GE h) (k : RdI h 66 b (w :: r) bad) : CallS Tryd.prog [b] 30 [.pointer (some ⟨b, 0, none⟩)] h fun v h' => ∃ a cap zs, v = .slice a zs.length cap ∧ Sv h' 5 1 a zs.length cap (zs.map bv) ∧ Own h.n a ∧ zs.length ≤ w.length ∧ (∀ m, hxP w = some m → zs = m) ∧ RdI h' 66 b r (bad || (hxP w).isNone) := by
 have hb0 : b < h.n := by obtain ⟨_, _, g, -⟩ := k; exact AHeap.lt g
 (refine CallS.of1 Tryd.func30 rfl Tryd.ntmps30 Tryd.results30 rfl ?_)
 (refine Go.run (g:=?_))
 refine GoR.callW rfl rfl rfl rfl rfl rfl rfl (((word_spec b w r bad _ k).argA).mono ?_)
 rintro _ H1 ⟨rfl, k1⟩ kp1
 refine ⟨fun i hi => .inl hi, ?_⟩
 have hG1 := k.holds hG kp1
 have n1 := kp1.1
 (refine Go.run (g:=?_))
 refine GoR.call rfl rfl rfl rfl rfl rfl rfl (((unhex_spec w hw h0 _ hG1.gh).argA).mono ?_)
 rintro _ H2 ⟨a, cap, zs, rfl, S, ow, zl, hz⟩ s2
 have k2 := k1.same s2
 obtain ⟨a1, c1, g1, R1, o1⟩ := k2
 have hb1 := AHeap.lt g1
 have S' := fun o => S.put (b := b) (fun hi => by have := ow b hi; omega) o
 have e0 : (bad || (hxP w).isNone) = (bad || !(hxP w).isSome) := by cases hxP w <;> rfl
 rw [e0]
 generalize (hxP w).isSome = B at *
 cases bad <;> cases B
 ·
  (refine Go.run (g:=?_))
  (first|refine Go.finA rfl ?_|refine Go.finB rfl (hq:=?_))
  exact ⟨a, cap, zs, rfl, S' _, fun i hi => by have := ow i hi; omega, zl, hz, a1, c1, AHeap.get_put_same _ hb1 _, R1.putR o1 _, o1⟩
 ·
  (refine Go.run (g:=?_))
  (first|refine Go.finA rfl ?_|refine Go.finB rfl (hq:=?_))
  exact ⟨a, cap, zs, rfl, S' _, fun i hi => by have := ow i hi; omega, zl, hz, a1, c1, AHeap.get_put_same _ hb1 _, R1.putR o1 _, o1⟩
 ·
  (refine Go.run (g:=?_))
  (first|refine Go.finA rfl ?_|refine Go.finB rfl (hq:=?_))
  exact ⟨a, cap, zs, rfl, S' _, fun i hi => by have := ow i hi; omega, zl, hz, a1, c1, AHeap.get_put_same _ hb1 _, R1.putR o1 _, o1⟩
 ·
  (refine Go.run (g:=?_))
  (first|refine Go.finA rfl ?_|refine Go.finB rfl (hq:=?_))
  exact ⟨a, cap, zs, rfl, S' _, fun i hi => by have := ow i hi; omega, zl, hz, a1, c1, AHeap.get_put_same _ hb1 _, R1.putR o1 _, o1⟩
end Go.Proofs.YtncbbeghkpjpbaaDoor
namespace Go.Proofs.YtncbbeghkpjpbaaDoor
open Go.RowKit
set_option maxRecDepth 100000
attribute [local irreducible] Go GoR GoL
theorem kput {wr : List Nat} {h h' : AHeap} (k : Keeps wr h h') {i : Nat} {o : AObj} (e : h.get i = some o) (hn : ∀ x ∈ wr, i ≠ x) : h'.get i = some o := k.get e (fun hm => hn i hm rfl)
theorem kputP {b m i : Nat} {H H' : AHeap} {o : Option AObj} {x : AObj} (k : Keeps [b] (H.put m o) H') (e : H.get i = some x) (h1 : i ≠ m) (h2 : i ≠ b) : H'.get i = some x := kput k (by rw [AHeap.get_put_ne _ _ (Ne.symm h1)]; exact e) (by simpa using h2)
theorem kputS {b m : Nat} {H H' : AHeap} {x y : AObj} (k : Keeps [b] (H.put m (some x)) H') (g : H.get m = some y) (h2 : m ≠ b) : H'.get m = some x := kput k (AHeap.get_put_same _ (AHeap.lt g) _) (by simpa using h2)
structure RopOk (h : AHeap) (n0 : Nat) (o : OpV) : Prop where
 ok : OpOk' h o
 bk : o.blk = false
 oA : Own n0 o.aa
 oD : Own n0 o.da
abbrev opZ : OpV := ⟨0, 0, none, 0, [], 0, 0, false, 0, none, 0, [], false⟩
def RcPost (h0 : AHeap) (b : Nat) (ws : List W) (bad : Bool) (v : Value) (h' : AHeap) : Prop := ∃ o : OpV, v = .tuple #[o.v, .bool (opP ws).isSome] ∧ ∀ q pm, opP ws = some (q, pm) → (∃ r', RdI h' 78 b r' (bad || q)) ∧ (q = false → o.pm = pm) ∧ RopOk h' h0.n o
set_option maxHeartbeats 32000000 in
theorem rcall_spec (b : Nat) (ws : List W) (bad : Bool) (hw : ∀ w ∈ ws, w.length ≤ 1000000) (hl : ws.length ≤ 900000) (h : AHeap) (k : RdI h 78 b ws bad) : CallS Tryd.prog [b] 37 [.pointer (some ⟨b, 0, none⟩)] h (RcPost h b ws bad) := by
 (refine CallS.of1 Tryd.func37 rfl Tryd.ntmps37 Tryd.results37 rfl ?_)
 have e16 : w16 = 65535 := rfl
 have e32 : w32 = 4294967295 := rfl
 have hb0 : b < h.n := by obtain ⟨_, _, g, -⟩ := k; exact AHeap.lt g
 cases ws with
 | nil =>
  obtain ⟨a, cap, g, hR, ho⟩ := k
  have hno : opP [] = none := rfl
  (refine Go.run (g:=?_))
  (refine Go.fin (by first|exact .inr rfl|exact .inl rfl) (.cellN rfl inferInstance hg_ (by first | exact Nat.le_refl _ | (simp [setL, cellsL]; fail_if_success focus skip) | (simp; omega)) rfl (.tmp rfl .nil)) ?_)
  unfold RcPost
  rw [hno]
  exact ⟨opZ, rfl, fun q pm hq => by cases hq⟩
 | cons w r =>
  obtain ⟨a, cap, g, hR, ho⟩ := id k
  rw [List.length_cons] at g hR
  (refine Go.run (g:=?_))
  refine GoR.name ?_
  intro H0 e0
  have s0 : Same h H0 := by rw [e0]; exact (((Same.refl h).push _).push _).put (by show h.n ≤ h.n + 1; omega) _
  have g0 : H0.get (h.n + 1) = some (.cells opZ.cs 43) := by rw [e0]; exact AHeap.get_put_same _ (by show h.n + 1 < h.n + 1 + 1; omega) _
  have gr : H0.get h.n = some (.cells opZ.cs 43) := by rw [e0, AHeap.get_put_ne _ _ (by simp only [AHeap.n_push]; omega), AHeap.get_push_ne _ _ (by simp), AHeap.get_push_same]; rfl
  have n0 : H0.n = h.n + 2 := by rw [e0]; rfl
  clear e0
  simp only [AHeap.n_push, AHeap.n_put]
  refine GoR.callW rfl rfl rfl rfl rfl rfl rfl (((take_spec b w r bad _ (k.same s0)).argA).mono ?_)
  rintro _ H1 ⟨rfl, k1⟩ kp1
  refine ⟨fun i hi => .inl hi, ?_⟩
  replace g0 := kput kp1 g0 (by simp; omega)
  replace gr := kput kp1 gr (by simp; omega)
  have n1 := kp1.1
  (refine Go.run (g:=?_))
  refine GoR.call rfl rfl rfl rfl rfl rfl rfl (((many_spec w _).argA).mono ?_)
  rintro _ H1 ⟨rfl, rfl⟩ s2
  clear s2 g hR ho
  by_cases q : w = connW
  case pos =>
   have z0 : decide (w = connW) = true := by rw [q]; decide
   have z1 : decide (w = sendW) = false := by rw [q]; decide
   have z2 : decide (w = recvW) = false := by rw [q]; decide
   have z3 : decide (w = shutW) = false := by rw [q]; decide
   have z4 : decide (w = abortW) = false := by rw [q]; decide
   have z5 : decide (w = peelW) = false := by rw [q]; decide
   have z6 : decide (w = closeW) = false := by rw [q]; decide
   have z7 : decide (w = noteW) = false := by rw [q]; decide
   have hm : manyP w = (1, 1000000) := by rw [q]; rfl
   rw [hm]
   dsimp only
   match r, hw, hl, k, k1 with
   | [], _, _, _, k1 =>
    obtain ⟨a1, c1, g1, R1, o1⟩ := k1
    skip
    have hno : opP [w] = none := by rw [q]; rfl
    (refine Go.run (g:=?_))
    (refine Go.fin (by first|exact .inr rfl|exact .inl rfl) (.cellN rfl inferInstance hg_ (by first | exact Nat.le_refl _ | (simp [setL, cellsL]; fail_if_success focus skip) | (simp; omega)) rfl (.tmp rfl .nil)) ?_)
    unfold RcPost
    rw [hno]
    exact ⟨opZ, rfl, fun q pm hq => by cases hq⟩
   | xp :: l, hw, hl, _, k1 =>
    have hxp := hw xp (by simp)
    have hwl : ∀ x ∈ l, x.length ≤ 1000000 := fun x hx => hw x (by simp [hx])
    have hop : opP (w :: xp :: l) = some (ubad w16 xp || l.any (ubad w32), { ok := 1, port := upD w16 xp, ads := l.map (upD w32) }) := by rw [q]; rfl
    obtain ⟨a1, c1, g1, R1, o1⟩ := id k1
    rw [List.length_cons] at g1
    simp only [List.length_cons] at hl
    (refine Go.run (g:=?_))
    refine GoR.callW rfl rfl rfl rfl rfl rfl rfl (((upto_spec w16 (by decide) (by decide) b xp l bad (by omega) _ (k1.putO (by omega) _)).argA).mono ?_)
    rintro _ H2 ⟨u, rfl, u0, u1, hu, k2⟩ kp2
    refine ⟨fun i hi => .inl hi, ?_⟩
    obtain ⟨pu, rfl⟩ : ∃ p : Nat, u = p := ⟨u.toNat, by omega⟩
    have g2 := kputS kp2 g0 (by omega)
    have gr2 := kputP kp2 gr (by omega) (by omega)
    have n2 := kp2.1
    rw [AHeap.n_put] at n2
    clear g1 R1 g0 gr kp2 k1
    (refine Go.run (g:=?_))
    refine Go.name ?_
    intro H3 e3
    have k3 : RdI H3 78 b l (bad || ubad w16 xp) := by rw [e3]; exact k2.putO (by omega) _
    have g3 : H3.get (h.n + 1) = some (.cells (OpV.cs ⟨1, 0, none, 0, [], pu, 0, false, 0, none, 0, [], false⟩) 43) := by rw [e3]; exact AHeap.get_put_same _ (AHeap.lt g2) _
    have gr3 : H3.get h.n = some (.cells opZ.cs 43) := by rw [e3, AHeap.get_put_ne _ _ (by omega)]; exact gr2
    have n3 : H3.n = H2.n := by rw [e3]; rfl
    clear e3 g2 gr2 k2
    refine Go.loop (α := List W × List W × List Nat × Option Addr × Nat × AHeap) (fun x => [(0, .pointer (some ⟨b, 0, none⟩)), (2, .pointer (some ⟨h.n, 0, none⟩)), (4, .pointer (some ⟨h.n + 1, 0, none⟩))]) (fun _ => []) (fun x => x.2.2.2.2.2) (fun x => x.1 ++ x.2.1 = l ∧ x.2.2.1.length = x.1.length ∧ RdI x.2.2.2.2.2 78 b x.2.1 (bad || ubad w16 xp || x.1.any (ubad w32)) ∧ x.2.2.2.2.2.get (h.n + 1) = some (.cells (OpV.cs ⟨1, 0, x.2.2.2.1, x.2.2.2.2.1, x.2.2.1, pu, 0, false, 0, none, 0, [], false⟩) 43) ∧ x.2.2.2.2.2.get h.n = some (.cells opZ.cs 43) ∧ Sv x.2.2.2.2.2 30 1 x.2.2.2.1 x.2.2.1.length x.2.2.2.2.1 (x.2.2.1.map u32v) ∧ Own (h.n + 2) x.2.2.2.1 ∧ h.n + 2 ≤ x.2.2.2.2.2.n ∧ (∀ y ∈ x.2.2.1, y < 4294967296) ∧ (x.1.any (ubad w32) = false → x.2.2.1 = x.1.map (upD w32))) (fun x => x.2.1.length) ([], l, [], none, 0, H3) ⟨rfl, rfl, by rw [List.any_nil, Bool.or_false]; exact k3, g3, gr3, .nil, Own.nil _, (by show h.n + 2 ≤ H3.n; omega), (fun y hy => by cases hy), fun _ => rfl⟩ ⟨rfl, rfl, rfl, trivial⟩ rfl rfl ?_
    rintro ⟨dn, rs, ads, oa, oc, H⟩ ⟨hdl, hln, kR, gO, gR, S, ow, hn, hb32, hads⟩
    simp only at hdl hln kR gO gR S ow hn hb32 hads ⊢
    dsimp only [OpV.cs] at gO
    have hll : dn.length + rs.length = l.length := by rw [← hdl, List.length_append]
    obtain ⟨a1, c1, g1, R1, o1⟩ := id kR
    cases rs with
    | nil =>
     rw [List.append_nil] at hdl
     subst hdl
     (refine Go.run (g:=?_))
     (refine Go.fin (by first|exact .inr rfl|exact .inl rfl) (.cellN rfl inferInstance hg_ (by first | exact Nat.le_refl _ | (simp [setL, cellsL]; fail_if_success focus skip) | (simp; omega)) rfl (.tmp rfl .nil)) ?_)
     unfold RcPost
     rw [hop]
     refine ⟨⟨1, 0, oa, oc, ads, pu, 0, false, 0, none, 0, [], false⟩, rfl, fun q' pm hq => ?_⟩
     injection hq with hq
     injection hq with hq1 hq2
     subst hq1 hq2
     refine ⟨⟨[], by rw [← Bool.or_assoc]; exact kR.putO hb0 _⟩, fun hb => ?_, ⟨⟨(by show 1 < 256; decide), (by show -9223372036854775808 ≤ (0 : Int); decide), (by show (0 : Int) < 9223372036854775808; decide), S.rv.put (fun hi => by have := ow _ hi; omega) _, hb32, (by show ads.length ≤ 2000000; omega), (by show pu < 65536; omega), (by show 0 < 65536; decide), (by show 0 < 4294967296; decide), .nil, (by show 0 ≤ 2000000; decide)⟩, rfl, fun i hi => by have := ow i hi; omega, Own.nil _⟩⟩
     simp only [Bool.or_eq_false_iff] at hb
     have e2 := up_get hu u0 hb.1
     show OpV.pm _ = _
     rw [show pu = upD w16 xp by omega, hads hb.2]
     rfl
    | cons x rs =>
     rw [List.length_cons] at g1
     have hx : x.length ≤ 1000000 := hwl x (by rw [← hdl]; simp)
     refine Go.runN (g:=?_)
     refine Go.loud (by kernel_rfl) rfl ?_
     (refine Go.runL (g:=?_))
     refine GoL.call rfl rfl rfl rfl rfl rfl rfl (((upto_spec w32 (by decide) (by decide) b x rs _ (by omega) _ kR).argA).mono ?_)
     rintro _ H4 ⟨v, rfl, v0, v1, hv, k4⟩ kp4
     refine ⟨fun i hi => .inl hi, ?_⟩
     obtain ⟨pv, rfl⟩ : ∃ p : Nat, v = p := ⟨v.toNat, by omega⟩
     have g4 := kput kp4 gO (by simp; omega)
     have gr4 := kput kp4 gR (by simp; omega)
     have n4 := kp4.1
     have S4 := S.keeps kp4 (fun i hi hm => by simp only [List.mem_singleton] at hm; have := ow _ hi; omega)
     (refine Go.runL (g:=?_))
     refine GoL.buildRo (c := [pv].map u32v) rfl rfl rfl rfl rfl (by decide) (by rfl) (by rfl) ?_
     intro b5 H5 r5 ro5 ow5 s5 n5
     refine GoL.appendV rfl rfl rfl rfl rfl rfl (S4.same s5) r5 (fun i hi => .inr (by have := ow _ hi; omega)) (by omega) (by omega) (by rfl) ?_
     intro b6 c6 H6 rd wr hwr hrd v6 k6 o6
     rw [← List.map_append] at v6
     have g6 := k6.get (s5.get g4) (fun hi => by have := ow _ hi; omega)
     have gr6 := k6.get (s5.get gr4) (fun hi => by have := ow _ hi; omega)
     have n6 := k6.1
     have m5 := s5.1
     (refine Go.runL (g:=?_))
     refine GoL.st (g:=?_)
     refine GoL.end_ (hl := by (simp only [List.nil_append, List.cons_append]); repeat (first | exact loudP.nil | refine loudP.none ?_ | refine loudP.new (fun _ hb => absurd hb List.not_mem_nil) ?_ | refine loudP.row (by repeat (first | exact loudRowP.nil | refine loudRowP.none ?_ | refine loudRowP.bef (by decide +kernel) ?_ | refine loudRowP.apart (by first | exact .inl rfl | exact .inr (by simp)) rfl (by intro i hi; simp only [List.mem_singleton] at hi; subst hi; simp; omega) ?_)) ?_)) ?_
     (refine Go.run (g:=?_))
     refine Go.name ?_
     intro H7 e7
     have k7 : RdI H7 78 b rs (bad || ubad w16 xp || (dn ++ [x]).any (ubad w32)) := by
      rw [e7]
      have := (k4.same s5).keeps k6 (fun i hi => ow i hi) (by omega)
      rw [List.any_append, List.any_cons, List.any_nil, Bool.or_false, ← Bool.or_assoc]
      exact this.putO (by omega) _
     have g7 : H7.get (h.n + 1) = some (.cells (OpV.cs ⟨1, 0, b6, c6, ads ++ [pv], pu, 0, false, 0, none, 0, [], false⟩) 43) := by
      rw [e7, AHeap.get_put_same _ (AHeap.lt g6), show ads.length + 1 = (ads ++ [pv]).length from by simp]
      rfl
     have gr7 : H7.get h.n = some (.cells opZ.cs 43) := by rw [e7, AHeap.get_put_ne _ _ (by omega)]; exact gr6
     have ow7 : Own (h.n + 2) b6 := fun i hi => (o6 i hi).elim (ow i) (fun e => by omega)
     have v7 : Sv H7 30 1 b6 (ads ++ [pv]).length c6 ((ads ++ [pv]).map u32v) := by rw [e7, List.length_append]; exact v6.put (fun hi => by have := ow7 _ hi; omega) _
     have n7 : H7.n = H6.n := by rw [e7]; rfl
     clear e7
     refine Go.again (dn ++ [x], rs, ads ++ [pv], b6, c6, H7) ⟨by show (dn ++ [x]) ++ rs = l; rw [← hdl]; simp, by show (ads ++ [pv]).length = (dn ++ [x]).length; simp [hln], k7, g7, gr7, v7, ow7, by show h.n + 2 ≤ H7.n; omega, ?_, fun hf => ?_⟩ (by show rs.length < rs.length + 1; omega) ⟨rfl, rfl, rfl, trivial⟩ rfl rfl
     ·
      intro y hy
      rcases List.mem_append.1 hy with hy | hy
      · exact hb32 y hy
      ·
       obtain rfl := List.mem_singleton.1 hy
       show y < 4294967296; omega
     ·
      rw [List.any_append, List.any_cons, List.any_nil, Bool.or_false, Bool.or_eq_false_iff] at hf
      show ads ++ [pv] = (dn ++ [x]).map (upD w32)
      have e3 := up_get hv v0 hf.2
      rw [List.map_append, ← hads hf.1, show pv = upD w32 x by omega]
      rfl
  have q0 := q
  clear q
  by_cases q : w = sendW
  case pos =>
   have z0 : decide (w = connW) = false := by rw [q]; decide
   have z1 : decide (w = sendW) = true := by rw [q]; decide
   have z2 : decide (w = recvW) = false := by rw [q]; decide
   have z3 : decide (w = shutW) = false := by rw [q]; decide
   have z4 : decide (w = abortW) = false := by rw [q]; decide
   have z5 : decide (w = peelW) = false := by rw [q]; decide
   have z6 : decide (w = closeW) = false := by rw [q]; decide
   have z7 : decide (w = noteW) = false := by rw [q]; decide
   have hm : manyP w = (4, 5) := by rw [q]; rfl
   rw [hm]
   dsimp only
   match r, hw, hl, k, k1 with
   | [], _, _, _, k1 =>
    obtain ⟨a1, c1, g1, R1, o1⟩ := k1
    skip
    have hno : opP [w] = none := by rw [q]; rfl
    (refine Go.run (g:=?_))
    (refine Go.fin (by first|exact .inr rfl|exact .inl rfl) (.cellN rfl inferInstance hg_ (by first | exact Nat.le_refl _ | (simp [setL, cellsL]; fail_if_success focus skip) | (simp; omega)) rfl (.tmp rfl .nil)) ?_)
    unfold RcPost
    rw [hno]
    exact ⟨opZ, rfl, fun q pm hq => by cases hq⟩
   | [a], _, _, _, k1 =>
    obtain ⟨a1, c1, g1, R1, o1⟩ := k1
    skip
    have hno : opP [w, a] = none := by rw [q]; rfl
    (refine Go.run (g:=?_))
    (refine Go.fin (by first|exact .inr rfl|exact .inl rfl) (.cellN rfl inferInstance hg_ (by first | exact Nat.le_refl _ | (simp [setL, cellsL]; fail_if_success focus skip) | (simp; omega)) rfl (.tmp rfl .nil)) ?_)
    unfold RcPost
    rw [hno]
    exact ⟨opZ, rfl, fun q pm hq => by cases hq⟩
   | [a, b], _, _, _, k1 =>
    obtain ⟨a1, c1, g1, R1, o1⟩ := k1
    skip
    have hno : opP [w, a, b] = none := by rw [q]; rfl
    (refine Go.run (g:=?_))
    (refine Go.fin (by first|exact .inr rfl|exact .inl rfl) (.cellN rfl inferInstance hg_ (by first | exact Nat.le_refl _ | (simp [setL, cellsL]; fail_if_success focus skip) | (simp; omega)) rfl (.tmp rfl .nil)) ?_)
    unfold RcPost
    rw [hno]
    exact ⟨opZ, rfl, fun q pm hq => by cases hq⟩
   | [a, b, c], _, _, _, k1 =>
    obtain ⟨a1, c1, g1, R1, o1⟩ := k1
    skip
    have hno : opP [w, a, b, c] = none := by rw [q]; rfl
    (refine Go.run (g:=?_))
    (refine Go.fin (by first|exact .inr rfl|exact .inl rfl) (.cellN rfl inferInstance hg_ (by first | exact Nat.le_refl _ | (simp [setL, cellsL]; fail_if_success focus skip) | (simp; omega)) rfl (.tmp rfl .nil)) ?_)
    unfold RcPost
    rw [hno]
    exact ⟨opZ, rfl, fun q pm hq => by cases hq⟩
   | a :: b :: c :: d :: e :: f :: t, _, _, _, k1 =>
    obtain ⟨a1, c1, g1, R1, o1⟩ := k1
    rw [List.length_cons, List.length_cons, List.length_cons, List.length_cons, List.length_cons, List.length_cons] at g1
    have hno : opP (w :: a :: b :: c :: d :: e :: f :: t) = none := by rw [q]; rfl
    (refine Go.run (g:=?_))
    (refine Go.fin (by first|exact .inr rfl|exact .inl rfl) (.cellN rfl inferInstance hg_ (by first | exact Nat.le_refl _ | (simp [setL, cellsL]; fail_if_success focus skip) | (simp; omega)) rfl (.tmp rfl .nil)) ?_)
    unfold RcPost
    rw [hno]
    exact ⟨opZ, rfl, fun q pm hq => by cases hq⟩
   | [xa, xb, xc, xd], hw, hl, _, k1 =>
    have hxa := hw xa (by simp)
    have hxb := hw xb (by simp)
    have hxc := hw xc (by simp)
    have hxd := hw xd (by simp)
    have hop : opP [w, xa, xb, xc, xd] = some (nbad xa || ubad w16 xb || ubad w32 xc || hbad xd, { ok := 2, id := numD xa, sid := upD w16 xb, ppid := upD w32 xc, zs := hxD xd }) := by rw [q]; rfl
    obtain ⟨un, hun⟩ : ∃ u, u = false := ⟨_, rfl⟩
    obtain ⟨rr, hrr⟩ : ∃ r : List W, r = [] := ⟨_, rfl⟩
    rw [← hrr] at k1
    obtain ⟨a1, c1, g1, R1, o1⟩ := id k1
    rw [hrr] at g1
    replace g1 : H1.get b = some (.cells [.slice a1 4 c1, .bool bad] 78) := g1
    (refine Go.run (g:=?_))
    refine GoR.name ?_
    intro H2 e2
    have k2 : RdI H2 78 b (xa :: xb :: xc :: xd :: rr) bad := by rw [e2]; exact (k1.putO (by omega) _).putO (by omega) _
    have g2 : H2.get (h.n + 1) = some (.cells (OpV.cs { opZ with k := 2, un := un }) 43) := by rw [e2, hun]; exact AHeap.get_put_same _ (by rw [AHeap.n_put]; exact AHeap.lt g0) _
    have gr2 : H2.get h.n = some (.cells opZ.cs 43) := by rw [e2, AHeap.get_put_ne _ _ (by omega), AHeap.get_put_ne _ _ (by omega)]; exact gr
    have n2 : H2.n = H1.n := by rw [e2]; rfl
    clear e2 g1 R1 g0 gr k1
    (refine Go.run (g:=?_))
    refine GoR.callW rfl rfl rfl rfl rfl rfl rfl (((num_spec b xa (xb :: xc :: xd :: rr) bad (by omega) _ k2).argA).mono ?_)
    rintro _ H3 ⟨n, rfl, m0, m1, hn, k3⟩ kp3
    refine ⟨fun i hi => .inl hi, ?_⟩
    have g3 := kput kp3 g2 (by simp; omega)
    have gr3 := kput kp3 gr2 (by simp; omega)
    have n3 := kp3.1
    (refine Go.run (g:=?_))
    refine GoR.callW rfl rfl rfl rfl rfl rfl rfl (((upto_spec w16 (by decide) (by decide) b xb (xc :: xd :: rr) (bad || nbad xa) (by omega) _ (k3.putO (by omega) _)).argA).mono ?_)
    rintro _ H4 ⟨u, rfl, u0, u1, hu, k4⟩ kp4
    refine ⟨fun i hi => .inl hi, ?_⟩
    obtain ⟨pu, rfl⟩ : ∃ p : Nat, u = p := ⟨u.toNat, by omega⟩
    have g4 := kputS kp4 g3 (by omega)
    have gr4 := kputP kp4 gr3 (by omega) (by omega)
    have n4 := kp4.1
    rw [AHeap.n_put] at n4
    clear g3 gr3 kp3 kp4 k3 g2 gr2 k2
    (refine Go.run (g:=?_))
    refine GoR.callW rfl rfl rfl rfl rfl rfl rfl (((upto_spec w32 (by decide) (by decide) b xc (xd :: rr) (bad || nbad xa || ubad w16 xb) (by omega) _ (k4.putO (by omega) _)).argA).mono ?_)
    rintro _ H5 ⟨u, rfl, v0, v1, hv, k5⟩ kp5
    refine ⟨fun i hi => .inl hi, ?_⟩
    obtain ⟨pv, rfl⟩ : ∃ p : Nat, u = p := ⟨u.toNat, by omega⟩
    have g5 := kputS kp5 g4 (by omega)
    have gr5 := kputP kp5 gr4 (by omega) (by omega)
    have n5 := kp5.1
    rw [AHeap.n_put] at n5
    clear g4 gr4 kp5 k4
    (refine Go.run (g:=?_))
    refine GoR.callW rfl rfl rfl rfl rfl rfl rfl (((rbytes_spec b xd rr (bad || nbad xa || ubad w16 xb || ubad w32 xc) (by omega) _ (k5.putO (by omega) _)).argA).mono ?_)
    rintro _ H6 ⟨ba, bc, zs, rfl, S6, ow6, zl, hz, k6⟩ kp6
    refine ⟨fun i hi => .inl hi, ?_⟩
    have g6 := kputS kp6 g5 (by omega)
    have gr6 := kputP kp6 gr5 (by omega) (by omega)
    have n6 := kp6.1
    rw [AHeap.n_put] at n6 ow6
    clear g5 gr5 kp6 k5
    (refine Go.run (g:=?_))
    (refine Go.fin (by first|exact .inr rfl|exact .inl rfl) (.cellN rfl inferInstance hg_ (by first | exact Nat.le_refl _ | (simp [setL, cellsL]; fail_if_success focus skip) | (simp; omega)) rfl (.tmp rfl .nil)) ?_)
    unfold RcPost
    rw [hop]
    refine ⟨⟨2, n, none, 0, [], 0, pu, un, pv, ba, bc, zs, false⟩, rfl, fun q' pm hq => ?_⟩
    injection hq with hq
    injection hq with hq1 hq2
    subst hq1 hq2
    refine ⟨⟨rr, ?_⟩, fun hb => ?_, ⟨⟨(by show 2 < 256; decide), m0, m1, .nil, (fun x hx => by cases hx), (by show 0 ≤ 2000000; decide), (by show 0 < 65536; decide), (by show pu < 65536; omega), (by show pv < 4294967296; omega), ?_, (by show zs.length ≤ 2000000; omega)⟩, rfl, Own.nil _, fun i hi => by have := ow6 i hi; omega⟩⟩
    ·
     rw [show (bad || (nbad xa || ubad w16 xb || ubad w32 xc || hbad xd)) = (bad || nbad xa || ubad w16 xb || ubad w32 xc || hbad xd) from by simp only [Bool.or_assoc]]
     exact (k6.putO (n := h.n + 1) (by omega) _).putO (n := h.n) hb0 _
    ·
     simp only [Bool.or_eq_false_iff] at hb
     obtain ⟨⟨⟨b1, b2⟩, b3⟩, b4⟩ := hb
     have e2 := up_get hu u0 b2
     have e3 := up_get hv v0 b3
     show OpV.pm _ = _
     rw [num_get hn b1, hx_get hz b4, show pu = upD w16 xb by omega, show pv = upD w32 xc by omega, hun]
     rfl
    · exact (S6.rv.put (fun hi => by have := ow6 _ hi; omega) _).put (fun hi => by have := ow6 _ hi; omega) _
   | [xa, xb, xc, xd, xe], hw, hl, _, k1 =>
    have hxa := hw xa (by simp)
    have hxb := hw xb (by simp)
    have hxc := hw xc (by simp)
    have hxd := hw xd (by simp)
    obtain ⟨un, hun⟩ : ∃ u, u = true := ⟨_, rfl⟩
    obtain ⟨rr, hrr⟩ : ∃ r : List W, r = [xe] := ⟨_, rfl⟩
    rw [← hrr] at k1
    obtain ⟨a1, c1, g1, R1, o1⟩ := id k1
    rw [hrr] at g1 R1
    replace g1 : H1.get b = some (.cells [.slice a1 5 c1, .bool bad] 78) := g1
    replace R1 : Rv Tryd.prog H1 1 a1 5 c1 [stv xa, stv xb, stv xc, stv xd, stv xe] := R1
    (refine Go.run (g:=?_))
    refine GoR.name ?_
    intro H2 e2
    have k2 : RdI H2 78 b (xa :: xb :: xc :: xd :: rr) bad := by rw [e2]; exact (k1.putO (by omega) _).putO (by omega) _
    have R2 : Rv Tryd.prog H2 1 a1 5 c1 [stv xa, stv xb, stv xc, stv xd, stv xe] := by rw [e2]; exact (R1.putR (fun i hi => by have := o1 i hi; omega) _).putR (fun i hi => by have := o1 i hi; omega) _
    have g2 : H2.get (h.n + 1) = some (.cells (OpV.cs { opZ with k := 2, un := un }) 43) := by rw [e2, hun]; exact AHeap.get_put_same _ (by rw [AHeap.n_put]; exact AHeap.lt g0) _
    have gr2 : H2.get h.n = some (.cells opZ.cs 43) := by rw [e2, AHeap.get_put_ne _ _ (by omega), AHeap.get_put_ne _ _ (by omega)]; exact gr
    have n2 : H2.n = H1.n := by rw [e2]; rfl
    clear e2 g1 R1 g0 gr k1
    by_cases qe : xe = unordW
    case neg =>
     have ze : decide (xe = unordW) = false := decide_eq_false qe
     have hno : opP [w, xa, xb, xc, xd, xe] = none := by rw [q]; simp only [opP]; rw [if_neg (by decide), if_pos trivial, if_neg qe]
     (refine Go.run (g:=?_))
     (refine Go.fin (by first|exact .inr rfl|exact .inl rfl) (.cellN rfl inferInstance hg_ (by first | exact Nat.le_refl _ | (simp [setL, cellsL]; fail_if_success focus skip) | (simp; omega)) rfl (.tmp rfl .nil)) ?_)
     unfold RcPost
     rw [hno]
     exact ⟨⟨2, 0, none, 0, [], 0, 0, un, 0, none, 0, [], false⟩, rfl, fun q pm hq => by cases hq⟩
    have ze : decide (xe = unordW) = true := decide_eq_true qe
    have hop : opP [w, xa, xb, xc, xd, xe] = some (nbad xa || ubad w16 xb || ubad w32 xc || hbad xd, { ok := 2, id := numD xa, sid := upD w16 xb, un := true, ppid := upD w32 xc, zs := hxD xd }) := by rw [q, qe]; rfl
    (refine Go.run (g:=?_))
    refine GoR.callW rfl rfl rfl rfl rfl rfl rfl (((num_spec b xa (xb :: xc :: xd :: rr) bad (by omega) _ k2).argA).mono ?_)
    rintro _ H3 ⟨n, rfl, m0, m1, hn, k3⟩ kp3
    refine ⟨fun i hi => .inl hi, ?_⟩
    have g3 := kput kp3 g2 (by simp; omega)
    have gr3 := kput kp3 gr2 (by simp; omega)
    have n3 := kp3.1
    (refine Go.run (g:=?_))
    refine GoR.callW rfl rfl rfl rfl rfl rfl rfl (((upto_spec w16 (by decide) (by decide) b xb (xc :: xd :: rr) (bad || nbad xa) (by omega) _ (k3.putO (by omega) _)).argA).mono ?_)
    rintro _ H4 ⟨u, rfl, u0, u1, hu, k4⟩ kp4
    refine ⟨fun i hi => .inl hi, ?_⟩
    obtain ⟨pu, rfl⟩ : ∃ p : Nat, u = p := ⟨u.toNat, by omega⟩
    have g4 := kputS kp4 g3 (by omega)
    have gr4 := kputP kp4 gr3 (by omega) (by omega)
    have n4 := kp4.1
    rw [AHeap.n_put] at n4
    clear g3 gr3 kp3 kp4 k3 g2 gr2 k2
    (refine Go.run (g:=?_))
    refine GoR.callW rfl rfl rfl rfl rfl rfl rfl (((upto_spec w32 (by decide) (by decide) b xc (xd :: rr) (bad || nbad xa || ubad w16 xb) (by omega) _ (k4.putO (by omega) _)).argA).mono ?_)
    rintro _ H5 ⟨u, rfl, v0, v1, hv, k5⟩ kp5
    refine ⟨fun i hi => .inl hi, ?_⟩
    obtain ⟨pv, rfl⟩ : ∃ p : Nat, u = p := ⟨u.toNat, by omega⟩
    have g5 := kputS kp5 g4 (by omega)
    have gr5 := kputP kp5 gr4 (by omega) (by omega)
    have n5 := kp5.1
    rw [AHeap.n_put] at n5
    clear g4 gr4 kp5 k4
    (refine Go.run (g:=?_))
    refine GoR.callW rfl rfl rfl rfl rfl rfl rfl (((rbytes_spec b xd rr (bad || nbad xa || ubad w16 xb || ubad w32 xc) (by omega) _ (k5.putO (by omega) _)).argA).mono ?_)
    rintro _ H6 ⟨ba, bc, zs, rfl, S6, ow6, zl, hz, k6⟩ kp6
    refine ⟨fun i hi => .inl hi, ?_⟩
    have g6 := kputS kp6 g5 (by omega)
    have gr6 := kputP kp6 gr5 (by omega) (by omega)
    have n6 := kp6.1
    rw [AHeap.n_put] at n6 ow6
    clear g5 gr5 kp6 k5
    (refine Go.run (g:=?_))
    (refine Go.fin (by first|exact .inr rfl|exact .inl rfl) (.cellN rfl inferInstance hg_ (by first | exact Nat.le_refl _ | (simp [setL, cellsL]; fail_if_success focus skip) | (simp; omega)) rfl (.tmp rfl .nil)) ?_)
    unfold RcPost
    rw [hop]
    refine ⟨⟨2, n, none, 0, [], 0, pu, un, pv, ba, bc, zs, false⟩, rfl, fun q' pm hq => ?_⟩
    injection hq with hq
    injection hq with hq1 hq2
    subst hq1 hq2
    refine ⟨⟨rr, ?_⟩, fun hb => ?_, ⟨⟨(by show 2 < 256; decide), m0, m1, .nil, (fun x hx => by cases hx), (by show 0 ≤ 2000000; decide), (by show 0 < 65536; decide), (by show pu < 65536; omega), (by show pv < 4294967296; omega), ?_, (by show zs.length ≤ 2000000; omega)⟩, rfl, Own.nil _, fun i hi => by have := ow6 i hi; omega⟩⟩
    ·
     rw [show (bad || (nbad xa || ubad w16 xb || ubad w32 xc || hbad xd)) = (bad || nbad xa || ubad w16 xb || ubad w32 xc || hbad xd) from by simp only [Bool.or_assoc]]
     exact (k6.putO (n := h.n + 1) (by omega) _).putO (n := h.n) hb0 _
    ·
     simp only [Bool.or_eq_false_iff] at hb
     obtain ⟨⟨⟨b1, b2⟩, b3⟩, b4⟩ := hb
     have e2 := up_get hu u0 b2
     have e3 := up_get hv v0 b3
     show OpV.pm _ = _
     rw [num_get hn b1, hx_get hz b4, show pu = upD w16 xb by omega, show pv = upD w32 xc by omega, hun]
     rfl
    · exact (S6.rv.put (fun hi => by have := ow6 _ hi; omega) _).put (fun hi => by have := ow6 _ hi; omega) _
  have q1 := q
  clear q
  by_cases q : w = recvW
  case pos =>
   have z0 : decide (w = connW) = false := by rw [q]; decide
   have z1 : decide (w = sendW) = false := by rw [q]; decide
   have z2 : decide (w = recvW) = true := by rw [q]; decide
   have z3 : decide (w = shutW) = false := by rw [q]; decide
   have z4 : decide (w = abortW) = false := by rw [q]; decide
   have z5 : decide (w = peelW) = false := by rw [q]; decide
   have z6 : decide (w = closeW) = false := by rw [q]; decide
   have z7 : decide (w = noteW) = false := by rw [q]; decide
   have hm : manyP w = (1, 1) := by rw [q]; rfl
   rw [hm]
   dsimp only
   match r, hw, hl, k, k1 with
   | [], _, _, _, k1 =>
    obtain ⟨a1, c1, g1, R1, o1⟩ := k1
    skip
    have hno : opP [w] = none := by rw [q]; rfl
    (refine Go.run (g:=?_))
    (refine Go.fin (by first|exact .inr rfl|exact .inl rfl) (.cellN rfl inferInstance hg_ (by first | exact Nat.le_refl _ | (simp [setL, cellsL]; fail_if_success focus skip) | (simp; omega)) rfl (.tmp rfl .nil)) ?_)
    unfold RcPost
    rw [hno]
    exact ⟨opZ, rfl, fun q pm hq => by cases hq⟩
   | x :: y :: t, _, _, _, k1 =>
    obtain ⟨a1, c1, g1, R1, o1⟩ := k1
    rw [List.length_cons, List.length_cons] at g1
    have hno : opP (w :: x :: y :: t) = none := by rw [q]; rfl
    (refine Go.run (g:=?_))
    (refine Go.fin (by first|exact .inr rfl|exact .inl rfl) (.cellN rfl inferInstance hg_ (by first | exact Nat.le_refl _ | (simp [setL, cellsL]; fail_if_success focus skip) | (simp; omega)) rfl (.tmp rfl .nil)) ?_)
    unfold RcPost
    rw [hno]
    exact ⟨opZ, rfl, fun q pm hq => by cases hq⟩
   | [x], hw, hl, _, k1 =>
    have hx := hw x (List.mem_cons_of_mem _ (List.mem_cons_self ..))
    have hop : opP [w, x] = some (nbad x, { ok := 3, id := numD x }) := by rw [q]; rfl
    obtain ⟨a1, c1, g1, R1, o1⟩ := id k1
    rw [List.length_singleton] at g1
    (refine Go.run (g:=?_))
    refine GoR.name ?_
    intro H2 e2
    have k2 : RdI H2 78 b [x] bad := by rw [e2]; exact k1.putO (by omega) _
    have g2 : H2.get (h.n + 1) = some (.cells (OpV.cs { opZ with k := 3 }) 43) := by rw [e2]; exact AHeap.get_put_same _ (AHeap.lt g0) _
    have gr2 : H2.get h.n = some (.cells opZ.cs 43) := by rw [e2, AHeap.get_put_ne _ _ (by omega)]; exact gr
    have n2 : H2.n = H1.n := by rw [e2]; rfl
    clear e2 g1 R1 g0 gr k1
    refine GoR.callW rfl rfl rfl rfl rfl rfl rfl (((num_spec b x [] bad (by omega) _ k2).argA).mono ?_)
    rintro _ H3 ⟨n, rfl, m0, m1, hn, k3⟩ kp3
    refine ⟨fun i hi => .inl hi, ?_⟩
    have g3 := kput kp3 g2 (by simp; omega)
    have gr3 := kput kp3 gr2 (by simp; omega)
    have n3 := kp3.1
    (refine Go.run (g:=?_))
    (refine Go.fin (by first|exact .inr rfl|exact .inl rfl) (.cellN rfl inferInstance hg_ (by first | exact Nat.le_refl _ | (simp [setL, cellsL]; fail_if_success focus skip) | (simp; omega)) rfl (.tmp rfl .nil)) ?_)
    unfold RcPost
    rw [hop]
    refine ⟨{ opZ with k := 3, id := n }, rfl, fun q' pm hq => ?_⟩
    injection hq with hq
    injection hq with hq1 hq2
    subst hq1 hq2
    exact ⟨⟨[], (k3.putO (by omega) _).putO hb0 _⟩, fun hb => by show OpV.pm _ = _; rw [num_get hn hb]; rfl, ⟨⟨(by show 3 < 256; decide), m0, m1, .nil, (fun x hx => by cases hx), (by show 0 ≤ 2000000; decide), (by show 0 < 65536; decide), (by show 0 < 65536; decide), (by show 0 < 4294967296; decide), .nil, (by show 0 ≤ 2000000; decide)⟩, rfl, Own.nil _, Own.nil _⟩⟩
  have q2 := q
  clear q
  by_cases q : w = shutW
  case pos =>
   have z0 : decide (w = connW) = false := by rw [q]; decide
   have z1 : decide (w = sendW) = false := by rw [q]; decide
   have z2 : decide (w = recvW) = false := by rw [q]; decide
   have z3 : decide (w = shutW) = true := by rw [q]; decide
   have z4 : decide (w = abortW) = false := by rw [q]; decide
   have z5 : decide (w = peelW) = false := by rw [q]; decide
   have z6 : decide (w = closeW) = false := by rw [q]; decide
   have z7 : decide (w = noteW) = false := by rw [q]; decide
   have hm : manyP w = (1, 1) := by rw [q]; rfl
   rw [hm]
   dsimp only
   match r, hw, hl, k, k1 with
   | [], _, _, _, k1 =>
    obtain ⟨a1, c1, g1, R1, o1⟩ := k1
    skip
    have hno : opP [w] = none := by rw [q]; rfl
    (refine Go.run (g:=?_))
    (refine Go.fin (by first|exact .inr rfl|exact .inl rfl) (.cellN rfl inferInstance hg_ (by first | exact Nat.le_refl _ | (simp [setL, cellsL]; fail_if_success focus skip) | (simp; omega)) rfl (.tmp rfl .nil)) ?_)
    unfold RcPost
    rw [hno]
    exact ⟨opZ, rfl, fun q pm hq => by cases hq⟩
   | x :: y :: t, _, _, _, k1 =>
    obtain ⟨a1, c1, g1, R1, o1⟩ := k1
    rw [List.length_cons, List.length_cons] at g1
    have hno : opP (w :: x :: y :: t) = none := by rw [q]; rfl
    (refine Go.run (g:=?_))
    (refine Go.fin (by first|exact .inr rfl|exact .inl rfl) (.cellN rfl inferInstance hg_ (by first | exact Nat.le_refl _ | (simp [setL, cellsL]; fail_if_success focus skip) | (simp; omega)) rfl (.tmp rfl .nil)) ?_)
    unfold RcPost
    rw [hno]
    exact ⟨opZ, rfl, fun q pm hq => by cases hq⟩
   | [x], hw, hl, _, k1 =>
    have hx := hw x (List.mem_cons_of_mem _ (List.mem_cons_self ..))
    have hop : opP [w, x] = some (nbad x, { ok := 4, id := numD x }) := by rw [q]; rfl
    obtain ⟨a1, c1, g1, R1, o1⟩ := id k1
    rw [List.length_singleton] at g1
    (refine Go.run (g:=?_))
    refine GoR.name ?_
    intro H2 e2
    have k2 : RdI H2 78 b [x] bad := by rw [e2]; exact k1.putO (by omega) _
    have g2 : H2.get (h.n + 1) = some (.cells (OpV.cs { opZ with k := 4 }) 43) := by rw [e2]; exact AHeap.get_put_same _ (AHeap.lt g0) _
    have gr2 : H2.get h.n = some (.cells opZ.cs 43) := by rw [e2, AHeap.get_put_ne _ _ (by omega)]; exact gr
    have n2 : H2.n = H1.n := by rw [e2]; rfl
    clear e2 g1 R1 g0 gr k1
    refine GoR.callW rfl rfl rfl rfl rfl rfl rfl (((num_spec b x [] bad (by omega) _ k2).argA).mono ?_)
    rintro _ H3 ⟨n, rfl, m0, m1, hn, k3⟩ kp3
    refine ⟨fun i hi => .inl hi, ?_⟩
    have g3 := kput kp3 g2 (by simp; omega)
    have gr3 := kput kp3 gr2 (by simp; omega)
    have n3 := kp3.1
    (refine Go.run (g:=?_))
    (refine Go.fin (by first|exact .inr rfl|exact .inl rfl) (.cellN rfl inferInstance hg_ (by first | exact Nat.le_refl _ | (simp [setL, cellsL]; fail_if_success focus skip) | (simp; omega)) rfl (.tmp rfl .nil)) ?_)
    unfold RcPost
    rw [hop]
    refine ⟨{ opZ with k := 4, id := n }, rfl, fun q' pm hq => ?_⟩
    injection hq with hq
    injection hq with hq1 hq2
    subst hq1 hq2
    exact ⟨⟨[], (k3.putO (by omega) _).putO hb0 _⟩, fun hb => by show OpV.pm _ = _; rw [num_get hn hb]; rfl, ⟨⟨(by show 4 < 256; decide), m0, m1, .nil, (fun x hx => by cases hx), (by show 0 ≤ 2000000; decide), (by show 0 < 65536; decide), (by show 0 < 65536; decide), (by show 0 < 4294967296; decide), .nil, (by show 0 ≤ 2000000; decide)⟩, rfl, Own.nil _, Own.nil _⟩⟩
  have q3 := q
  clear q
  by_cases q : w = abortW
  case pos =>
   have z0 : decide (w = connW) = false := by rw [q]; decide
   have z1 : decide (w = sendW) = false := by rw [q]; decide
   have z2 : decide (w = recvW) = false := by rw [q]; decide
   have z3 : decide (w = shutW) = false := by rw [q]; decide
   have z4 : decide (w = abortW) = true := by rw [q]; decide
   have z5 : decide (w = peelW) = false := by rw [q]; decide
   have z6 : decide (w = closeW) = false := by rw [q]; decide
   have z7 : decide (w = noteW) = false := by rw [q]; decide
   have hm : manyP w = (1, 1) := by rw [q]; rfl
   rw [hm]
   dsimp only
   match r, hw, hl, k, k1 with
   | [], _, _, _, k1 =>
    obtain ⟨a1, c1, g1, R1, o1⟩ := k1
    skip
    have hno : opP [w] = none := by rw [q]; rfl
    (refine Go.run (g:=?_))
    (refine Go.fin (by first|exact .inr rfl|exact .inl rfl) (.cellN rfl inferInstance hg_ (by first | exact Nat.le_refl _ | (simp [setL, cellsL]; fail_if_success focus skip) | (simp; omega)) rfl (.tmp rfl .nil)) ?_)
    unfold RcPost
    rw [hno]
    exact ⟨opZ, rfl, fun q pm hq => by cases hq⟩
   | x :: y :: t, _, _, _, k1 =>
    obtain ⟨a1, c1, g1, R1, o1⟩ := k1
    rw [List.length_cons, List.length_cons] at g1
    have hno : opP (w :: x :: y :: t) = none := by rw [q]; rfl
    (refine Go.run (g:=?_))
    (refine Go.fin (by first|exact .inr rfl|exact .inl rfl) (.cellN rfl inferInstance hg_ (by first | exact Nat.le_refl _ | (simp [setL, cellsL]; fail_if_success focus skip) | (simp; omega)) rfl (.tmp rfl .nil)) ?_)
    unfold RcPost
    rw [hno]
    exact ⟨opZ, rfl, fun q pm hq => by cases hq⟩
   | [x], hw, hl, _, k1 =>
    have hx := hw x (List.mem_cons_of_mem _ (List.mem_cons_self ..))
    have hop : opP [w, x] = some (nbad x, { ok := 5, id := numD x }) := by rw [q]; rfl
    obtain ⟨a1, c1, g1, R1, o1⟩ := id k1
    rw [List.length_singleton] at g1
    (refine Go.run (g:=?_))
    refine GoR.name ?_
    intro H2 e2
    have k2 : RdI H2 78 b [x] bad := by rw [e2]; exact k1.putO (by omega) _
    have g2 : H2.get (h.n + 1) = some (.cells (OpV.cs { opZ with k := 5 }) 43) := by rw [e2]; exact AHeap.get_put_same _ (AHeap.lt g0) _
    have gr2 : H2.get h.n = some (.cells opZ.cs 43) := by rw [e2, AHeap.get_put_ne _ _ (by omega)]; exact gr
    have n2 : H2.n = H1.n := by rw [e2]; rfl
    clear e2 g1 R1 g0 gr k1
    refine GoR.callW rfl rfl rfl rfl rfl rfl rfl (((num_spec b x [] bad (by omega) _ k2).argA).mono ?_)
    rintro _ H3 ⟨n, rfl, m0, m1, hn, k3⟩ kp3
    refine ⟨fun i hi => .inl hi, ?_⟩
    have g3 := kput kp3 g2 (by simp; omega)
    have gr3 := kput kp3 gr2 (by simp; omega)
    have n3 := kp3.1
    (refine Go.run (g:=?_))
    (refine Go.fin (by first|exact .inr rfl|exact .inl rfl) (.cellN rfl inferInstance hg_ (by first | exact Nat.le_refl _ | (simp [setL, cellsL]; fail_if_success focus skip) | (simp; omega)) rfl (.tmp rfl .nil)) ?_)
    unfold RcPost
    rw [hop]
    refine ⟨{ opZ with k := 5, id := n }, rfl, fun q' pm hq => ?_⟩
    injection hq with hq
    injection hq with hq1 hq2
    subst hq1 hq2
    exact ⟨⟨[], (k3.putO (by omega) _).putO hb0 _⟩, fun hb => by show OpV.pm _ = _; rw [num_get hn hb]; rfl, ⟨⟨(by show 5 < 256; decide), m0, m1, .nil, (fun x hx => by cases hx), (by show 0 ≤ 2000000; decide), (by show 0 < 65536; decide), (by show 0 < 65536; decide), (by show 0 < 4294967296; decide), .nil, (by show 0 ≤ 2000000; decide)⟩, rfl, Own.nil _, Own.nil _⟩⟩
  have q4 := q
  clear q
  by_cases q : w = peelW
  case pos =>
   have z0 : decide (w = connW) = false := by rw [q]; decide
   have z1 : decide (w = sendW) = false := by rw [q]; decide
   have z2 : decide (w = recvW) = false := by rw [q]; decide
   have z3 : decide (w = shutW) = false := by rw [q]; decide
   have z4 : decide (w = abortW) = false := by rw [q]; decide
   have z5 : decide (w = peelW) = true := by rw [q]; decide
   have z6 : decide (w = closeW) = false := by rw [q]; decide
   have z7 : decide (w = noteW) = false := by rw [q]; decide
   have hm : manyP w = (1, 1) := by rw [q]; rfl
   rw [hm]
   dsimp only
   match r, hw, hl, k, k1 with
   | [], _, _, _, k1 =>
    obtain ⟨a1, c1, g1, R1, o1⟩ := k1
    skip
    have hno : opP [w] = none := by rw [q]; rfl
    (refine Go.run (g:=?_))
    (refine Go.fin (by first|exact .inr rfl|exact .inl rfl) (.cellN rfl inferInstance hg_ (by first | exact Nat.le_refl _ | (simp [setL, cellsL]; fail_if_success focus skip) | (simp; omega)) rfl (.tmp rfl .nil)) ?_)
    unfold RcPost
    rw [hno]
    exact ⟨opZ, rfl, fun q pm hq => by cases hq⟩
   | x :: y :: t, _, _, _, k1 =>
    obtain ⟨a1, c1, g1, R1, o1⟩ := k1
    rw [List.length_cons, List.length_cons] at g1
    have hno : opP (w :: x :: y :: t) = none := by rw [q]; rfl
    (refine Go.run (g:=?_))
    (refine Go.fin (by first|exact .inr rfl|exact .inl rfl) (.cellN rfl inferInstance hg_ (by first | exact Nat.le_refl _ | (simp [setL, cellsL]; fail_if_success focus skip) | (simp; omega)) rfl (.tmp rfl .nil)) ?_)
    unfold RcPost
    rw [hno]
    exact ⟨opZ, rfl, fun q pm hq => by cases hq⟩
   | [x], hw, hl, _, k1 =>
    have hx := hw x (List.mem_cons_of_mem _ (List.mem_cons_self ..))
    have hop : opP [w, x] = some (nbad x, { ok := 6, id := numD x }) := by rw [q]; rfl
    obtain ⟨a1, c1, g1, R1, o1⟩ := id k1
    rw [List.length_singleton] at g1
    (refine Go.run (g:=?_))
    refine GoR.name ?_
    intro H2 e2
    have k2 : RdI H2 78 b [x] bad := by rw [e2]; exact k1.putO (by omega) _
    have g2 : H2.get (h.n + 1) = some (.cells (OpV.cs { opZ with k := 6 }) 43) := by rw [e2]; exact AHeap.get_put_same _ (AHeap.lt g0) _
    have gr2 : H2.get h.n = some (.cells opZ.cs 43) := by rw [e2, AHeap.get_put_ne _ _ (by omega)]; exact gr
    have n2 : H2.n = H1.n := by rw [e2]; rfl
    clear e2 g1 R1 g0 gr k1
    refine GoR.callW rfl rfl rfl rfl rfl rfl rfl (((num_spec b x [] bad (by omega) _ k2).argA).mono ?_)
    rintro _ H3 ⟨n, rfl, m0, m1, hn, k3⟩ kp3
    refine ⟨fun i hi => .inl hi, ?_⟩
    have g3 := kput kp3 g2 (by simp; omega)
    have gr3 := kput kp3 gr2 (by simp; omega)
    have n3 := kp3.1
    (refine Go.run (g:=?_))
    (refine Go.fin (by first|exact .inr rfl|exact .inl rfl) (.cellN rfl inferInstance hg_ (by first | exact Nat.le_refl _ | (simp [setL, cellsL]; fail_if_success focus skip) | (simp; omega)) rfl (.tmp rfl .nil)) ?_)
    unfold RcPost
    rw [hop]
    refine ⟨{ opZ with k := 6, id := n }, rfl, fun q' pm hq => ?_⟩
    injection hq with hq
    injection hq with hq1 hq2
    subst hq1 hq2
    exact ⟨⟨[], (k3.putO (by omega) _).putO hb0 _⟩, fun hb => by show OpV.pm _ = _; rw [num_get hn hb]; rfl, ⟨⟨(by show 6 < 256; decide), m0, m1, .nil, (fun x hx => by cases hx), (by show 0 ≤ 2000000; decide), (by show 0 < 65536; decide), (by show 0 < 65536; decide), (by show 0 < 4294967296; decide), .nil, (by show 0 ≤ 2000000; decide)⟩, rfl, Own.nil _, Own.nil _⟩⟩
  have q5 := q
  clear q
  by_cases q : w = closeW
  case pos =>
   have z0 : decide (w = connW) = false := by rw [q]; decide
   have z1 : decide (w = sendW) = false := by rw [q]; decide
   have z2 : decide (w = recvW) = false := by rw [q]; decide
   have z3 : decide (w = shutW) = false := by rw [q]; decide
   have z4 : decide (w = abortW) = false := by rw [q]; decide
   have z5 : decide (w = peelW) = false := by rw [q]; decide
   have z6 : decide (w = closeW) = true := by rw [q]; decide
   have z7 : decide (w = noteW) = false := by rw [q]; decide
   have hm : manyP w = (0, 0) := by rw [q]; rfl
   rw [hm]
   dsimp only
   match r, hw, hl, k, k1 with
   | x :: t, _, _, _, k1 =>
    obtain ⟨a1, c1, g1, R1, o1⟩ := k1
    rw [List.length_cons] at g1
    have hno : opP (w :: x :: t) = none := by rw [q]; rfl
    (refine Go.run (g:=?_))
    (refine Go.fin (by first|exact .inr rfl|exact .inl rfl) (.cellN rfl inferInstance hg_ (by first | exact Nat.le_refl _ | (simp [setL, cellsL]; fail_if_success focus skip) | (simp; omega)) rfl (.tmp rfl .nil)) ?_)
    unfold RcPost
    rw [hno]
    exact ⟨opZ, rfl, fun q pm hq => by cases hq⟩
   | [], hw, hl, _, k1 =>
    have hop : opP [w] = some (false, { ok := 7 }) := by rw [q]; rfl
    obtain ⟨a1, c1, g1, R1, o1⟩ := id k1
    (refine Go.run (g:=?_))
    (refine Go.fin (by first|exact .inr rfl|exact .inl rfl) (.cellN rfl inferInstance hg_ (by first | exact Nat.le_refl _ | (simp [setL, cellsL]; fail_if_success focus skip) | (simp; omega)) rfl (.tmp rfl .nil)) ?_)
    unfold RcPost
    rw [hop]
    refine ⟨{ opZ with k := 7 }, rfl, fun q' pm hq => ?_⟩
    injection hq with hq
    injection hq with hq1 hq2
    subst hq1 hq2
    exact ⟨⟨[], by rw [Bool.or_false]; exact (k1.putO (by omega) _).putO hb0 _⟩, fun _ => rfl, ⟨⟨by decide, by decide, by decide, .nil, (fun x hx => by cases hx), by simp, by decide, by decide, by decide, .nil, by simp⟩, rfl, Own.nil _, Own.nil _⟩⟩
  have q6 := q
  clear q
  by_cases q : w = noteW
  case pos =>
   have z0 : decide (w = connW) = false := by rw [q]; decide
   have z1 : decide (w = sendW) = false := by rw [q]; decide
   have z2 : decide (w = recvW) = false := by rw [q]; decide
   have z3 : decide (w = shutW) = false := by rw [q]; decide
   have z4 : decide (w = abortW) = false := by rw [q]; decide
   have z5 : decide (w = peelW) = false := by rw [q]; decide
   have z6 : decide (w = closeW) = false := by rw [q]; decide
   have z7 : decide (w = noteW) = true := by rw [q]; decide
   have hm : manyP w = (0, 0) := by rw [q]; rfl
   rw [hm]
   dsimp only
   match r, hw, hl, k, k1 with
   | x :: t, _, _, _, k1 =>
    obtain ⟨a1, c1, g1, R1, o1⟩ := k1
    rw [List.length_cons] at g1
    have hno : opP (w :: x :: t) = none := by rw [q]; rfl
    (refine Go.run (g:=?_))
    (refine Go.fin (by first|exact .inr rfl|exact .inl rfl) (.cellN rfl inferInstance hg_ (by first | exact Nat.le_refl _ | (simp [setL, cellsL]; fail_if_success focus skip) | (simp; omega)) rfl (.tmp rfl .nil)) ?_)
    unfold RcPost
    rw [hno]
    exact ⟨opZ, rfl, fun q pm hq => by cases hq⟩
   | [], hw, hl, _, k1 =>
    have hop : opP [w] = some (false, { ok := 8 }) := by rw [q]; rfl
    obtain ⟨a1, c1, g1, R1, o1⟩ := id k1
    (refine Go.run (g:=?_))
    (refine Go.fin (by first|exact .inr rfl|exact .inl rfl) (.cellN rfl inferInstance hg_ (by first | exact Nat.le_refl _ | (simp [setL, cellsL]; fail_if_success focus skip) | (simp; omega)) rfl (.tmp rfl .nil)) ?_)
    unfold RcPost
    rw [hop]
    refine ⟨{ opZ with k := 8 }, rfl, fun q' pm hq => ?_⟩
    injection hq with hq
    injection hq with hq1 hq2
    subst hq1 hq2
    exact ⟨⟨[], by rw [Bool.or_false]; exact (k1.putO (by omega) _).putO hb0 _⟩, fun _ => rfl, ⟨⟨by decide, by decide, by decide, .nil, (fun x hx => by cases hx), by simp, by decide, by decide, by decide, .nil, by simp⟩, rfl, Own.nil _, Own.nil _⟩⟩
  have q7 := q
  clear q
  have z0 : decide (w = connW) = false := decide_eq_false q0
  have z1 : decide (w = sendW) = false := decide_eq_false q1
  have z2 : decide (w = recvW) = false := decide_eq_false q2
  have z3 : decide (w = shutW) = false := decide_eq_false q3
  have z4 : decide (w = abortW) = false := decide_eq_false q4
  have z5 : decide (w = peelW) = false := decide_eq_false q5
  have z6 : decide (w = closeW) = false := decide_eq_false q6
  have z7 : decide (w = noteW) = false := decide_eq_false q7
  have hm : manyP w = (-1, -1) := by unfold manyP; rw [if_neg q0, if_neg q1, if_neg q2, if_neg q3, if_neg q4, if_neg q5, if_neg q6, if_neg q7]
  have hno : opP (w :: r) = none := by unfold opP; dsimp only; rw [if_neg q0, if_neg q1, if_neg q2, if_neg q3, if_neg q4, if_neg q5, if_neg q6, if_neg q7]
  rw [hm]
  dsimp only
  (refine Go.run (g:=?_))
  (refine Go.fin (by first|exact .inr rfl|exact .inl rfl) (.cellN rfl inferInstance hg_ (by first | exact Nat.le_refl _ | (simp [setL, cellsL]; fail_if_success focus skip) | (simp; omega)) rfl (.tmp rfl .nil)) ?_)
  unfold RcPost
  rw [hno]
  exact ⟨opZ, rfl, fun q pm hq => by cases hq⟩
end Go.Proofs.YtncbbeghkpjpbaaDoor