/- What the law leans on, part 8. No conditions. -/
import Derived.Test.YtmelgnpogdilgaaRows
import Derived.JoinedCond
import Derived.ProofKit
import Derived.OpenShut
import Derived.ChangeOld
import Derived.WideShapes
import Derived.Test.YtmelgnpogdilgaaChunkParamsPart7
set_option linter.unusedVariables false
set_option linter.unusedSimpArgs false
namespace Go.Proofs.Ytmelgnpogdilgaa
set_option maxRecDepth 100000
attribute [local irreducible] Go GoR GoL
def finR (c : Ck) (d : CD) (bad : Bool) (ys : List UInt8) : Option PC := if bad = false ∧ ys = [] ∧ may c d.gaps = true then some (pcOf c d) else none
theorem finR_bad (c : Ck) (d : CD) (ys : List UInt8) : finR c d true ys = none := if_neg (by simp)
theorem finR_left (c : Ck) (d : CD) (bad : Bool) {ys : List UInt8} (h : ys ≠ []) : finR c d bad ys = none := if_neg (by simp [h])
theorem finR_good {H : AHeap} {c : Ck} {d : CD} (ok : COk H c d) : finR c d false [] = (some (pcOf c d)).filter mayP := by
  unfold finR
  simp [Option.filter, mayP_of ok]
structure TSt (h H : AHeap) (c : Ck) (a : Option Addr) (cap : Nat) (ys : List UInt8) (bad : Bool) : Prop where
  same : Same h H
  n : h.n + 5 ≤ H.n
  res : H.get (h.n + 1) = some (.cells (Ck.none 0).cs 57)
  chk : H.get (h.n + 2) = some (.cells c.cs 57)
  ptr : H.get (h.n + 4) = some (.cells [.pointer (some ⟨h.n + 3, 0, none⟩)] 94)
  rd : RS H (h.n + 3) a cap ys bad
  old : ∀ i ∈ blk a, i < h.n
theorem TSt.call {h H H' : AHeap} {c : Ck} {a a' : Option Addr} {cap cap' : Nat} {ys ys' : List UInt8} {bad bad' : Bool} (T : TSt h H c a cap ys bad) (k : Keeps [h.n + 3] H H') (r : RS H' (h.n + 3) a' cap' ys' bad') (o : ∀ i ∈ blk a', i ∈ blk a) : TSt h H' c a' cap' ys' bad' :=
  ⟨T.same.own k (fun i hi => by simp at hi; omega), Nat.le_trans T.n k.1, k.get T.res (by simp), k.get T.chk (by simp), k.get T.ptr (by simp), r, fun i hi => T.old i (o i hi)⟩
theorem TSt.put {h H : AHeap} {c : Ck} {a : Option Addr} {cap : Nat} {ys : List UInt8} {bad : Bool} (c' : Ck) (T : TSt h H c a cap ys bad) : TSt h (H.put (h.n + 2) (some (.cells c'.cs 57))) c' a cap ys bad := by
  have hn := T.n
  refine ⟨T.same.put (by omega) _, by simp; omega, ?_, get_put_self T.chk, ?_, ⟨?_, T.rd.rv.put (fun hm => by have := T.old _ hm; omega) _, T.rd.out⟩, T.old⟩
  · rw [AHeap.get_put_ne _ _ (by omega)]; exact T.res
  · rw [AHeap.get_put_ne _ _ (by omega)]; exact T.ptr
  · rw [AHeap.get_put_ne _ _ (by omega)]; exact T.rd.g
theorem TSt.put_eq {h H H' : AHeap} {c : Ck} {a : Option Addr} {cap : Nat} {ys : List UInt8} {bad : Bool} (c' : Ck) (T : TSt h H c a cap ys bad) (e : H' = H.put (h.n + 2) (some (.cells c'.cs 57))) : TSt h H' c' a cap ys bad := by subst e; exact T.put c'
theorem Sv.put_eq {H H' : AHeap} {t : TypeId} {sz : Nat} {a : Option Addr} {len cap i : Nat} {cs : List Value} {o : Option AObj} (v : Sv H t sz a len cap cs) (e : H' = H.put i o) (hn : i ∉ blk a) : Sv H' t sz a len cap cs := by subst e; exact v.put hn _
theorem TSt.to {h H H' : AHeap} {c : Ck} {a : Option Addr} {cap : Nat} {ys : List UInt8} {bad : Bool} (T : TSt h H c a cap ys bad) (s : Same H H') : TSt h H' c a cap ys bad :=
  ⟨T.same.trans s, Nat.le_trans T.n s.1, s.get T.res, s.get T.chk, s.get T.ptr, T.rd.same s, T.old⟩
def CNot (i : Nat) (c : Ck) (d : CD) : Prop := i ∉ blk c.D.a ∧ i ∉ blk c.A.a ∧ i ∉ blk c.G.a ∧ i ∉ blk c.U.a ∧ i ∉ blk c.C.a ∧ ∀ x ∈ d.causes, i ∉ blk x.a
theorem COk.putN {H : AHeap} {i : Nat} {c : Ck} {d : CD} (ok : COk H c d) (ap : CNot i c d) (o : Option AObj) : COk (H.put i o) c d := by
  obtain ⟨h1, h2, h3, h4, h5, h6⟩ := ap
  exact { ok with dv := ok.dv.put h1 _, av := ok.av.put h2 _, gv := ok.gv.put h3 _, uv := ok.uv.put h4 _, cv := ok.cv.put h5 _, cb := fun x hx => ⟨(ok.cb x hx).1, (ok.cb x hx).2.1, (ok.cb x hx).2.2.put (h6 x hx) _⟩ }
def DfOk (n : Nat) (H : AHeap) (c : Ck) (d : CD) (df : List Nat) : Prop := df = [] ∨ ∃ dd, df = [dd] ∧ H.get dd = some (.deferred true) ∧ n ≤ dd ∧ CNot dd c d
def CApart (n : Nat) (c : Ck) (d : CD) : Prop := Own n c.D.a ∧ Own n c.A.a ∧ Own n c.G.a ∧ Own n c.U.a ∧ Own n c.C.a ∧ ∀ x ∈ d.causes, Own n x.a
theorem COk.put {H : AHeap} {n i : Nat} {c : Ck} {d : CD} (ok : COk H c d) (ap : CApart n c d) (hi : i < n) (o : Option AObj) : COk (H.put i o) c d := by
  obtain ⟨h1, h2, h3, h4, h5, h6⟩ := ap
  have q : ∀ {a : Option Addr}, Own n a → i ∉ blk a := fun w hm => by have := w _ hm; omega
  exact { ok with dv := ok.dv.put (q h1) _, av := ok.av.put (q h2) _, gv := ok.gv.put (q h3) _, uv := ok.uv.put (q h4) _, cv := ok.cv.put (q h5) _, cb := fun x hx => ⟨(ok.cb x hx).1, (ok.cb x hx).2.1, (ok.cb x hx).2.2.put (q (h6 x hx)) _⟩ }
theorem TSt.app {h H H' : AHeap} {c : Ck} {a b : Option Addr} {cap : Nat} {ys : List UInt8} {bad : Bool} (T : TSt h H c a cap ys bad) (k : Keeps (blk b) H H') (o : Own (h.n + 5) b) : TSt h H' c a cap ys bad := by
  have q : ∀ i, i < h.n + 5 → i ∉ blk b := fun i hi hm => by have := o _ hm; omega
  exact ⟨T.same.ownO k o (by omega), Nat.le_trans T.n k.1, k.get T.res (q _ (by omega)), k.get T.chk (q _ (by omega)), k.get T.ptr (q _ (by omega)), ⟨k.get T.rd.g (q _ (by omega)), T.rd.rv.keeps k (fun i hi => q _ (by have := T.old _ hi; omega)), T.rd.out⟩, T.old⟩
theorem gapsR_lt (n : Nat) (zs : List UInt8) (bad : Bool) : ∀ x ∈ (gapsR n zs bad).1, x.1 < 65536 ∧ x.2 < 65536 := by
  induction n with
  | zero => exact fun x hx => by cases hx
  | succ n ih =>
    intro x hx
    simp only [gapsR] at hx
    rcases List.mem_append.1 hx with hx | hx
    · exact ih x hx
    · simp only [List.mem_singleton] at hx; subst hx
      exact ⟨num_lt2 _, num_lt2 _⟩
theorem dupsR_lt (n : Nat) (zs : List UInt8) (bad : Bool) : ∀ x ∈ (dupsR n zs bad).1, x < 4294967296 := by
  induction n with
  | zero => exact fun x hx => by cases hx
  | succ n ih =>
    intro x hx
    simp only [dupsR] at hx
    rcases List.mem_append.1 hx with hx | hx
    · exact ih x hx
    · simp only [List.mem_singleton] at hx; subst hx
      exact num_lt4 _
theorem may_G {c : Ck} {gs : List (Nat × Nat)} (h : 64 < c.G.n) : may c gs = false := by
  unfold may
  rw [decide_eq_false (fun hm => by have := hm.2.2.1; omega), Bool.false_and]
theorem may_U {c : Ck} {gs : List (Nat × Nat)} (h : 16 < c.U.n) : may c gs = false := by
  unfold may
  rw [decide_eq_false (fun hm => by have := hm.2.2.2.1; omega), Bool.false_and]
theorem finR_may {c : Ck} {d : CD} {bad : Bool} {ys : List UInt8} (h : may c d.gaps = false) : finR c d bad ys = none := if_neg (by simp [h])
theorem TSt.params {h H H' : AHeap} {c c' : Ck} {a : Option Addr} {cap : Nat} {ys : List UInt8} {bad bad' : Bool} (T : TSt h H c a cap ys bad) (k : Keeps [h.n + 3, h.n + 2] H H') (gq : H'.get (h.n + 2) = some (.cells c'.cs 57)) (r : RS H' (h.n + 3) none 0 [] bad') : TSt h H' c' none 0 [] bad' :=
  ⟨T.same.own k (fun i hi => by simp at hi; omega), Nat.le_trans T.n k.1, k.get T.res (by simp), gq, k.get T.ptr (by simp), r, fun i hi => by simp [blk] at hi⟩
theorem TSt.kp {h H H' : AHeap} {c : Ck} {a : Option Addr} {cap : Nat} {ys : List UInt8} {bad : Bool} {wr : List Nat} (T : TSt h H c a cap ys bad) (k : Keeps wr H H') (o : ∀ i ∈ wr, h.n + 5 ≤ i) : TSt h H' c a cap ys bad := by
  have q : ∀ i, i < h.n + 5 → i ∉ wr := fun i hi hm => by have := o _ hm; omega
  exact ⟨T.same.own k (fun i hi => by have := o _ hi; omega), Nat.le_trans T.n k.1, k.get T.res (q _ (by omega)), k.get T.chk (q _ (by omega)), k.get T.ptr (q _ (by omega)), ⟨k.get T.rd.g (q _ (by omega)), T.rd.rv.keeps k (fun i hi => q _ (by have := T.old _ hi; omega)), T.rd.out⟩, T.old⟩
theorem TSt.putB {h H : AHeap} {c : Ck} {a : Option Addr} {cap : Nat} {ys : List UInt8} {bad : Bool} (b' : Bool) (T : TSt h H c a cap ys bad) : TSt h (H.put (h.n + 3) (some (.cells [.slice a ys.length cap, .bool b'] 96))) c a cap ys b' := by
  have hn := T.n
  refine ⟨T.same.put (by omega) _, by simp; omega, ?_, ?_, ?_, ⟨get_put_self T.rd.g, T.rd.rv.put (fun hm => T.rd.out hm) _, T.rd.out⟩, T.old⟩
  · rw [AHeap.get_put_ne _ _ (by omega)]; exact T.res
  · rw [AHeap.get_put_ne _ _ (by omega)]; exact T.chk
  · rw [AHeap.get_put_ne _ _ (by omega)]; exact T.ptr
structure KInv (h : AHeap) (tm : List Value) (ps : Array Tmp) (asg bo : Code) (l d k f : Nat) (bad : Bool) (s : List CV × Option Addr × Nat) (H : AHeap) : Prop where
  loop : H.get l = some (.loop .ready none tm ps asg bo d)
  mark : H.get d = some (.deferred true)
  T : TSt h H (⟨k, f, 0, 0, 0, 0, 0, 0, 0, 0, ⟨none, 0, 0⟩, ⟨none, 0, 0⟩, ⟨none, 0, 0⟩, ⟨none, 0, 0⟩, ⟨s.2.1, s.1.length, s.2.2⟩⟩ : Ck) none 0 [] bad
  sv : Sv H 84 2 s.2.1 s.1.length s.2.2 (ccs s.1)
  own : Own (h.n + 5) s.2.1
  sep : ∀ i ∈ blk s.2.1, i ∉ [l, d]
  cb : ∀ x ∈ s.1, x.k < 65536 ∧ x.z.length ≤ 140737488355328 ∧ Rv Try.prog H 1 x.a x.z.length x.cap (x.z.map bv) ∧ Own (h.n + 5) x.a ∧ (∀ i ∈ blk x.a, i ∉ [l, d]) ∧ ∀ i ∈ blk x.a, i ∉ blk s.2.1
theorem KInv.to {h : AHeap} {tm : List Value} {ps : Array Tmp} {asg bo : Code} {l d k f : Nat} {bad : Bool} {s : List CV × Option Addr × Nat} {H H' : AHeap} (I : KInv h tm ps asg bo l d k f bad s H) (sm : Same H H') : KInv h tm ps asg bo l d k f bad s H' :=
  ⟨sm.get I.loop, sm.get I.mark, I.T.to sm, I.sv.same sm, I.own, I.sep, fun x hx => ⟨(I.cb x hx).1, (I.cb x hx).2.1, (I.cb x hx).2.2.1.same sm, (I.cb x hx).2.2.2⟩⟩
theorem COk.base (H : AHeap) (k f : Nat) (hk : k < 256) (hf : f < 256) : COk H { Ck.none k with f := f } ⟨[], [], [], [], []⟩ :=
  ⟨hk, hf, (by show 0 < 4294967296; decide), (by show 0 < 4294967296; decide), (by show 0 < 4294967296; decide), (by show 0 < 65536; decide), (by show 0 < 65536; decide), (by show 0 < 65536; decide), (by show 0 < 65536; decide), (by show 0 < 4294967296; decide), rfl, Rv.nil, rfl, Rv.nil, (fun x hx => by cases hx), rfl, Rv.nil, (fun x hx => by cases hx), rfl, Rv.nil, (fun x hx => by cases hx), rfl, Rv.nil, (fun x hx => by cases hx)⟩
theorem k0_good {zs : List UInt8} (h : 12 ≤ zs.length) : num zs 4 = nAt zs 0 4 ∧ num (left zs 4) 2 = nAt zs 4 2 ∧ num (left (left zs 4) 2) 2 = nAt zs 6 2 ∧ num (left (left (left zs 4) 2) 2) 4 = nAt zs 8 4 ∧ left (left (left (left zs 4) 2) 2) 4 = zs.drop 12 ∧ (false || short zs 4 || short (left zs 4) 2 || short (left (left zs 4) 2) 2 || short (left (left (left zs 4) 2) 2) 4) = false := by
  have h1 : 4 ≤ zs.length := by omega
  have h2 : 2 ≤ (zs.drop 4).length := by rw [List.length_drop]; omega
  have h3 : 2 ≤ (zs.drop 6).length := by rw [List.length_drop]; omega
  have h4 : 4 ≤ (zs.drop 8).length := by rw [List.length_drop]; omega
  have e1 : left zs 4 = zs.drop 4 := left_le h1
  have e2 : left (zs.drop 4) 2 = zs.drop 6 := by rw [left_le h2, List.drop_drop]
  have e3 : left (zs.drop 6) 2 = zs.drop 8 := by rw [left_le h3, List.drop_drop]
  have e4 : left (zs.drop 8) 4 = zs.drop 12 := by rw [left_le h4, List.drop_drop]
  rw [e1, e2, e3, e4, num_le h1, num_le h2, num_le h3, num_le h4, short_le h1, short_le h2, short_le h3, short_le h4]
  exact ⟨rfl, rfl, rfl, rfl, rfl, rfl⟩
theorem k0_bad {zs : List UInt8} (h : zs.length < 12) : (false || short zs 4 || short (left zs 4) 2 || short (left (left zs 4) 2) 2 || short (left (left (left zs 4) 2) 2) 4) = true := by
  rcases Nat.lt_or_ge (zs).length 4 with g0 | g0
  · simp only [short, Bool.or_eq_true, decide_eq_true_eq, List.length_drop, Bool.false_or, Bool.false_eq_true, false_or] at *; omega
  rw [left_le g0]
  rcases Nat.lt_or_ge ((zs).drop 4).length 2 with g1 | g1
  · simp only [short, Bool.or_eq_true, decide_eq_true_eq, List.length_drop, Bool.false_or, Bool.false_eq_true, false_or] at *; omega
  rw [left_le g1]
  rcases Nat.lt_or_ge (((zs).drop 4).drop 2).length 2 with g2 | g2
  · simp only [short, Bool.or_eq_true, decide_eq_true_eq, List.length_drop, Bool.false_or, Bool.false_eq_true, false_or] at *; omega
  rw [left_le g2]
  rcases Nat.lt_or_ge ((((zs).drop 4).drop 2).drop 2).length 4 with g3 | g3
  · simp only [short, Bool.or_eq_true, decide_eq_true_eq, List.length_drop, Bool.false_or, Bool.false_eq_true, false_or] at *; omega
  exfalso; simp only [List.length_drop] at *; omega
theorem k3_good {zs : List UInt8} (h : 12 ≤ zs.length) : num zs 4 = nAt zs 0 4 ∧ num (left zs 4) 4 = nAt zs 4 4 ∧ num (left (left zs 4) 4) 2 = nAt zs 8 2 ∧ num (left (left (left zs 4) 4) 2) 2 = nAt zs 10 2 ∧ left (left (left (left zs 4) 4) 2) 2 = zs.drop 12 ∧ (false || short zs 4 || short (left zs 4) 4 || short (left (left zs 4) 4) 2 || short (left (left (left zs 4) 4) 2) 2) = false := by
  have h1 : 4 ≤ zs.length := by omega
  have h2 : 4 ≤ (zs.drop 4).length := by rw [List.length_drop]; omega
  have h3 : 2 ≤ (zs.drop 8).length := by rw [List.length_drop]; omega
  have h4 : 2 ≤ (zs.drop 10).length := by rw [List.length_drop]; omega
  have e1 : left zs 4 = zs.drop 4 := left_le h1
  have e2 : left (zs.drop 4) 4 = zs.drop 8 := by rw [left_le h2, List.drop_drop]
  have e3 : left (zs.drop 8) 2 = zs.drop 10 := by rw [left_le h3, List.drop_drop]
  have e4 : left (zs.drop 10) 2 = zs.drop 12 := by rw [left_le h4, List.drop_drop]
  rw [e1, e2, e3, e4, num_le h1, num_le h2, num_le h3, num_le h4, short_le h1, short_le h2, short_le h3, short_le h4]
  exact ⟨rfl, rfl, rfl, rfl, rfl, rfl⟩
theorem k3_bad {zs : List UInt8} (h : zs.length < 12) : (false || short zs 4 || short (left zs 4) 4 || short (left (left zs 4) 4) 2 || short (left (left (left zs 4) 4) 2) 2) = true := by
  rcases Nat.lt_or_ge (zs).length 4 with g0 | g0
  · simp only [short, Bool.or_eq_true, decide_eq_true_eq, List.length_drop, Bool.false_or, Bool.false_eq_true, false_or] at *; omega
  rw [left_le g0]
  rcases Nat.lt_or_ge ((zs).drop 4).length 4 with g1 | g1
  · simp only [short, Bool.or_eq_true, decide_eq_true_eq, List.length_drop, Bool.false_or, Bool.false_eq_true, false_or] at *; omega
  rw [left_le g1]
  rcases Nat.lt_or_ge (((zs).drop 4).drop 4).length 2 with g2 | g2
  · simp only [short, Bool.or_eq_true, decide_eq_true_eq, List.length_drop, Bool.false_or, Bool.false_eq_true, false_or] at *; omega
  rw [left_le g2]
  rcases Nat.lt_or_ge ((((zs).drop 4).drop 4).drop 2).length 2 with g3 | g3
  · simp only [short, Bool.or_eq_true, decide_eq_true_eq, List.length_drop, Bool.false_or, Bool.false_eq_true, false_or] at *; omega
  exfalso; simp only [List.length_drop] at *; omega
theorem k1_good {zs : List UInt8} (h : 16 ≤ zs.length) : num zs 4 = nAt zs 0 4 ∧ num (left zs 4) 4 = nAt zs 4 4 ∧ num (left (left zs 4) 4) 2 = nAt zs 8 2 ∧ num (left (left (left zs 4) 4) 2) 2 = nAt zs 10 2 ∧ num (left (left (left (left zs 4) 4) 2) 2) 4 = nAt zs 12 4 ∧ left (left (left (left (left zs 4) 4) 2) 2) 4 = zs.drop 16 ∧ (false || short zs 4 || short (left zs 4) 4 || short (left (left zs 4) 4) 2 || short (left (left (left zs 4) 4) 2) 2 || short (left (left (left (left zs 4) 4) 2) 2) 4) = false := by
  obtain ⟨e1, e2, e3, e4, e5, e6⟩ := k3_good (show 12 ≤ zs.length by omega)
  have h5 : 4 ≤ (zs.drop 12).length := by rw [List.length_drop]; omega
  rw [e1, e2, e3, e4, e6, e5, num_le h5, left_le h5, short_le h5, List.drop_drop]
  exact ⟨rfl, rfl, rfl, rfl, rfl, rfl, rfl⟩
theorem k1_bad {zs : List UInt8} (h : zs.length < 16) : (false || short zs 4 || short (left zs 4) 4 || short (left (left zs 4) 4) 2 || short (left (left (left zs 4) 4) 2) 2 || short (left (left (left (left zs 4) 4) 2) 2) 4) = true := by
  rcases Nat.lt_or_ge zs.length 12 with g | g
  · rw [k3_bad g, Bool.true_or]
  · obtain ⟨e1, e2, e3, e4, e5, e6⟩ := k3_good g
    rw [e6, e5, Bool.false_or]
    exact decide_eq_true (by rw [List.length_drop]; omega)
theorem k1_fin (k f : Nat) (hk : k = 1 ∨ k = 2) (zs : List UInt8) {H : AHeap} (s : Sg) (hp : PFin k (parse false (left (left (left (left (left zs 4) 4) 2) 2) 4)).2 (parse false (left (left (left (left (left zs 4) 4) 2) 2) 4)).1 (false || short zs 4 || short (left zs 4) 4 || short (left (left zs 4) 4) 2 || short (left (left (left zs 4) 4) 2) 2 || short (left (left (left (left zs 4) 4) 2) 2) 4) s)
    (ok : COk H ⟨k, f, num zs 4, num (left zs 4) 4, num (left (left (left (left zs 4) 4) 2) 2) 4, num (left (left zs 4) 4) 2, num (left (left (left zs 4) 4) 2) 2, 0, 0, 0, s.D, s.A, ⟨none, 0, 0⟩, ⟨none, 0, 0⟩, ⟨none, 0, 0⟩⟩ ⟨s.data, s.addrs, [], [], []⟩) :
    finR ⟨k, f, num zs 4, num (left zs 4) 4, num (left (left (left (left zs 4) 4) 2) 2) 4, num (left (left zs 4) 4) 2, num (left (left (left zs 4) 4) 2) 2, 0, 0, 0, s.D, s.A, ⟨none, 0, 0⟩, ⟨none, 0, 0⟩, ⟨none, 0, 0⟩⟩ ⟨s.data, s.addrs, [], [], []⟩ s.bad [] = (rawP k f zs).filter mayP := by
  have hraw : rawP k f zs = if 16 ≤ zs.length then (pgo k (parse false (zs.drop 16)).2 (parse false (zs.drop 16)).1 [] [] 0).map fun x => { PC.z k f with tag := nAt zs 0 4, rwnd := nAt zs 4 4, out := nAt zs 8 2, inn := nAt zs 10 2, tsn := nAt zs 12 4, addrs := x.1, data := x.2 } else none := by
    rcases hk with rfl | rfl <;> rfl
  rcases Nat.lt_or_ge zs.length 16 with g | g
  · rw [k1_bad g] at hp
    have : s.bad = true := by
      cases hb : s.bad
      · exact absurd (hp.1 hb).1 (by simp)
      · rfl
    rw [this, finR_bad, hraw, if_neg (by omega)]
    rfl
  obtain ⟨e1, e2, e3, e4, e5, e6, e7⟩ := k1_good g
  rw [e7, e6] at hp
  rw [hraw, if_pos g]
  cases hb : s.bad
  · obtain ⟨-, hgo⟩ := hp.1 hb
    rw [finR_good ok, hgo]
    simp only [Option.map_some, pcOf, PC.z, List.map_nil, e1, e2, e3, e4, e5]
  · have hgo := (hp.2 hb).resolve_left (by simp)
    rw [finR_bad, hgo]
    rfl
theorem k3_fin (f : Nat) (zs : List UInt8) {H : AHeap} {b b' : Option Addr} {cb cb' : Nat} {ys0 : List UInt8} {bad0 : Bool} {G U : Nat} (hG : num (left (left zs 4) 4) 2 = G) (hU : num (left (left (left zs 4) 4) 2) 2 = U) (hy : left (left (left (left zs 4) 4) 2) 2 = ys0) (hb : (false || short zs 4 || short (left zs 4) 4 || short (left (left zs 4) 4) 2 || short (left (left (left zs 4) 4) 2) 2) = bad0)
    (ok : COk H ⟨3, f, 0, num (left zs 4) 4, num zs 4, 0, 0, 0, 0, 0, ⟨none, 0, 0⟩, ⟨none, 0, 0⟩, ⟨b, min G 65, cb⟩, ⟨b', min U 17, cb'⟩, ⟨none, 0, 0⟩⟩ ⟨[], [], (gapsR (min G 65) ys0 bad0).1, (dupsR (min U 17) (gapsR (min G 65) ys0 bad0).2.1 (gapsR (min G 65) ys0 bad0).2.2).1, []⟩) :
    finR ⟨3, f, 0, num (left zs 4) 4, num zs 4, 0, 0, 0, 0, 0, ⟨none, 0, 0⟩, ⟨none, 0, 0⟩, ⟨b, min G 65, cb⟩, ⟨b', min U 17, cb'⟩, ⟨none, 0, 0⟩⟩ ⟨[], [], (gapsR (min G 65) ys0 bad0).1, (dupsR (min U 17) (gapsR (min G 65) ys0 bad0).2.1 (gapsR (min G 65) ys0 bad0).2.2).1, []⟩ (dupsR (min U 17) (gapsR (min G 65) ys0 bad0).2.1 (gapsR (min G 65) ys0 bad0).2.2).2.2 (dupsR (min U 17) (gapsR (min G 65) ys0 bad0).2.1 (gapsR (min G 65) ys0 bad0).2.2).2.1 = (rawP 3 f zs).filter mayP := by
  rcases Nat.lt_or_ge zs.length 12 with g | g
  · rw [k3_bad g] at hb
    subst hb
    rw [gapsR_true, dupsR_true, finR_bad]
    simp [rawP, show ¬ 12 ≤ zs.length by omega]
  obtain ⟨e1, e2, e3, e4, e5, e6⟩ := k3_good g
  rw [e3] at hG
  rw [e4] at hU
  rw [e5] at hy
  rw [e6] at hb
  have hl : ys0.length = zs.length - 12 := by rw [← hy, List.length_drop]
  have hraw : rawP 3 f zs = if 12 ≤ zs.length ∧ zs.length = 12 + 4 * G + 4 * U then some { PC.z 3 f with tsn := nAt zs 0 4, rwnd := nAt zs 4 4, gaps := gapsAt (zs.drop 12) G, dups := dupsAt (zs.drop (12 + 4 * G)) U } else none := by
    rw [← hG, ← hU]; rfl
  subst hb
  rcases Nat.lt_or_ge 64 G with gG | gG
  · rw [finR_may (may_G (by show 64 < min G 65; omega)), hraw]
    split
    · refine (Option.filter_eq_none_iff.2 fun p hp hm => ?_).symm
      cases hp
      rw [show mayP _ = false from may_G (by simp [ckOf, gapsAt]; omega)] at hm
      cases hm
    · rfl
  have mG : min G 65 = G := by omega
  rw [mG] at ok ⊢
  rcases Nat.lt_or_ge ys0.length (4 * G) with q | q
  · have hbad := gapsR_bad ys0 false G q
    rw [hbad, dupsR_true, finR_bad, hraw, if_neg (by omega)]
    rfl
  rw [gapsR_good ys0 false G q] at ok ⊢
  simp only at ok ⊢
  have hl2 : (ys0.drop (4 * G)).length = ys0.length - 4 * G := List.length_drop
  rcases Nat.lt_or_ge 16 U with gU | gU
  · rw [finR_may (may_U (by show 16 < min U 17; omega)), hraw]
    split
    · refine (Option.filter_eq_none_iff.2 fun p hp hm => ?_).symm
      cases hp
      rw [show mayP _ = false from may_U (by simp [ckOf, dupsAt]; omega)] at hm
      cases hm
    · rfl
  have mU : min U 17 = U := by omega
  rw [mU] at ok ⊢
  rcases Nat.lt_or_ge (ys0.drop (4 * G)).length (4 * U) with r | r
  · rw [dupsR_bad _ false U r, finR_bad, hraw, if_neg (by omega)]
    rfl
  rw [dupsR_good _ false U r] at ok ⊢
  simp only at ok ⊢
  by_cases hq : zs.length = 12 + 4 * G + 4 * U
  · have ed : (ys0.drop (4 * G)).drop (4 * U) = [] := List.drop_eq_nil_of_le (by omega)
    rw [ed, finR_good ok, hraw, if_pos ⟨g, hq⟩]
    congr 1
    simp only [pcOf, PC.z, List.map_nil, e1, e2, ← hy, List.drop_drop]
  · have ed : (ys0.drop (4 * G)).drop (4 * U) ≠ [] := fun e => by
      have := List.length_drop (i := 4 * U) (l := ys0.drop (4 * G))
      rw [e] at this
      simp at this
      omega
    rw [finR_left _ _ _ ed, hraw, if_neg (by omega)]
    rfl
theorem k0_fin (f : Nat) (zs : List UInt8) {H : AHeap} {br10 : Option Addr} {cr10 : Nat} (ok : COk H (⟨0, f, 0, 0, num zs 4, 0, 0, num (left zs 4) 2, num (left (left zs 4) 2) 2, num (left (left (left zs 4) 2) 2) 4, ⟨br10, (left (left (left (left zs 4) 2) 2) 4).length, cr10⟩, ⟨none, 0, 0⟩, ⟨none, 0, 0⟩, ⟨none, 0, 0⟩, ⟨none, 0, 0⟩⟩ : Ck) ⟨left (left (left (left zs 4) 2) 2) 4, [], [], [], []⟩) : finR (⟨0, f, 0, 0, num zs 4, 0, 0, num (left zs 4) 2, num (left (left zs 4) 2) 2, num (left (left (left zs 4) 2) 2) 4, ⟨br10, (left (left (left (left zs 4) 2) 2) 4).length, cr10⟩, ⟨none, 0, 0⟩, ⟨none, 0, 0⟩, ⟨none, 0, 0⟩, ⟨none, 0, 0⟩⟩ : Ck) ⟨left (left (left (left zs 4) 2) 2) 4, [], [], [], []⟩ (false || short zs 4 || short (left zs 4) 2 || short (left (left zs 4) 2) 2 || short (left (left (left zs 4) 2) 2) 4) [] = (rawP 0 f zs).filter mayP := by
  rcases Nat.lt_or_ge zs.length 12 with g | g
  · rw [k0_bad g, finR_bad]
    simp [rawP, show ¬ 12 ≤ zs.length by omega]
  · obtain ⟨e1, e2, e3, e4, e5, e6⟩ := k0_good g
    rw [e6, finR_good ok]
    simp only [rawP, if_pos g, pcOf, PC.z, e1, e2, e3, e4, e5, List.map_nil]
theorem k7_fin (f : Nat) (zs : List UInt8) {H : AHeap} (ok : COk H (⟨7, f, 0, 0, num zs 4, 0, 0, 0, 0, 0, ⟨none, 0, 0⟩, ⟨none, 0, 0⟩, ⟨none, 0, 0⟩, ⟨none, 0, 0⟩, ⟨none, 0, 0⟩⟩ : Ck) ⟨[], [], [], [], []⟩) : finR (⟨7, f, 0, 0, num zs 4, 0, 0, 0, 0, 0, ⟨none, 0, 0⟩, ⟨none, 0, 0⟩, ⟨none, 0, 0⟩, ⟨none, 0, 0⟩, ⟨none, 0, 0⟩⟩ : Ck) ⟨[], [], [], [], []⟩ (false || short zs 4) (left zs 4) = (rawP 7 f zs).filter mayP := by
  rw [Bool.false_or]
  rcases Nat.lt_or_ge zs.length 4 with g | g
  · rw [show short zs 4 = true from decide_eq_true g, finR_bad]
    simp [rawP, show ¬ zs.length = 4 by omega]
  · rw [short_le g, left_le g]
    by_cases g4 : zs.length = 4
    · have ed : zs.drop 4 = [] := List.drop_eq_nil_of_le (by omega)
      rw [ed, finR_good ok]
      simp only [rawP, if_pos g4, pcOf, PC.z, num_le g, List.map_nil, nAt, List.drop_zero]
    · have ed : zs.drop 4 ≠ [] := fun e => by have := List.length_drop (i := 4) (l := zs); rw [e] at this; simp at this; omega
      rw [finR_left _ _ _ ed]
      simp [rawP, g4]
def TakeO (n : Nat) (h' : AHeap) (v : Value) (r : Option PC) : Prop := match r with
  | none => v = .tuple #[(Ck.none 0).v, .int .i64 50]
  | some p => ∃ c d, v = .tuple #[c.v, .int .i64 0] ∧ COk h' c d ∧ CApart n c d ∧ pcOf c d = p
theorem TakeO.r {n : Nat} {h' : AHeap} {v : Value} {r : Option PC} (t : TakeO n h' v r) : TakeR h' v r := by
  cases r with
  | none => exact t
  | some p => obtain ⟨c, d, h1, h2, -, h3⟩ := t; exact ⟨c, d, h1, h2, h3⟩
theorem CApart.mono {n m : Nat} {c : Ck} {d : CD} (a : CApart m c d) (h : n ≤ m) : CApart n c d := by
  obtain ⟨h1, h2, h3, h4, h5, h6⟩ := a
  exact ⟨h1.mono h, h2.mono h, h3.mono h, h4.mono h, h5.mono h, fun x hx => (h6 x hx).mono h⟩
set_option maxHeartbeats 16000000 in
theorem ctake_own (k f : Nat) (a : Option Addr) (cap : Nat) (zs : List UInt8) (hk : k < 65536) (hf : f < 256) (hl : zs.length ≤ 1000000) (h : AHeap) (hz : Rv Try.prog h 1 a zs.length cap (zs.map bv)) : CallS Try.prog [] 34 [tlvV k f a zs.length cap] h fun v h' => TakeO h.n h' v (tkP k f zs) := by
  unfold tkP
  rcases Nat.lt_or_ge 255 k with hk1 | hk1
  · rw [if_pos hk1]
    (refine CallS.of1 Try.func34 rfl Try.ntmps34 Try.results34 rfl ?_)
    (refine Go.run (g:=?_))
    refine Go.fin (.inr rfl) (.cellN (b := h.n + 1) (off := 0) rfl inferInstance (by (first | assumption | exact AHeap.get_push_same _ _ | ((repeat first | exact AHeap.get_push_same _ _ | assumption | refine get_push_lt ?_ | exact AHeap.get_put_same _ (by first | omega | (simp only [AHeap.n_push, AHeap.n_put]; omega)) _ | exact get_put_self (by assumption) | apply get_put_self | refine get_put_other (by first | omega | (simp only [AHeap.n_push, AHeap.n_put]; omega)) ?_ | refine Same.get (by assumption) ?_ | refine Keeps.get (by assumption) ?_ (fun hi => by have hx := Own.out (by assumption) hi; omega)) ; fail_if_success focus skip) | fail)) (by first | exact Nat.le_refl _ | (simp [setL, cellsL]; fail_if_success focus skip) | (simp; omega)) rfl (.tmp rfl .nil)) ?_
    rfl
  rw [if_neg (by omega)]
  have hk8 : k < 256 := by omega
  have hkm : k % 256 = k := Nat.mod_eq_of_lt hk8
  (refine CallS.of1 Try.func34 rfl Try.ntmps34 Try.results34 rfl ?_)
  (iterate 34 (first|refine GoR.end ?_|(refine GoR.gd rfl ?_;first|refine GoR.wanted' rfl rfl rfl rfl (g:=?_)|refine GoR.unwanted' rfl rfl rfl rfl (hd:=rfl) (hN:=rfl) (g:=?_)|refine GoR.unwantedU rfl rfl rfl rfl rfl rfl ?_)|(refine GoR.kk 0 rfl ?_;first|refine GoR.move rfl rfl rfl rfl rfl ?_|refine GoR.assign rfl rfl rfl rfl rfl ?_)|(refine GoR.kk 1 rfl ?_;first|refine GoR.load' rfl rfl rfl rfl rfl (g:=?_)|refine GoR.loadA' rfl rfl rfl rfl rfl (hv:=rfl) (g:=?_)|refine GoR.loadV' rfl rfl rfl rfl rfl (g:=?_)|refine GoR.loadVN' rfl rfl rfl rfl rfl (g:=?_))|(refine GoR.kk 2 rfl ?_;first|refine GoR.store' rfl rfl rfl rfl rfl (hl:=rfl) (h1:=rfl) (h3:=rfl) (g:=?_))|(refine GoR.kk 3 rfl ?_;first|refine GoR.fieldAddr rfl rfl rfl rfl rfl ?_|refine GoR.indexN' rfl rfl rfl rfl rfl rfl (g:=?_)|refine GoR.indexNs' rfl rfl rfl rfl rfl rfl (g:=?_)|refine GoR.indexV' rfl rfl rfl rfl rfl rfl (g:=?_)|refine GoR.indexA' rfl rfl rfl rfl rfl rfl (g:=?_)|refine GoR.fieldV' rfl rfl rfl rfl rfl (g:=?_))|(refine GoR.kk 4 rfl ?_;first|refine GoR.eq rfl rfl rfl rfl rfl rfl ?_|refine GoR.ne rfl rfl rfl rfl rfl rfl ?_|refine GoR.lt rfl rfl rfl rfl rfl rfl ?_|refine GoR.le rfl rfl rfl rfl rfl rfl ?_|refine GoR.gt rfl rfl rfl rfl rfl rfl ?_|refine GoR.ge rfl rfl rfl rfl rfl rfl ?_|refine GoR.addN' rfl rfl rfl rfl rfl rfl (g:=?_)|refine GoR.subN' rfl rfl rfl rfl rfl rfl (g:=?_)|refine GoR.add' rfl rfl rfl rfl rfl rfl (g:=?_)|refine GoR.sub' rfl rfl rfl rfl rfl rfl (g:=?_)|refine GoR.addM' rfl rfl rfl rfl rfl rfl (g:=?_)|refine GoR.subM' rfl rfl rfl rfl rfl rfl (g:=?_)|refine GoR.mulM' rfl rfl rfl rfl rfl rfl (g:=?_)|refine GoR.shrN rfl rfl rfl rfl rfl rfl rfl ?_|refine GoR.structEq rfl rfl rfl rfl rfl rfl (by rfl) (by rfl) ?_|refine GoR.structNe rfl rfl rfl rfl rfl rfl (by rfl) (by rfl) ?_|refine GoR.strEq rfl rfl rfl rfl rfl rfl ?_|refine GoR.strNe rfl rfl rfl rfl rfl rfl ?_|refine GoR.remN' rfl rfl rfl rfl rfl rfl (g:=?_)|refine GoR.quoN' rfl rfl rfl rfl rfl rfl (g:=?_)|refine GoR.shlN' rfl rfl rfl rfl rfl rfl rfl (g:=?_)|refine GoR.orN' rfl rfl rfl rfl rfl rfl (g:=?_))|(refine GoR.kk 5 rfl ?_;first|refine GoR.len rfl rfl rfl rfl rfl ?_|refine GoR.lenStr rfl rfl rfl rfl rfl ?_|refine GoR.capB rfl rfl rfl rfl rfl ?_)|(refine GoR.kk 7 rfl ?_;first|refine GoR.pickE' rfl rfl rfl rfl rfl (hx:=rfl) (hy:=rfl) (g:=?_)|refine GoR.pickN' rfl rfl rfl rfl rfl (hx:=rfl) (hy:=rfl) (g:=?_)|refine GoR.pickB rfl rfl rfl rfl rfl rfl rfl ?_)|(refine GoR.kk 8 rfl ?_;first|refine GoR.boxA rfl rfl rfl rfl rfl ?_|refine GoR.boxS rfl rfl rfl rfl rfl rfl ?_|refine GoR.alloc rfl rfl rfl rfl ?_)|(refine GoR.kk 9 rfl ?_;first|refine GoR.strV' rfl rfl rfl rfl rfl (g:=?_)|refine GoR.conv_u8 rfl rfl rfl rfl rfl ?_|refine GoR.convW' rfl rfl rfl rfl rfl (g:=?_)|refine GoR.conv_u16 rfl rfl rfl rfl rfl ?_|refine GoR.conv_u32 rfl rfl rfl rfl rfl ?_)|(refine GoR.kk 10 rfl ?_;first|refine GoR.build' rfl rfl rfl rfl rfl rfl (g:=?_))|(refine GoR.kk 11 rfl ?_;first|refine GoR.extract rfl rfl rfl rfl rfl rfl ?_|refine GoR.not rfl rfl rfl rfl rfl ?_|refine GoR.nilCheck rfl rfl rfl rfl rfl ?_|refine GoR.nilCheckF rfl rfl rfl rfl rfl ?_|refine GoR.makeFunc rfl rfl rfl rfl rfl rfl ?_)|(refine Go.kk 0 rfl ?_;refine Go.seq ?_)|(refine Go.kk 1 rfl ?_;refine Go.region (by kernel_rfl) rfl ?_)|(refine Go.kk 2 rfl ?_;refine Go.drawnQ rfl (by kernel_rfl) rfl ?_)|(refine Go.kk 3 rfl ?_;first|refine Go.cond_t' rfl (g:=?_)|refine Go.cond_f' rfl (g:=?_))|(refine Go.kk 4 rfl ?_;refine Go.block ?_)|(refine Go.kk 5 rfl ?_;first|refine Go.skip ?_|refine Go.ret ?_|refine Go.exit ?_|refine Go.scope ?_)|refine Go.leave_normal ?_|refine Go.leave_same ?_|refine Go.leave_ret ?_|refine Go.ret_code ?_|refine Go.exit_code ?_|refine Go.leave_other rfl ?_|refine Go.sc_normal ?_|refine Go.sc_ret ?_|refine Go.sc_exit ?_|refine Go.exit_back ?_|refine Go.ret_back ?_))
  simp only [hkm, AHeap.n_push, AHeap.n_put]
  refine GoR.name ?_
  intro h5 e5
  have T5 : TSt h h5 (⟨k, f, 0, 0, 0, 0, 0, 0, 0, 0, ⟨none, 0, 0⟩, ⟨none, 0, 0⟩, ⟨none, 0, 0⟩, ⟨none, 0, 0⟩, ⟨none, 0, 0⟩⟩ : Ck) a cap zs false := by
    have hlt := hz.lt
    have S5 : Same h h5 := by subst e5; exact (((((((Same.refl h).push _).push _).push _).put (by omega) _).push _).push _).put (by omega) _
    refine ⟨S5, by subst e5; exact Nat.le_refl _, ?_, ?_, ?_, ⟨?_, hz.same S5, fun hm => by have := hlt _ hm; omega⟩, hlt⟩
    all_goals
      subst e5
      (first | assumption | exact AHeap.get_push_same _ _ | ((repeat first | exact AHeap.get_push_same _ _ | assumption | refine get_push_lt ?_ | exact AHeap.get_put_same _ (by first | omega | (simp only [AHeap.n_push, AHeap.n_put]; omega)) _ | exact get_put_self (by assumption) | apply get_put_self | refine get_put_other (by first | omega | (simp only [AHeap.n_push, AHeap.n_put]; omega)) ?_ | refine Same.get (by assumption) ?_ | refine Keeps.get (by assumption) ?_ (fun hi => by have hx := Own.out (by assumption) hi; omega)) ; fail_if_success focus skip) | fail)
  clear e5
  have gC5 := T5.chk
  have gP5 := T5.ptr
  have m5 := T5.n
  unfold Ck.cs at gC5
  (iterate 16 (first|refine GoR.end ?_|(refine GoR.gd rfl ?_;first|refine GoR.wanted' rfl rfl rfl rfl (g:=?_)|refine GoR.unwanted' rfl rfl rfl rfl (hd:=rfl) (hN:=rfl) (g:=?_)|refine GoR.unwantedU rfl rfl rfl rfl rfl rfl ?_)|(refine GoR.kk 0 rfl ?_;first|refine GoR.move rfl rfl rfl rfl rfl ?_|refine GoR.assign rfl rfl rfl rfl rfl ?_)|(refine GoR.kk 1 rfl ?_;first|refine GoR.load' rfl rfl rfl rfl rfl (g:=?_)|refine GoR.loadA' rfl rfl rfl rfl rfl (hv:=rfl) (g:=?_)|refine GoR.loadV' rfl rfl rfl rfl rfl (g:=?_)|refine GoR.loadVN' rfl rfl rfl rfl rfl (g:=?_))|(refine GoR.kk 2 rfl ?_;first|refine GoR.store' rfl rfl rfl rfl rfl (hl:=rfl) (h1:=rfl) (h3:=rfl) (g:=?_))|(refine GoR.kk 3 rfl ?_;first|refine GoR.fieldAddr rfl rfl rfl rfl rfl ?_|refine GoR.indexN' rfl rfl rfl rfl rfl rfl (g:=?_)|refine GoR.indexNs' rfl rfl rfl rfl rfl rfl (g:=?_)|refine GoR.indexV' rfl rfl rfl rfl rfl rfl (g:=?_)|refine GoR.indexA' rfl rfl rfl rfl rfl rfl (g:=?_)|refine GoR.fieldV' rfl rfl rfl rfl rfl (g:=?_))|(refine GoR.kk 4 rfl ?_;first|refine GoR.eq rfl rfl rfl rfl rfl rfl ?_|refine GoR.ne rfl rfl rfl rfl rfl rfl ?_|refine GoR.lt rfl rfl rfl rfl rfl rfl ?_|refine GoR.le rfl rfl rfl rfl rfl rfl ?_|refine GoR.gt rfl rfl rfl rfl rfl rfl ?_|refine GoR.ge rfl rfl rfl rfl rfl rfl ?_|refine GoR.addN' rfl rfl rfl rfl rfl rfl (g:=?_)|refine GoR.subN' rfl rfl rfl rfl rfl rfl (g:=?_)|refine GoR.add' rfl rfl rfl rfl rfl rfl (g:=?_)|refine GoR.sub' rfl rfl rfl rfl rfl rfl (g:=?_)|refine GoR.addM' rfl rfl rfl rfl rfl rfl (g:=?_)|refine GoR.subM' rfl rfl rfl rfl rfl rfl (g:=?_)|refine GoR.mulM' rfl rfl rfl rfl rfl rfl (g:=?_)|refine GoR.shrN rfl rfl rfl rfl rfl rfl rfl ?_|refine GoR.structEq rfl rfl rfl rfl rfl rfl (by rfl) (by rfl) ?_|refine GoR.structNe rfl rfl rfl rfl rfl rfl (by rfl) (by rfl) ?_|refine GoR.strEq rfl rfl rfl rfl rfl rfl ?_|refine GoR.strNe rfl rfl rfl rfl rfl rfl ?_|refine GoR.remN' rfl rfl rfl rfl rfl rfl (g:=?_)|refine GoR.quoN' rfl rfl rfl rfl rfl rfl (g:=?_)|refine GoR.shlN' rfl rfl rfl rfl rfl rfl rfl (g:=?_)|refine GoR.orN' rfl rfl rfl rfl rfl rfl (g:=?_))|(refine GoR.kk 5 rfl ?_;first|refine GoR.len rfl rfl rfl rfl rfl ?_|refine GoR.lenStr rfl rfl rfl rfl rfl ?_|refine GoR.capB rfl rfl rfl rfl rfl ?_)|(refine GoR.kk 7 rfl ?_;first|refine GoR.pickE' rfl rfl rfl rfl rfl (hx:=rfl) (hy:=rfl) (g:=?_)|refine GoR.pickN' rfl rfl rfl rfl rfl (hx:=rfl) (hy:=rfl) (g:=?_)|refine GoR.pickB rfl rfl rfl rfl rfl rfl rfl ?_)|(refine GoR.kk 8 rfl ?_;first|refine GoR.boxA rfl rfl rfl rfl rfl ?_|refine GoR.boxS rfl rfl rfl rfl rfl rfl ?_|refine GoR.alloc rfl rfl rfl rfl ?_)|(refine GoR.kk 9 rfl ?_;first|refine GoR.strV' rfl rfl rfl rfl rfl (g:=?_)|refine GoR.conv_u8 rfl rfl rfl rfl rfl ?_|refine GoR.convW' rfl rfl rfl rfl rfl (g:=?_)|refine GoR.conv_u16 rfl rfl rfl rfl rfl ?_|refine GoR.conv_u32 rfl rfl rfl rfl rfl ?_)|(refine GoR.kk 10 rfl ?_;first|refine GoR.build' rfl rfl rfl rfl rfl rfl (g:=?_))|(refine GoR.kk 11 rfl ?_;first|refine GoR.extract rfl rfl rfl rfl rfl rfl ?_|refine GoR.not rfl rfl rfl rfl rfl ?_|refine GoR.nilCheck rfl rfl rfl rfl rfl ?_|refine GoR.nilCheckF rfl rfl rfl rfl rfl ?_|refine GoR.makeFunc rfl rfl rfl rfl rfl rfl ?_)|(refine Go.kk 0 rfl ?_;refine Go.seq ?_)|(refine Go.kk 1 rfl ?_;refine Go.region (by kernel_rfl) rfl ?_)|(refine Go.kk 2 rfl ?_;refine Go.drawnQ rfl (by kernel_rfl) rfl ?_)|(refine Go.kk 3 rfl ?_;first|refine Go.cond_t' rfl (g:=?_)|refine Go.cond_f' rfl (g:=?_))|(refine Go.kk 4 rfl ?_;refine Go.block ?_)|(refine Go.kk 5 rfl ?_;first|refine Go.skip ?_|refine Go.ret ?_|refine Go.exit ?_|refine Go.scope ?_)|refine Go.leave_normal ?_|refine Go.leave_same ?_|refine Go.leave_ret ?_|refine Go.ret_code ?_|refine Go.exit_code ?_|refine Go.leave_other rfl ?_|refine Go.sc_normal ?_|refine Go.sc_ret ?_|refine Go.sc_exit ?_|refine Go.exit_back ?_|refine Go.ret_back ?_))
  refine Go.join1 (α := AHeap × Ck × CD × Option Addr × Nat × List UInt8 × Bool × List Nat) (fun x => [(2, .pointer (some ⟨h.n + 1, 0, none⟩)), (4, .pointer (some ⟨h.n + 2, 0, none⟩)), (5, .pointer (some ⟨h.n + 4, 0, none⟩))]) (fun x => x.2.2.2.2.2.2.2) (fun x => x.1)
    (fun x => TSt h x.1 x.2.1 x.2.2.2.1 x.2.2.2.2.1 x.2.2.2.2.2.1 x.2.2.2.2.2.2.1 ∧ COk x.1 x.2.1 x.2.2.1 ∧ CApart (h.n + 5) x.2.1 x.2.2.1 ∧ DfOk (h.n + 5) x.1 x.2.1 x.2.2.1 x.2.2.2.2.2.2.2 ∧ finR x.2.1 x.2.2.1 x.2.2.2.2.2.2.1 x.2.2.2.2.2.1 = (rawP k f zs).filter mayP) ?_ ?_
  · rcases (show k = 0 ∨ k = 1 ∨ k = 2 ∨ k = 3 ∨ k = 6 ∨ k = 9 ∨ k = 7 ∨ k = 8 ∨ k = 11 ∨ k = 14 ∨ (k ≠ 0 ∧ k ≠ 1 ∧ k ≠ 2 ∧ k ≠ 3 ∧ k ≠ 6 ∧ k ≠ 9 ∧ k ≠ 7 ∧ k ≠ 8 ∧ k ≠ 11 ∧ k ≠ 14) by omega) with hk0 | hk0 | hk0 | hk0 | hk0 | hk0 | hk0 | hk0 | hk0 | hk0 | ⟨k0, k1, k2, k3, k6, k9, k7, k8, k11, k14⟩
    · (refine Go.run (g:=?_))
      refine GoR.callW rfl rfl rfl rfl rfl rfl rfl (((ru32_spec _ _ _ _ _ _ T5.rd hl).args (by first | rfl | (simp; fail_if_success focus skip) | (simp; omega) | (congr 2; omega))).mono ?_)
      rintro _ h6 ⟨a6, c6, rfl, r6, o6⟩ kk6
      refine ⟨fun i hi => .inr (by simp at hi; omega), ?_⟩
      have T6 := T5.call kk6 r6 o6
      have gC6 := T6.chk
      unfold Ck.cs at gC6
      try dsimp only at gC6
      have gP6 := T6.ptr
      have m6 := T6.n
      have hl6 := Nat.le_trans (left_len _ 4) hl
      (refine Go.run (g:=?_))
      refine GoR.callW rfl rfl rfl rfl rfl rfl rfl (((ru16_spec _ _ _ _ _ _ T6.rd hl6).args (by first | rfl | (simp; fail_if_success focus skip) | (simp; omega) | (congr 2; omega))).mono ?_)
      rintro _ h7 ⟨a7, c7, rfl, r7, o7⟩ kk7
      refine ⟨fun i hi => .inr (by simp at hi; omega), ?_⟩
      have T7 := T6.call kk7 r7 o7
      have gC7 := T7.chk
      unfold Ck.cs at gC7
      try dsimp only at gC7
      have gP7 := T7.ptr
      have m7 := T7.n
      have hl7 := Nat.le_trans (left_len _ 2) hl6
      (refine Go.run (g:=?_))
      refine GoR.callW rfl rfl rfl rfl rfl rfl rfl (((ru16_spec _ _ _ _ _ _ T7.rd hl7).args (by first | rfl | (simp; fail_if_success focus skip) | (simp; omega) | (congr 2; omega))).mono ?_)
      rintro _ h8 ⟨a8, c8, rfl, r8, o8⟩ kk8
      refine ⟨fun i hi => .inr (by simp at hi; omega), ?_⟩
      have T8 := T7.call kk8 r8 o8
      have gC8 := T8.chk
      unfold Ck.cs at gC8
      try dsimp only at gC8
      have gP8 := T8.ptr
      have m8 := T8.n
      have hl8 := Nat.le_trans (left_len _ 2) hl7
      (refine Go.run (g:=?_))
      refine GoR.callW rfl rfl rfl rfl rfl rfl rfl (((ru32_spec _ _ _ _ _ _ T8.rd hl8).args (by first | rfl | (simp; fail_if_success focus skip) | (simp; omega) | (congr 2; omega))).mono ?_)
      rintro _ h9 ⟨a9, c9, rfl, r9, o9⟩ kk9
      refine ⟨fun i hi => .inr (by simp at hi; omega), ?_⟩
      have T9 := T8.call kk9 r9 o9
      have gC9 := T9.chk
      unfold Ck.cs at gC9
      try dsimp only at gC9
      have gP9 := T9.ptr
      have m9 := T9.n
      have hl9 := Nat.le_trans (left_len _ 4) hl8
      (refine Go.run (g:=?_))
      refine GoR.name ?_
      intro h10 e10
      have T10 := TSt.put_eq (⟨k, f, 0, 0, num zs 4, 0, 0, num (left zs 4) 2, num (left (left zs 4) 2) 2, num (left (left (left zs 4) 2) 2) 4, ⟨none, 0, 0⟩, ⟨none, 0, 0⟩, ⟨none, 0, 0⟩, ⟨none, 0, 0⟩, ⟨none, 0, 0⟩⟩ : Ck) (((T9.put (⟨k, f, 0, 0, num zs 4, 0, 0, 0, 0, 0, ⟨none, 0, 0⟩, ⟨none, 0, 0⟩, ⟨none, 0, 0⟩, ⟨none, 0, 0⟩, ⟨none, 0, 0⟩⟩ : Ck)).put (⟨k, f, 0, 0, num zs 4, 0, 0, num (left zs 4) 2, 0, 0, ⟨none, 0, 0⟩, ⟨none, 0, 0⟩, ⟨none, 0, 0⟩, ⟨none, 0, 0⟩, ⟨none, 0, 0⟩⟩ : Ck)).put (⟨k, f, 0, 0, num zs 4, 0, 0, num (left zs 4) 2, num (left (left zs 4) 2) 2, 0, ⟨none, 0, 0⟩, ⟨none, 0, 0⟩, ⟨none, 0, 0⟩, ⟨none, 0, 0⟩, ⟨none, 0, 0⟩⟩ : Ck)) e10
      clear e10
      have gP10 := T10.ptr
      have m10 := T10.n
      refine GoR.callW rfl rfl rfl rfl rfl rfl rfl (((rrest_spec _ _ _ _ _ _ T10.rd hl9).args (by first | rfl | (simp; fail_if_success focus skip) | (simp; omega) | (congr 2; omega))).mono ?_)
      rintro _ hr10 ⟨br10, cr10, rfl, vr10, or10, rr10⟩ kr10
      refine ⟨fun i hi => .inr (by simp at hi; omega), ?_⟩
      have Tr10 := T10.call kr10 rr10 (fun i hi => by simp [blk] at hi)
      have gC10 := Tr10.chk
      unfold Ck.cs at gC10
      try dsimp only at gC10
      have mr10 := Tr10.n
      (refine Go.run (g:=?_))
      refine Go.name ?_
      intro hz10 ez10
      have Tz10 := Tr10.put_eq (⟨k, f, 0, 0, num zs 4, 0, 0, num (left zs 4) 2, num (left (left zs 4) 2) 2, num (left (left (left zs 4) 2) 2) 4, ⟨br10, (left (left (left (left zs 4) 2) 2) 4).length, cr10⟩, ⟨none, 0, 0⟩, ⟨none, 0, 0⟩, ⟨none, 0, 0⟩, ⟨none, 0, 0⟩⟩ : Ck) ez10
      have vz10 := vr10.put_eq ez10 (fun hm => by have := or10 _ hm; omega)
      clear ez10
      have ok10 : COk hz10 (⟨k, f, 0, 0, num zs 4, 0, 0, num (left zs 4) 2, num (left (left zs 4) 2) 2, num (left (left (left zs 4) 2) 2) 4, ⟨br10, (left (left (left (left zs 4) 2) 2) 4).length, cr10⟩, ⟨none, 0, 0⟩, ⟨none, 0, 0⟩, ⟨none, 0, 0⟩, ⟨none, 0, 0⟩⟩ : Ck) ⟨left (left (left (left zs 4) 2) 2) 4, [], [], [], []⟩ := { COk.base hz10 k f hk8 hf with tsn := num_lt4 _, sid := num_lt2 _, ssn := num_lt2 _, ppid := num_lt4 _, dl := rfl, dv := vz10.rv }
      refine Go.joined (hz10, _, _, none, 0, [], _, []) ⟨Tz10, ok10, ⟨or10.mono (by omega), Own.nil _, Own.nil _, Own.nil _, Own.nil _, fun x hx => by cases hx⟩, .inl rfl, ?_⟩ ⟨rfl, rfl, rfl, trivial⟩ rfl rfl
      subst hk0
      exact k0_fin f zs ok10
    · (refine Go.run (g:=?_))
      refine GoR.callW rfl rfl rfl rfl rfl rfl rfl (((ru32_spec _ _ _ _ _ _ T5.rd hl).args (by first | rfl | (simp; fail_if_success focus skip) | (simp; omega) | (congr 2; omega))).mono ?_)
      rintro _ h6 ⟨a6, c6, rfl, r6, o6⟩ kk6
      refine ⟨fun i hi => .inr (by simp at hi; omega), ?_⟩
      have T6 := T5.call kk6 r6 o6
      have gC6 := T6.chk
      unfold Ck.cs at gC6
      try dsimp only at gC6
      have gP6 := T6.ptr
      have m6 := T6.n
      have hl6 := Nat.le_trans (left_len _ 4) hl
      (refine Go.run (g:=?_))
      refine GoR.callW rfl rfl rfl rfl rfl rfl rfl (((ru32_spec _ _ _ _ _ _ T6.rd hl6).args (by first | rfl | (simp; fail_if_success focus skip) | (simp; omega) | (congr 2; omega))).mono ?_)
      rintro _ h7 ⟨a7, c7, rfl, r7, o7⟩ kk7
      refine ⟨fun i hi => .inr (by simp at hi; omega), ?_⟩
      have T7 := T6.call kk7 r7 o7
      have gC7 := T7.chk
      unfold Ck.cs at gC7
      try dsimp only at gC7
      have gP7 := T7.ptr
      have m7 := T7.n
      have hl7 := Nat.le_trans (left_len _ 4) hl6
      (refine Go.run (g:=?_))
      refine GoR.callW rfl rfl rfl rfl rfl rfl rfl (((ru16_spec _ _ _ _ _ _ T7.rd hl7).args (by first | rfl | (simp; fail_if_success focus skip) | (simp; omega) | (congr 2; omega))).mono ?_)
      rintro _ h8 ⟨a8, c8, rfl, r8, o8⟩ kk8
      refine ⟨fun i hi => .inr (by simp at hi; omega), ?_⟩
      have T8 := T7.call kk8 r8 o8
      have gC8 := T8.chk
      unfold Ck.cs at gC8
      try dsimp only at gC8
      have gP8 := T8.ptr
      have m8 := T8.n
      have hl8 := Nat.le_trans (left_len _ 2) hl7
      (refine Go.run (g:=?_))
      refine GoR.callW rfl rfl rfl rfl rfl rfl rfl (((ru16_spec _ _ _ _ _ _ T8.rd hl8).args (by first | rfl | (simp; fail_if_success focus skip) | (simp; omega) | (congr 2; omega))).mono ?_)
      rintro _ h9 ⟨a9, c9, rfl, r9, o9⟩ kk9
      refine ⟨fun i hi => .inr (by simp at hi; omega), ?_⟩
      have T9 := T8.call kk9 r9 o9
      have gC9 := T9.chk
      unfold Ck.cs at gC9
      try dsimp only at gC9
      have gP9 := T9.ptr
      have m9 := T9.n
      have hl9 := Nat.le_trans (left_len _ 2) hl8
      (refine Go.run (g:=?_))
      refine GoR.callW rfl rfl rfl rfl rfl rfl rfl (((ru32_spec _ _ _ _ _ _ T9.rd hl9).args (by first | rfl | (simp; fail_if_success focus skip) | (simp; omega) | (congr 2; omega))).mono ?_)
      rintro _ h10 ⟨a10, c10, rfl, r10, o10⟩ kk10
      refine ⟨fun i hi => .inr (by simp at hi; omega), ?_⟩
      have T10 := T9.call kk10 r10 o10
      have gC10 := T10.chk
      unfold Ck.cs at gC10
      try dsimp only at gC10
      have gP10 := T10.ptr
      have m10 := T10.n
      have hl10 := Nat.le_trans (left_len _ 4) hl9
      (refine Go.run (g:=?_))
      refine GoR.name ?_
      intro h11 e11
      have T11 := TSt.put_eq (⟨k, f, num zs 4, num (left zs 4) 4, num (left (left (left (left zs 4) 4) 2) 2) 4, num (left (left zs 4) 4) 2, num (left (left (left zs 4) 4) 2) 2, 0, 0, 0, ⟨none, 0, 0⟩, ⟨none, 0, 0⟩, ⟨none, 0, 0⟩, ⟨none, 0, 0⟩, ⟨none, 0, 0⟩⟩ : Ck) ((((T10.put (⟨k, f, num zs 4, 0, 0, 0, 0, 0, 0, 0, ⟨none, 0, 0⟩, ⟨none, 0, 0⟩, ⟨none, 0, 0⟩, ⟨none, 0, 0⟩, ⟨none, 0, 0⟩⟩ : Ck)).put (⟨k, f, num zs 4, num (left zs 4) 4, 0, 0, 0, 0, 0, 0, ⟨none, 0, 0⟩, ⟨none, 0, 0⟩, ⟨none, 0, 0⟩, ⟨none, 0, 0⟩, ⟨none, 0, 0⟩⟩ : Ck)).put (⟨k, f, num zs 4, num (left zs 4) 4, 0, num (left (left zs 4) 4) 2, 0, 0, 0, 0, ⟨none, 0, 0⟩, ⟨none, 0, 0⟩, ⟨none, 0, 0⟩, ⟨none, 0, 0⟩, ⟨none, 0, 0⟩⟩ : Ck)).put (⟨k, f, num zs 4, num (left zs 4) 4, 0, num (left (left zs 4) 4) 2, num (left (left (left zs 4) 4) 2) 2, 0, 0, 0, ⟨none, 0, 0⟩, ⟨none, 0, 0⟩, ⟨none, 0, 0⟩, ⟨none, 0, 0⟩, ⟨none, 0, 0⟩⟩ : Ck)) e11
      clear e11
      have m11 := T11.n
      refine GoR.callW rfl rfl rfl rfl rfl rfl rfl (((rparams_spec _ _ _ (⟨k, f, num zs 4, num (left zs 4) 4, num (left (left (left (left zs 4) 4) 2) 2) 4, num (left (left zs 4) 4) 2, num (left (left (left zs 4) 4) 2) 2, 0, 0, 0, ⟨none, 0, 0⟩, ⟨none, 0, 0⟩, ⟨none, 0, 0⟩, ⟨none, 0, 0⟩, ⟨none, 0, 0⟩⟩ : Ck) rfl rfl _ _ _ _ T11.chk T11.rd (by omega) hl10).args (by first | rfl | (simp; fail_if_success focus skip) | (simp; omega) | (congr 2; omega))).mono ?_)
      rintro _ h12 ⟨s, gq12, r12, vA, lA, aA, lD, vD, oA, oD, hp⟩ k12
      refine ⟨fun i hi => .inr (by simp at hi; omega), ?_⟩
      have T12 := T11.params k12 gq12 r12
      have ok12 : COk h12 (⟨k, f, num zs 4, num (left zs 4) 4, num (left (left (left (left zs 4) 4) 2) 2) 4, num (left (left zs 4) 4) 2, num (left (left (left zs 4) 4) 2) 2, 0, 0, 0, s.D, s.A, ⟨none, 0, 0⟩, ⟨none, 0, 0⟩, ⟨none, 0, 0⟩⟩ : Ck) ⟨s.data, s.addrs, [], [], []⟩ := { COk.base h12 k f hk8 hf with tag := num_lt4 _, rwnd := num_lt4 _, out := num_lt2 _, inn := num_lt2 _, tsn := num_lt4 _, dl := lD, dv := vD, al := lA, av := vA.rv, ab := aA }
      (refine Go.run (g:=?_))
      refine Go.joined (h12, _, _, none, 0, [], _, []) ⟨T12, ok12, ⟨oD.mono (by omega), oA.mono (by omega), Own.nil _, Own.nil _, Own.nil _, fun x hx => by cases hx⟩, .inl rfl, ?_⟩ ⟨rfl, rfl, rfl, trivial⟩ rfl rfl
      exact k1_fin k f (by omega) zs s hp ok12
    · (refine Go.run (g:=?_))
      refine GoR.callW rfl rfl rfl rfl rfl rfl rfl (((ru32_spec _ _ _ _ _ _ T5.rd hl).args (by first | rfl | (simp; fail_if_success focus skip) | (simp; omega) | (congr 2; omega))).mono ?_)
      rintro _ h6 ⟨a6, c6, rfl, r6, o6⟩ kk6
      refine ⟨fun i hi => .inr (by simp at hi; omega), ?_⟩
      have T6 := T5.call kk6 r6 o6
      have gC6 := T6.chk
      unfold Ck.cs at gC6
      try dsimp only at gC6
      have gP6 := T6.ptr
      have m6 := T6.n
      have hl6 := Nat.le_trans (left_len _ 4) hl
      (refine Go.run (g:=?_))
      refine GoR.callW rfl rfl rfl rfl rfl rfl rfl (((ru32_spec _ _ _ _ _ _ T6.rd hl6).args (by first | rfl | (simp; fail_if_success focus skip) | (simp; omega) | (congr 2; omega))).mono ?_)
      rintro _ h7 ⟨a7, c7, rfl, r7, o7⟩ kk7
      refine ⟨fun i hi => .inr (by simp at hi; omega), ?_⟩
      have T7 := T6.call kk7 r7 o7
      have gC7 := T7.chk
      unfold Ck.cs at gC7
      try dsimp only at gC7
      have gP7 := T7.ptr
      have m7 := T7.n
      have hl7 := Nat.le_trans (left_len _ 4) hl6
      (refine Go.run (g:=?_))
      refine GoR.callW rfl rfl rfl rfl rfl rfl rfl (((ru16_spec _ _ _ _ _ _ T7.rd hl7).args (by first | rfl | (simp; fail_if_success focus skip) | (simp; omega) | (congr 2; omega))).mono ?_)
      rintro _ h8 ⟨a8, c8, rfl, r8, o8⟩ kk8
      refine ⟨fun i hi => .inr (by simp at hi; omega), ?_⟩
      have T8 := T7.call kk8 r8 o8
      have gC8 := T8.chk
      unfold Ck.cs at gC8
      try dsimp only at gC8
      have gP8 := T8.ptr
      have m8 := T8.n
      have hl8 := Nat.le_trans (left_len _ 2) hl7
      (refine Go.run (g:=?_))
      refine GoR.callW rfl rfl rfl rfl rfl rfl rfl (((ru16_spec _ _ _ _ _ _ T8.rd hl8).args (by first | rfl | (simp; fail_if_success focus skip) | (simp; omega) | (congr 2; omega))).mono ?_)
      rintro _ h9 ⟨a9, c9, rfl, r9, o9⟩ kk9
      refine ⟨fun i hi => .inr (by simp at hi; omega), ?_⟩
      have T9 := T8.call kk9 r9 o9
      have gC9 := T9.chk
      unfold Ck.cs at gC9
      try dsimp only at gC9
      have gP9 := T9.ptr
      have m9 := T9.n
      have hl9 := Nat.le_trans (left_len _ 2) hl8
      (refine Go.run (g:=?_))
      refine GoR.callW rfl rfl rfl rfl rfl rfl rfl (((ru32_spec _ _ _ _ _ _ T9.rd hl9).args (by first | rfl | (simp; fail_if_success focus skip) | (simp; omega) | (congr 2; omega))).mono ?_)
      rintro _ h10 ⟨a10, c10, rfl, r10, o10⟩ kk10
      refine ⟨fun i hi => .inr (by simp at hi; omega), ?_⟩
      have T10 := T9.call kk10 r10 o10
      have gC10 := T10.chk
      unfold Ck.cs at gC10
      try dsimp only at gC10
      have gP10 := T10.ptr
      have m10 := T10.n
      have hl10 := Nat.le_trans (left_len _ 4) hl9
      (refine Go.run (g:=?_))
      refine GoR.name ?_
      intro h11 e11
      have T11 := TSt.put_eq (⟨k, f, num zs 4, num (left zs 4) 4, num (left (left (left (left zs 4) 4) 2) 2) 4, num (left (left zs 4) 4) 2, num (left (left (left zs 4) 4) 2) 2, 0, 0, 0, ⟨none, 0, 0⟩, ⟨none, 0, 0⟩, ⟨none, 0, 0⟩, ⟨none, 0, 0⟩, ⟨none, 0, 0⟩⟩ : Ck) ((((T10.put (⟨k, f, num zs 4, 0, 0, 0, 0, 0, 0, 0, ⟨none, 0, 0⟩, ⟨none, 0, 0⟩, ⟨none, 0, 0⟩, ⟨none, 0, 0⟩, ⟨none, 0, 0⟩⟩ : Ck)).put (⟨k, f, num zs 4, num (left zs 4) 4, 0, 0, 0, 0, 0, 0, ⟨none, 0, 0⟩, ⟨none, 0, 0⟩, ⟨none, 0, 0⟩, ⟨none, 0, 0⟩, ⟨none, 0, 0⟩⟩ : Ck)).put (⟨k, f, num zs 4, num (left zs 4) 4, 0, num (left (left zs 4) 4) 2, 0, 0, 0, 0, ⟨none, 0, 0⟩, ⟨none, 0, 0⟩, ⟨none, 0, 0⟩, ⟨none, 0, 0⟩, ⟨none, 0, 0⟩⟩ : Ck)).put (⟨k, f, num zs 4, num (left zs 4) 4, 0, num (left (left zs 4) 4) 2, num (left (left (left zs 4) 4) 2) 2, 0, 0, 0, ⟨none, 0, 0⟩, ⟨none, 0, 0⟩, ⟨none, 0, 0⟩, ⟨none, 0, 0⟩, ⟨none, 0, 0⟩⟩ : Ck)) e11
      clear e11
      have m11 := T11.n
      refine GoR.callW rfl rfl rfl rfl rfl rfl rfl (((rparams_spec _ _ _ (⟨k, f, num zs 4, num (left zs 4) 4, num (left (left (left (left zs 4) 4) 2) 2) 4, num (left (left zs 4) 4) 2, num (left (left (left zs 4) 4) 2) 2, 0, 0, 0, ⟨none, 0, 0⟩, ⟨none, 0, 0⟩, ⟨none, 0, 0⟩, ⟨none, 0, 0⟩, ⟨none, 0, 0⟩⟩ : Ck) rfl rfl _ _ _ _ T11.chk T11.rd (by omega) hl10).args (by first | rfl | (simp; fail_if_success focus skip) | (simp; omega) | (congr 2; omega))).mono ?_)
      rintro _ h12 ⟨s, gq12, r12, vA, lA, aA, lD, vD, oA, oD, hp⟩ k12
      refine ⟨fun i hi => .inr (by simp at hi; omega), ?_⟩
      have T12 := T11.params k12 gq12 r12
      have ok12 : COk h12 (⟨k, f, num zs 4, num (left zs 4) 4, num (left (left (left (left zs 4) 4) 2) 2) 4, num (left (left zs 4) 4) 2, num (left (left (left zs 4) 4) 2) 2, 0, 0, 0, s.D, s.A, ⟨none, 0, 0⟩, ⟨none, 0, 0⟩, ⟨none, 0, 0⟩⟩ : Ck) ⟨s.data, s.addrs, [], [], []⟩ := { COk.base h12 k f hk8 hf with tag := num_lt4 _, rwnd := num_lt4 _, out := num_lt2 _, inn := num_lt2 _, tsn := num_lt4 _, dl := lD, dv := vD, al := lA, av := vA.rv, ab := aA }
      (refine Go.run (g:=?_))
      refine Go.joined (h12, _, _, none, 0, [], _, []) ⟨T12, ok12, ⟨oD.mono (by omega), oA.mono (by omega), Own.nil _, Own.nil _, Own.nil _, fun x hx => by cases hx⟩, .inl rfl, ?_⟩ ⟨rfl, rfl, rfl, trivial⟩ rfl rfl
      exact k1_fin k f (by omega) zs s hp ok12
    · (refine Go.run (g:=?_))
      refine GoR.callW rfl rfl rfl rfl rfl rfl rfl (((ru32_spec _ _ _ _ _ _ T5.rd hl).args (by first | rfl | (simp; fail_if_success focus skip) | (simp; omega) | (congr 2; omega))).mono ?_)
      rintro _ h6 ⟨a6, c6, rfl, r6, o6⟩ kk6
      refine ⟨fun i hi => .inr (by simp at hi; omega), ?_⟩
      have T6 := T5.call kk6 r6 o6
      have gC6 := T6.chk
      unfold Ck.cs at gC6
      try dsimp only at gC6
      have gP6 := T6.ptr
      have m6 := T6.n
      have hl6 := Nat.le_trans (left_len _ 4) hl
      (refine Go.run (g:=?_))
      refine GoR.callW rfl rfl rfl rfl rfl rfl rfl (((ru32_spec _ _ _ _ _ _ T6.rd hl6).args (by first | rfl | (simp; fail_if_success focus skip) | (simp; omega) | (congr 2; omega))).mono ?_)
      rintro _ h7 ⟨a7, c7, rfl, r7, o7⟩ kk7
      refine ⟨fun i hi => .inr (by simp at hi; omega), ?_⟩
      have T7 := T6.call kk7 r7 o7
      have gC7 := T7.chk
      unfold Ck.cs at gC7
      try dsimp only at gC7
      have gP7 := T7.ptr
      have m7 := T7.n
      have hl7 := Nat.le_trans (left_len _ 4) hl6
      (refine Go.run (g:=?_))
      refine GoR.name ?_
      intro h8 e8
      have T8 := TSt.put_eq (⟨k, f, 0, num (left zs 4) 4, num zs 4, 0, 0, 0, 0, 0, ⟨none, 0, 0⟩, ⟨none, 0, 0⟩, ⟨none, 0, 0⟩, ⟨none, 0, 0⟩, ⟨none, 0, 0⟩⟩ : Ck) (T7.put (⟨k, f, 0, 0, num zs 4, 0, 0, 0, 0, 0, ⟨none, 0, 0⟩, ⟨none, 0, 0⟩, ⟨none, 0, 0⟩, ⟨none, 0, 0⟩, ⟨none, 0, 0⟩⟩ : Ck)) e8
      clear e8
      have gC8 := T8.chk
      unfold Ck.cs at gC8
      have gP8 := T8.ptr
      have m8 := T8.n
      (refine Go.run (g:=?_))
      refine GoR.callW rfl rfl rfl rfl rfl rfl rfl (((ru16_spec _ _ _ _ _ _ T8.rd hl7).args (by first | rfl | (simp; fail_if_success focus skip) | (simp; omega) | (congr 2; omega))).mono ?_)
      rintro _ h9 ⟨a9, c9, rfl, r9, o9⟩ kk9
      refine ⟨fun i hi => .inr (by simp at hi; omega), ?_⟩
      have T9 := T8.call kk9 r9 o9
      have gC9 := T9.chk
      unfold Ck.cs at gC9
      try dsimp only at gC9
      have gP9 := T9.ptr
      have m9 := T9.n
      have hl9 := Nat.le_trans (left_len _ 2) hl7
      (refine Go.run (g:=?_))
      refine GoR.callW rfl rfl rfl rfl rfl rfl rfl (((ru16_spec _ _ _ _ _ _ T9.rd hl9).args (by first | rfl | (simp; fail_if_success focus skip) | (simp; omega) | (congr 2; omega))).mono ?_)
      rintro _ h10 ⟨a10, c10, rfl, r10, o10⟩ kk10
      refine ⟨fun i hi => .inr (by simp at hi; omega), ?_⟩
      have T10 := T9.call kk10 r10 o10
      have gC10 := T10.chk
      unfold Ck.cs at gC10
      try dsimp only at gC10
      have gP10 := T10.ptr
      have m10 := T10.n
      have hl10 := Nat.le_trans (left_len _ 2) hl9
      have hG2 := num_lt2 (left (left zs 4) 4)
      have hU2 := num_lt2 (left (left (left zs 4) 4) 2)
      generalize hG : num (left (left zs 4) 4) 2 = G at hG2 ⊢
      generalize hU : num (left (left (left zs 4) 4) 2) 2 = U at hU2 ⊢
      generalize hy : left (left (left (left zs 4) 4) 2) 2 = ys0 at T10 hl10
      generalize hb : (false || short zs 4 || short (left zs 4) 4 || short (left (left zs 4) 4) 2 || short (left (left (left zs 4) 4) 2) 2) = bad0 at T10
      (refine Go.run (g:=?_))
      refine GoR.minI rfl rfl rfl rfl rfl rfl ?_
      rw [show (if (65 : Int) < (G : Int) then (65 : Int) else (G : Int)) = ((min G 65 : Nat) : Int) from by split <;> omega]
      (refine Go.run (g:=?_))
      refine Go.loop (α := Nat × AHeap × Option Addr × Nat × Option Addr × Nat) (fun x => [(86, .int .u16 x.1), (85, .int .u16 (min G 65 : Nat)), (9, .int .u16 U), (7, .func (.func 62) #[.pointer (some ⟨h.n + 3, 0, none⟩)] #[]), (6, .func (.func 61) #[.pointer (some ⟨h.n + 3, 0, none⟩)] #[]), (2, .pointer (some ⟨h.n + 1, 0, none⟩)), (4, .pointer (some ⟨h.n + 2, 0, none⟩)), (5, .pointer (some ⟨h.n + 4, 0, none⟩))]) (fun _ => []) (fun x => x.2.1)
        (fun x => x.1 ≤ min G 65 ∧ TSt h x.2.1 (⟨k, f, 0, num (left zs 4) 4, num zs 4, 0, 0, 0, 0, 0, ⟨none, 0, 0⟩, ⟨none, 0, 0⟩, ⟨x.2.2.2.2.1, x.1, x.2.2.2.2.2⟩, ⟨none, 0, 0⟩, ⟨none, 0, 0⟩⟩ : Ck) x.2.2.1 x.2.2.2.1 (gapsR x.1 ys0 bad0).2.1 (gapsR x.1 ys0 bad0).2.2 ∧ Sv x.2.1 82 2 x.2.2.2.2.1 x.1 x.2.2.2.2.2 (gcs (gapsR x.1 ys0 bad0).1) ∧ Own (h.n + 5) x.2.2.2.2.1) (fun x => min G 65 - x.1) (0, h10, a10, c10, none, 0) ?_ ?_ rfl rfl ?_
      · exact ⟨Nat.zero_le _, T10, .nil, Own.nil _⟩
      · exact ⟨rfl, rfl, rfl, rfl, rfl, rfl, rfl, rfl, trivial⟩
      clear T5 T6 T7 T8 T9 T10 gC5 gC6 gC7 gC8 gC9 gC10 gP5 gP6 gP7 gP8 gP9 gP10 r6 r7 r9 r10
      rintro ⟨i, H, a1, c1, b1, cb1⟩ ⟨hi, T, hsv, hob⟩
      simp only at hi T hsv hob ⊢
      have hlT := Nat.le_trans (gapsR_rest i ys0 bad0) hl10
      have gC := T.chk
      unfold Ck.cs at gC
      try dsimp only at gC
      have gP := T.ptr
      have mT := T.n
      rcases Nat.lt_or_ge i (min G 65) with i0 | i0
      · (refine Go.run (g:=?_))
        refine Go.loud (by kernel_rfl) rfl ?_
        (refine Go.runL (g:=?_))
        refine GoL.call rfl rfl rfl rfl rfl rfl rfl (((ru16_spec _ _ _ _ _ _ T.rd hlT).args (by first | rfl | (simp; fail_if_success focus skip) | (simp; omega) | (congr 2; omega))).mono ?_)
        rintro _ h1 ⟨a1, c1, rfl, r1, o1⟩ kk1
        refine ⟨fun i hi => .inr (by simp at hi; omega), ?_⟩
        have T1 := T.call kk1 r1 o1
        have gC1 := T1.chk
        unfold Ck.cs at gC1
        try dsimp only at gC1
        have m1 := T1.n
        have hl1 := Nat.le_trans (left_len _ 2) hlT
        (refine Go.runL (g:=?_))
        refine GoL.call rfl rfl rfl rfl rfl rfl rfl (((ru16_spec _ _ _ _ _ _ T1.rd hl1).args (by first | rfl | (simp; fail_if_success focus skip) | (simp; omega) | (congr 2; omega))).mono ?_)
        rintro _ h2 ⟨a2, c2, rfl, r2, o2⟩ kk2
        refine ⟨fun i hi => .inr (by simp at hi; omega), ?_⟩
        have T2 := T1.call kk2 r2 o2
        have gC2 := T2.chk
        unfold Ck.cs at gC2
        try dsimp only at gC2
        have m2 := T2.n
        have hl2 := Nat.le_trans (left_len _ 2) hl1
        have hn1 := num_lt2 (gapsR i ys0 bad0).2.1
        have hn2 := num_lt2 (left (gapsR i ys0 bad0).2.1 2)
        have hsv2 := (hsv.keeps kk1 (fun i hi hm => by simp only [List.mem_singleton] at hm; have := hob _ hi; omega)).keeps kk2 (fun i hi hm => by simp only [List.mem_singleton] at hm; have := hob _ hi; omega)
        (refine Go.runL (g:=?_))
        refine GoL.buildRo (c := [.int .u16 (num (gapsR i ys0 bad0).2.1 2 : Nat), .int .u16 (num (left (gapsR i ys0 bad0).2.1 2) 2 : Nat)]) rfl rfl rfl rfl rfl (by decide) (by rfl) (by rfl) ?_
        intro b8 h8 hb8 rb8 ob8 s8 n8
        have T8 := T2.to s8
        refine GoL.appendV rfl rfl rfl rfl rfl rfl (hsv2.same s8) hb8 (fun i hi => .inr (by have := hob _ hi; omega)) (by omega) (by omega) (by rfl) ?_
        intro b9 c9 h9 rd wr hwr hrd hs9 k9 o9
        have T9 := T8.app k9 hob
        have gC9 := T9.chk
        unfold Ck.cs at gC9
        try dsimp only at gC9
        have m9 := T9.n
        have nk9 := k9.1
        (refine Go.runL (g:=?_))
        refine GoL.store' rfl rfl rfl rfl rfl (hl:=rfl) (h1:=rfl) (h3:=rfl) (g:=?_)
        refine GoL.end_ (hl := by (simp only [List.nil_append, List.cons_append]); repeat (first | exact loudP.nil | refine loudP.none ?_ | refine loudP.new (fun _ hb => absurd hb List.not_mem_nil) ?_ | refine loudP.row (by repeat (first | exact loudRowP.nil | refine loudRowP.none ?_ | refine loudRowP.bef (by decide +kernel) ?_ | refine loudRowP.apart (by first | exact .inl rfl | exact .inr (by simp)) rfl (by intro i hi; simp only [List.mem_singleton] at hi; subst hi; simp; omega) ?_)) ?_)) ?_
        (refine Go.run (g:=?_))
        refine Go.name ?_
        intro h10 e10
        have TT := T9.put_eq (⟨k, f, 0, num (left zs 4) 4, num zs 4, 0, 0, 0, 0, 0, ⟨none, 0, 0⟩, ⟨none, 0, 0⟩, ⟨b9, i + 1, c9⟩, ⟨none, 0, 0⟩, ⟨none, 0, 0⟩⟩ : Ck) e10
        have ob9 : Own (h.n + 5) b9 := hob.app (by omega) o9
        have hs10 := hs9.put_eq e10 (fun hm => by have := ob9 _ hm; omega)
        exact Go.again (i + 1, h10, a2, c2, b9, c9) ⟨by simp only; omega, TT, by simp only [gapsR, gcs_snoc]; exact hs10, ob9⟩ (by simp only; omega) ⟨rfl, rfl, rfl, rfl, rfl, rfl, rfl, rfl, trivial⟩ rfl rfl
      have hie : i = min G 65 := by omega
      subst hie
      have hgl := gapsR_len (min G 65) ys0 bad0
      have hlG := gapsR_rest (min G 65) ys0 bad0
      generalize hys1 : (gapsR (min G 65) ys0 bad0).2.1 = ys1 at T hlT
      generalize hbad1 : (gapsR (min G 65) ys0 bad0).2.2 = bad1 at T
      (refine Go.run (g:=?_))
      refine GoR.minI rfl rfl rfl rfl rfl rfl ?_
      rw [show (if (17 : Int) < (U : Int) then (17 : Int) else (U : Int)) = ((min U 17 : Nat) : Int) from by split <;> omega]
      (refine Go.run (g:=?_))
      refine Go.loop (α := Nat × AHeap × Option Addr × Nat × Option Addr × Nat) (fun x => [(101, .int .u16 x.1), (100, .int .u16 (min U 17 : Nat)), (7, .func (.func 62) #[.pointer (some ⟨h.n + 3, 0, none⟩)] #[]), (6, .func (.func 61) #[.pointer (some ⟨h.n + 3, 0, none⟩)] #[]), (2, .pointer (some ⟨h.n + 1, 0, none⟩)), (4, .pointer (some ⟨h.n + 2, 0, none⟩)), (5, .pointer (some ⟨h.n + 4, 0, none⟩))]) (fun _ => []) (fun x => x.2.1)
        (fun x => x.1 ≤ min U 17 ∧ TSt h x.2.1 (⟨k, f, 0, num (left zs 4) 4, num zs 4, 0, 0, 0, 0, 0, ⟨none, 0, 0⟩, ⟨none, 0, 0⟩, ⟨b1, min G 65, cb1⟩, ⟨x.2.2.2.2.1, x.1, x.2.2.2.2.2⟩, ⟨none, 0, 0⟩⟩ : Ck) x.2.2.1 x.2.2.2.1 (dupsR x.1 ys1 bad1).2.1 (dupsR x.1 ys1 bad1).2.2 ∧ Sv x.2.1 44 1 x.2.2.2.2.1 x.1 x.2.2.2.2.2 (w32s (dupsR x.1 ys1 bad1).1) ∧ Own (h.n + 5) x.2.2.2.2.1 ∧ Sv x.2.1 82 2 b1 (min G 65) cb1 (gcs (gapsR (min G 65) ys0 bad0).1) ∧ ∀ i ∈ blk b1, i ∉ blk x.2.2.2.2.1) (fun x => min U 17 - x.1) (0, H, a1, c1, none, 0) ?_ ?_ rfl rfl ?_
      · exact ⟨Nat.zero_le _, T, .nil, Own.nil _, hsv, fun i _ hm => by simp [blk] at hm⟩
      · exact ⟨rfl, rfl, rfl, rfl, rfl, rfl, rfl, trivial⟩
      clear T hsv gC gP mT
      rintro ⟨i, H, a1, c1, b2, cb2⟩ ⟨hi, T, hsv, hob2, hsvG, hap⟩
      simp only at hi T hsv hob2 hsvG hap ⊢
      have hlU := Nat.le_trans (dupsR_rest i ys1 bad1) hlT
      have gC := T.chk
      unfold Ck.cs at gC
      try dsimp only at gC
      have gP := T.ptr
      have mT := T.n
      rcases Nat.lt_or_ge i (min U 17) with i0 | i0
      · (refine Go.run (g:=?_))
        refine Go.loud (by kernel_rfl) rfl ?_
        (refine Go.runL (g:=?_))
        refine GoL.call rfl rfl rfl rfl rfl rfl rfl (((ru32_spec _ _ _ _ _ _ T.rd hlU).args (by first | rfl | (simp; fail_if_success focus skip) | (simp; omega) | (congr 2; omega))).mono ?_)
        rintro _ h2 ⟨a2, c2, rfl, r2, o2⟩ kk2
        refine ⟨fun i hi => .inr (by simp at hi; omega), ?_⟩
        have T2 := T.call kk2 r2 o2
        have gC2 := T2.chk
        unfold Ck.cs at gC2
        try dsimp only at gC2
        have m2 := T2.n
        have hl2 := Nat.le_trans (left_len _ 4) hlU
        have hn1 := num_lt4 (dupsR i ys1 bad1).2.1
        have nr3 : ∀ {b : Option Addr}, Own (h.n + 5) b → ∀ i ∈ blk b, i ∉ [h.n + 3] := fun w i hi hm => by simp only [List.mem_singleton] at hm; have := w _ hi; omega
        have hsv2 := hsv.keeps kk2 (nr3 hob2)
        have hsvG2 := hsvG.keeps kk2 (nr3 hob)
        (refine Go.runL (g:=?_))
        refine GoL.buildRo (c := w32s [num (dupsR i ys1 bad1).2.1 4]) rfl rfl rfl rfl rfl (by decide) (by rfl) (by rfl) ?_
        intro b8 h8 hb8 rb8 ob8 s8 n8
        have T8 := T2.to s8
        refine GoL.appendV rfl rfl rfl rfl rfl rfl (hsv2.same s8) hb8 (fun i hi => .inr (by have := hob2 _ hi; omega)) (by omega) (by omega) (by rfl) ?_
        intro b9 c9 h9 rd wr hwr hrd hs9 k9 o9
        have T9 := T8.app k9 hob2
        have gC9 := T9.chk
        unfold Ck.cs at gC9
        try dsimp only at gC9
        have m9 := T9.n
        have nk9 := k9.1
        have hsvG9 := (hsvG2.same s8).keeps k9 hap
        have hap9 : ∀ i ∈ blk b1, i ∉ blk b9 := fun i hi hm => (o9 i hm).elim (hap i hi) (fun x => by have := (hsvG2.same s8).lt _ hi; omega)
        (refine Go.runL (g:=?_))
        refine GoL.store' rfl rfl rfl rfl rfl (hl:=rfl) (h1:=rfl) (h3:=rfl) (g:=?_)
        refine GoL.end_ (hl := by (simp only [List.nil_append, List.cons_append]); repeat (first | exact loudP.nil | refine loudP.none ?_ | refine loudP.new (fun _ hb => absurd hb List.not_mem_nil) ?_ | refine loudP.row (by repeat (first | exact loudRowP.nil | refine loudRowP.none ?_ | refine loudRowP.bef (by decide +kernel) ?_ | refine loudRowP.apart (by first | exact .inl rfl | exact .inr (by simp)) rfl (by intro i hi; simp only [List.mem_singleton] at hi; subst hi; simp; omega) ?_)) ?_)) ?_
        (refine Go.run (g:=?_))
        refine Go.name ?_
        intro h10 e10
        have TT := T9.put_eq (⟨k, f, 0, num (left zs 4) 4, num zs 4, 0, 0, 0, 0, 0, ⟨none, 0, 0⟩, ⟨none, 0, 0⟩, ⟨b1, min G 65, cb1⟩, ⟨b9, i + 1, c9⟩, ⟨none, 0, 0⟩⟩ : Ck) e10
        have ob9 : Own (h.n + 5) b9 := hob2.app (by omega) o9
        have hs10 := hs9.put_eq e10 (fun hm => by have := ob9 _ hm; omega)
        have hsvG10 := hsvG9.put_eq e10 (fun hm => by have := hob _ hm; omega)
        exact Go.again (i + 1, h10, a2, c2, b9, c9) ⟨by simp only; omega, TT, by simp only [dupsR, w32s, List.map_append]; exact hs10, ob9, hsvG10, hap9⟩ (by simp only; omega) ⟨rfl, rfl, rfl, rfl, rfl, rfl, rfl, trivial⟩ rfl rfl
      have hie : i = min U 17 := by omega
      subst hie
      subst hys1 hbad1
      have okF : COk H (⟨k, f, 0, num (left zs 4) 4, num zs 4, 0, 0, 0, 0, 0, ⟨none, 0, 0⟩, ⟨none, 0, 0⟩, ⟨b1, min G 65, cb1⟩, ⟨b2, min U 17, cb2⟩, ⟨none, 0, 0⟩⟩ : Ck) ⟨[], [], (gapsR (min G 65) ys0 bad0).1, (dupsR (min U 17) (gapsR (min G 65) ys0 bad0).2.1 (gapsR (min G 65) ys0 bad0).2.2).1, []⟩ := { COk.base H k f hk8 hf with tsn := num_lt4 _, rwnd := num_lt4 _, gl := hgl, gv := hsvG.rv, gb := gapsR_lt _ _ _, ul := dupsR_len _ _ _, uv := hsv.rv, ub := dupsR_lt _ _ _ }
      (refine Go.run (g:=?_))
      refine Go.joined (H, _, _, a1, c1, _, _, []) ⟨T, okF, ⟨Own.nil _, Own.nil _, hob, hob2, Own.nil _, fun x hx => by cases hx⟩, .inl rfl, ?_⟩ ⟨rfl, rfl, rfl, trivial⟩ rfl rfl
      subst hk0
      exact k3_fin f zs hG hU hy hb okF
    · (refine Go.run (g:=?_))
      refine GoR.callW rfl rfl rfl rfl rfl rfl rfl (((rrest_spec _ _ _ _ _ _ T5.rd hl).args (by first | rfl | (simp; fail_if_success focus skip) | (simp; omega) | (congr 2; omega))).mono ?_)
      rintro _ h6 ⟨br, cr, rfl, vr, orr, rr⟩ kr
      refine ⟨fun i hi => .inr (by simp at hi; omega), ?_⟩
      have T6 := T5.call kr rr (fun i hi => by simp [blk] at hi)
      have m6 := T6.n
      (refine Go.run (g:=?_))
      refine GoR.call rfl rfl rfl rfl rfl rfl rfl (((allCall_spec false br zs.length cr _).args (by first | rfl | (simp; fail_if_success focus skip) | (simp; omega) | (congr 2; omega))).mono ?_)
      rintro _ _ ⟨rfl, rfl⟩ -
      (refine Go.run (g:=?_))
      refine Go.name ?_
      intro h7 e7
      have s7 : Same h6 h7 := by subst e7; exact ((Same.refl h6).push _).push _
      have n7 : h7.n = h6.n + 2 := by subst e7; rfl
      have gcb : h7.get h6.n = some (.cells [.bool false] 4) := by subst e7; exact get_push_lt (AHeap.get_push_same _ _)
      have gbb : h7.get (h6.n + 1) = some (.cells [.slice br zs.length cr] 23) := by subst e7; exact AHeap.get_push_same (h6.push _) _
      clear e7
      have T7 := T6.to s7
      have vr7 := vr.same s7
      refine Go.rangeFunc' (wr := [h7.n + 1, h.n + 2, h.n + 3, h7.n]) rfl (by rfl) (by kernel_rfl) ?_
      intro tm ps asg bo HH eps easg ebo eH hN hr
      have Hs : Same h7 HH := by subst eH; exact ((Same.refl h7).push _).push _
      have Hl : HH.get (h7.n + 1) = some (.loop .ready none tm ps asg bo h7.n) := by subst eH; exact AHeap.get_push_same (h7.push _) _
      have Hd : HH.get h7.n = some (.deferred true) := by subst eH; exact get_push_lt (AHeap.get_push_same _ _)
      have Hn : HH.n = h7.n + 2 := by subst eH; rfl
      clear eH
      have TH := T7.to Hs
      have vrH := vr7.same Hs
      have hpl := parse_len (chunk := false) zs
      have hob : ∀ i ∈ blk br, h5.n ≤ i ∧ i < h6.n := fun i hi => ⟨orr i hi, vr.lt i hi⟩
      refine ((all1_spec (l := h7.n + 1) (σ := List CV × Option Addr × Nat) (wrO := fun s => [h.n + 2, h.n + 3, h7.n] ++ blk s.2.1) (inv := fun s i H => KInv h tm ps asg bo (h7.n + 1) h7.n k f false s H ∧ s.1.map (fun x => (x.k, x.z)) = ((parse false zs).1.take i).map (fun x => (x.1, x.2.2)) ∧ s.1.length = i ∧ h7.n + 2 ≤ H.n) (stop := fun s i H => (parse false zs).2 = false ∧ KInv h tm ps asg bo (h7.n + 1) h7.n k f true s H) false (h6.n + 1) h6.n br zs.length cr zs rfl (by omega) _ ([], none, 0) ?Y ?i0 (Hs.get gbb) (Hs.get gcb) vrH.rv ?p1 ?p2 ?p3).args rfl).mono ?_
      case p1 => simp [blk]; omega
      case p2 => simp [blk]; omega
      case p3 => intro i hi; have := hob i hi; simp [blk]; omega
      case i0 => exact ⟨⟨Hl, Hd, TH, .nil, Own.nil _, fun i hi => by simp [blk] at hi, fun x hx => by cases hx⟩, by simp, rfl, by omega⟩
      case Y =>
        refine ⟨?_, ?_, ?_, ?_⟩
        · rintro s i H H' ⟨I, x1, x2, x3⟩ sm
          exact ⟨I.to sm, x1, x2, Nat.le_trans x3 sm.1⟩
        · rintro s i H ⟨I, x1, x2, x3⟩ b hb
          have mI := I.T.n
          simp only [List.mem_cons, List.mem_append, List.not_mem_nil, or_false] at hb
          rcases hb with rfl | (rfl | rfl | rfl) | hb
          · omega
          · omega
          · omega
          · omega
          · exact I.sv.lt _ hb
        · rintro ⟨ts, oa, oc⟩ i H t ⟨I, x1, x2, x3⟩ hit hok hnw hto
          simp only at I x1 x2 hnw ⊢
          have tb := parse_bd (chunk := false) zs t.thing (List.mem_of_getElem? hit)
          simp only [TV.thing] at tb
          refine YieldS.of' I.loop hN hr eps easg ebo rfl (by rfl) rfl (List.mem_cons_self ..) ?_
          (refine Go.run (g:=?_))
          refine Go.name ?_
          intro h8 e8
          have s8 : Same H h8 := by subst e8; exact ((Same.refl H).push _).put (Nat.le_refl _) _
          have n8 : h8.n = H.n + 1 := by subst e8; rfl
          have g8 : h8.get H.n = some (.cells t.cells 25) := by subst e8; exact AHeap.get_put_same _ (by simp) _
          clear e8
          refine Go.body (s8.get I.loop) ?_
          refine Go.name ?_
          intro h9 e9
          have k9 : Keeps [h7.n + 1] h8 h9 := by subst e9; exact (Keeps.rfl _ _).put (by simp) _
          have n9 : h9.n = h8.n := by subst e9; rfl
          have l9 : h9.get (h7.n + 1) = some (.loop .busy none tm ps asg bo h7.n) := by subst e9; exact get_put_self (s8.get I.loop)
          clear e9
          have T9 := (I.T.to s8).kp k9 (fun i hi => by simp only [List.mem_singleton] at hi; omega)
          have gC9 := T9.chk
          unfold Ck.cs at gC9
          try dsimp only at gC9
          have gP9 := T9.ptr
          have gr9 := T9.rd.g
          have m9 := T9.n
          have gt9 := k9.get g8 (by simp; omega)
          have md9 := k9.get (s8.get I.mark) (by simp)
          have sv9 := (I.sv.same s8).keeps k9 (fun i hi hm => by simp only [List.mem_singleton] at hm; exact I.sep i hi (by simp [hm]))
          have cb9 : ∀ x ∈ ts, Rv Try.prog h9 1 x.a x.z.length x.cap (x.z.map bv) := fun x hx => ((I.cb x hx).2.2.1.same s8).keeps k9 (fun i hi hm => by simp only [List.mem_singleton] at hm; exact (I.cb x hx).2.2.2.2.1 i hi (by simp [hm]))
          have ok9 : t.ok h9 := Rv.keeps (Rv.same hok s8) k9 (fun i hi hm => by simp only [List.mem_singleton] at hm; exact hnw _ hi (by simp [hm]))
          have htl : ts.length ≤ zs.length := by have := (List.getElem?_eq_some_iff.1 hit).1; omega
          (refine Go.run (g:=?_))
          refine Go.loud (by kernel_rfl) rfl ?_
          (refine Go.runL (g:=?_))
          refine GoL.store' rfl rfl rfl rfl rfl (hl:=rfl) (h1:=rfl) (h3:=rfl) (g:=?_)
          refine GoL.end_ (hl := by (simp only [List.nil_append, List.cons_append]); repeat (first | exact loudP.nil | refine loudP.none ?_ | refine loudP.new (fun _ hb => absurd hb List.not_mem_nil) ?_ | refine loudP.row (by repeat (first | exact loudRowP.nil | refine loudRowP.none ?_ | refine loudRowP.bef (by decide +kernel) ?_ | refine loudRowP.apart (by first | exact .inl rfl | exact .inr (by simp)) rfl (by intro i hi; simp only [List.mem_singleton] at hi; subst hi; simp; omega) ?_)) ?_)) ?_
          (refine Go.run (g:=?_))
          refine GoR.name ?_
          intro h10 e10
          have T10 : TSt h h10 (⟨k, f, 0, 0, 0, 0, 0, 0, 0, 0, ⟨none, 0, 0⟩, ⟨none, 0, 0⟩, ⟨none, 0, 0⟩, ⟨none, 0, 0⟩, ⟨oa, ts.length, oc⟩⟩ : Ck) none 0 [] false := by
            subst e10
            exact T9.putB false
          have p10 : ∀ {i : Nat} {o : AObj}, i ≠ h.n + 3 → h9.get i = some o → h10.get i = some o := fun hi e => by subst e10; exact get_put_other (fun x => hi x.symm) e
          have r10 : ∀ {a : Option Addr} {n c : Nat} {cs : List Value} {sz : Nat}, Own (h.n + 5) a → Rv Try.prog h9 sz a n c cs → Rv Try.prog h10 sz a n c cs := fun o r => by subst e10; exact r.put (fun hm => by have := o _ hm; omega) _
          have sv10 := sv9.put_eq e10 (fun hm => by have := I.own _ hm; omega)
          have n10 : h10.n = h9.n := by subst e10; rfl
          clear e10
          have gC10 := T10.chk
          unfold Ck.cs at gC10
          try dsimp only at gC10
          have l10 := p10 (by omega) l9
          have md10 := p10 (by omega) md9
          refine GoR.buildRo (c := [.int .u16 t.k, .slice t.a t.z.length t.cap]) rfl rfl rfl rfl rfl (by decide) (by rfl) (by rfl) ?_
          intro b11 h11 hb11 rb11 ob11 s11 n11
          have T11 := T10.to s11
          refine GoR.appendV rfl rfl rfl rfl rfl rfl (sv10.same s11) hb11 (fun i hi => .inl (by simp [hi])) (by omega) (by omega) (by rfl) ?_
          intro b12 c12 h12 hs12 k12 o12
          have m12 := k12.1
          have T12 := T11.app k12 I.own
          have gC12 := T12.chk
          unfold Ck.cs at gC12
          try dsimp only at gC12
          have nob : ∀ i, i ∈ [h7.n + 1, h7.n] → i ∉ blk oa := fun i hi hm => I.sep i hm hi
          have l12 := k12.get (s11.get l10) (nob _ (by simp))
          have md12 := k12.get (s11.get md10) (nob _ (by simp))
          have ob12 : Own (h.n + 5) b12 := I.own.app (by omega) o12
          refine GoR.fieldAddr rfl rfl rfl rfl rfl ?_
          refine GoR.store (off := 0 + 14) (n := 1) (v := .slice b12 (ts.length + 1) c12) (l := [.slice b12 (ts.length + 1) c12]) rfl rfl rfl rfl rfl gC12 rfl rfl (show 15 ≤ 15 from Nat.le_refl _) rfl rfl (.inl (by simp)) ?_
          (refine Go.run (g:=?_))
          refine Go.roundEnd rfl (get_put_other (by omega) l12) ?_
          have sep12 : ∀ i ∈ blk b12, i ∉ [h7.n + 1, h7.n] := fun i hi hm => (o12 i hi).elim (fun x => I.sep i x hm) (fun x => by simp only [List.mem_cons, List.not_mem_nil, or_false] at hm; omega)
          have fin13 : KInv h tm ps asg bo (h7.n + 1) h7.n k f false (ts ++ [⟨t.k, t.a, t.cap, t.z⟩], b12, c12) ((h12.put (h.n + 2) (some (.cells (⟨k, f, 0, 0, 0, 0, 0, 0, 0, 0, ⟨none, 0, 0⟩, ⟨none, 0, 0⟩, ⟨none, 0, 0⟩, ⟨none, 0, 0⟩, ⟨b12, ts.length + 1, c12⟩⟩ : Ck).cs 57))).put (h7.n + 1) (some (.loop .ready none tm ps asg bo h7.n))) := by
            have kq : Keeps [h7.n + 1] (h12.put (h.n + 2) (some (.cells (⟨k, f, 0, 0, 0, 0, 0, 0, 0, 0, ⟨none, 0, 0⟩, ⟨none, 0, 0⟩, ⟨none, 0, 0⟩, ⟨none, 0, 0⟩, ⟨b12, ts.length + 1, c12⟩⟩ : Ck).cs 57))) _ := (Keeps.rfl _ _).put (List.mem_singleton.2 rfl) (some (.loop .ready none tm ps asg bo h7.n))
            have rq : ∀ {a : Option Addr} {n c : Nat} {cs : List Value} {sz : Nat}, Own (h.n + 5) a → (∀ i ∈ blk a, i ∉ [h7.n + 1, h7.n]) → Rv Try.prog h12 sz a n c cs → Rv Try.prog _ sz a n c cs := fun o q r => (r.put (fun hm => by have := o _ hm; omega) _).keeps kq (fun i hi hm => by simp only [List.mem_singleton] at hm; exact q i hi (by simp [hm]))
            refine ⟨AHeap.get_put_same _ (by simp only [AHeap.n_put]; omega) _, get_put_other (by omega) (get_put_other (by omega) md12), ?_, ?_, ob12, sep12, fun x hx => ?_⟩
            · have := (T12.put (⟨k, f, 0, 0, 0, 0, 0, 0, 0, 0, ⟨none, 0, 0⟩, ⟨none, 0, 0⟩, ⟨none, 0, 0⟩, ⟨none, 0, 0⟩, ⟨b12, ts.length + 1, c12⟩⟩ : Ck)).kp kq (fun i hi => by simp only [List.mem_singleton] at hi; omega)
              simpa only [List.length_append, List.length_cons, List.length_nil] using this
            · have := (hs12.put (fun hm => by have := ob12 _ hm; omega) (some (.cells (⟨k, f, 0, 0, 0, 0, 0, 0, 0, 0, ⟨none, 0, 0⟩, ⟨none, 0, 0⟩, ⟨none, 0, 0⟩, ⟨none, 0, 0⟩, ⟨b12, ts.length + 1, c12⟩⟩ : Ck).cs 57))).keeps kq (fun i hi hm => by simp only [List.mem_singleton] at hm; exact sep12 i hi (by simp [hm]))
              simp only [List.length_append, List.length_cons, List.length_nil]
              rw [show ccs (ts ++ [⟨t.k, t.a, t.cap, t.z⟩]) = ccs ts ++ [.int .u16 t.k, .slice t.a t.z.length t.cap] from by simp [ccs, cvC]]
              exact this
            · rcases List.mem_append.1 hx with hx | hx
              · obtain ⟨q1, q2, -, q4, q5, q6⟩ := I.cb x hx
                exact ⟨q1, q2, rq q4 q5 (((r10 q4 (cb9 x hx)).same s11).keeps k12 q6), q4, q5, fun i hi hm => (o12 i hm).elim (q6 i hi) (fun y => by have := ((r10 q4 (cb9 x hx)).same s11).lt i hi; omega)⟩
              · simp only [List.mem_singleton] at hx
                subst hx
                exact ⟨tb.1, by have := tb.2; show t.z.length ≤ _; omega, rq (fun i hi => by have := hto i hi; omega) (fun i hi hm => hnw i hi (by simp only [List.mem_cons, List.mem_append, List.not_mem_nil, or_false] at hm ⊢; omega)) (((r10 (fun i hi => by have := hto i hi; omega) ok9).same s11).keeps k12 (fun i hi hm => hnw i hi (by simp [hm]))), fun i hi => by have := hto i hi; omega, fun i hi hm => hnw i hi (by simp only [List.mem_cons, List.mem_append, List.not_mem_nil, or_false] at hm ⊢; omega), fun i hi hm => (o12 i hm).elim (fun y => hnw i hi (by simp [y])) (fun y => by have := hok.lt i hi; omega)⟩
          refine ⟨(ts ++ [⟨t.k, t.a, t.cap, t.z⟩], b12, c12), fun b hb => ?_, fun _ => ⟨fin13, ?_, by simp [x2], by simp; omega⟩, fun e => by cases e⟩
          · rcases List.mem_append.1 hb with x | x
            · exact .inl (List.mem_append_left _ x)
            · rcases o12 b x with y | y
              · exact .inl (List.mem_append_right _ y)
              · exact .inr (by omega)
          · rw [List.map_append, x1, List.take_add_one, hit, List.map_append]; rfl
        · rintro ⟨ts, oa, oc⟩ H hbad ⟨I, x1, x2, x3⟩
          simp only at I x1 x2 ⊢
          refine YieldS.of' I.loop hN hr eps easg ebo rfl (by rfl) rfl (List.mem_cons_self ..) ?_
          (refine Go.run (g:=?_))
          refine Go.name ?_
          intro h8 e8
          have s8 : Same H h8 := by subst e8; exact ((Same.refl H).push _).put (Nat.le_refl _) _
          have n8 : h8.n = H.n + 1 := by subst e8; rfl
          have g8 : h8.get H.n = some (.cells [.int .u16 (0 : Nat), .int .u8 (0 : Nat), .slice none 0 0] 25) := by subst e8; exact AHeap.get_put_same _ (by simp) _
          clear e8
          refine Go.body (s8.get I.loop) ?_
          refine Go.name ?_
          intro h9 e9
          have k9 : Keeps [h7.n + 1] h8 h9 := by subst e9; exact (Keeps.rfl _ _).put (by simp) _
          have n9 : h9.n = h8.n := by subst e9; rfl
          have l9 : h9.get (h7.n + 1) = some (.loop .busy none tm ps asg bo h7.n) := by subst e9; exact get_put_self (s8.get I.loop)
          clear e9
          have T9 := (I.T.to s8).kp k9 (fun i hi => by simp only [List.mem_singleton] at hi; omega)
          have gC9 := T9.chk
          unfold Ck.cs at gC9
          try dsimp only at gC9
          have gP9 := T9.ptr
          have gr9 := T9.rd.g
          have m9 := T9.n
          have gt9 := k9.get g8 (by simp; omega)
          have md9 := k9.get (s8.get I.mark) (by simp)
          have sv9 := (I.sv.same s8).keeps k9 (fun i hi hm => by simp only [List.mem_singleton] at hm; exact I.sep i hi (by simp [hm]))
          have cb9 : ∀ x ∈ ts, Rv Try.prog h9 1 x.a x.z.length x.cap (x.z.map bv) := fun x hx => ((I.cb x hx).2.2.1.same s8).keeps k9 (fun i hi hm => by simp only [List.mem_singleton] at hm; exact (I.cb x hx).2.2.2.2.1 i hi (by simp [hm]))
          skip
          have htl : ts.length ≤ zs.length := by omega
          (refine Go.run (g:=?_))
          refine Go.loud (by kernel_rfl) rfl ?_
          (refine Go.runL (g:=?_))
          refine GoL.store' rfl rfl rfl rfl rfl (hl:=rfl) (h1:=rfl) (h3:=rfl) (g:=?_)
          refine GoL.end_ (hl := by (simp only [List.nil_append, List.cons_append]); repeat (first | exact loudP.nil | refine loudP.none ?_ | refine loudP.new (fun _ hb => absurd hb List.not_mem_nil) ?_ | refine loudP.row (by repeat (first | exact loudRowP.nil | refine loudRowP.none ?_ | refine loudRowP.bef (by decide +kernel) ?_ | refine loudRowP.apart (by first | exact .inl rfl | exact .inr (by simp)) rfl (by intro i hi; simp only [List.mem_singleton] at hi; subst hi; simp; omega) ?_)) ?_)) ?_
          (refine Go.run (g:=?_))
          refine GoR.name ?_
          intro h10 e10
          have T10 : TSt h h10 (⟨k, f, 0, 0, 0, 0, 0, 0, 0, 0, ⟨none, 0, 0⟩, ⟨none, 0, 0⟩, ⟨none, 0, 0⟩, ⟨none, 0, 0⟩, ⟨oa, ts.length, oc⟩⟩ : Ck) none 0 [] true := by
            subst e10
            exact T9.putB true
          have p10 : ∀ {i : Nat} {o : AObj}, i ≠ h.n + 3 → h9.get i = some o → h10.get i = some o := fun hi e => by subst e10; exact get_put_other (fun x => hi x.symm) e
          have r10 : ∀ {a : Option Addr} {n c : Nat} {cs : List Value} {sz : Nat}, Own (h.n + 5) a → Rv Try.prog h9 sz a n c cs → Rv Try.prog h10 sz a n c cs := fun o r => by subst e10; exact r.put (fun hm => by have := o _ hm; omega) _
          have sv10 := sv9.put_eq e10 (fun hm => by have := I.own _ hm; omega)
          have n10 : h10.n = h9.n := by subst e10; rfl
          clear e10
          have gC10 := T10.chk
          unfold Ck.cs at gC10
          try dsimp only at gC10
          have l10 := p10 (by omega) l9
          have md10 := p10 (by omega) md9
          refine GoR.buildRo (c := [.int .u16 (0 : Nat), .slice none 0 0]) rfl rfl rfl rfl rfl (by decide) (by rfl) (by rfl) ?_
          intro b11 h11 hb11 rb11 ob11 s11 n11
          have T11 := T10.to s11
          refine GoR.appendV rfl rfl rfl rfl rfl rfl (sv10.same s11) hb11 (fun i hi => .inl (by simp [hi])) (by omega) (by omega) (by rfl) ?_
          intro b12 c12 h12 hs12 k12 o12
          have m12 := k12.1
          have T12 := T11.app k12 I.own
          have gC12 := T12.chk
          unfold Ck.cs at gC12
          try dsimp only at gC12
          have nob : ∀ i, i ∈ [h7.n + 1, h7.n] → i ∉ blk oa := fun i hi hm => I.sep i hm hi
          have l12 := k12.get (s11.get l10) (nob _ (by simp))
          have md12 := k12.get (s11.get md10) (nob _ (by simp))
          have ob12 : Own (h.n + 5) b12 := I.own.app (by omega) o12
          refine GoR.fieldAddr rfl rfl rfl rfl rfl ?_
          refine GoR.store (off := 0 + 14) (n := 1) (v := .slice b12 (ts.length + 1) c12) (l := [.slice b12 (ts.length + 1) c12]) rfl rfl rfl rfl rfl gC12 rfl rfl (show 15 ≤ 15 from Nat.le_refl _) rfl rfl (.inl (by simp)) ?_
          (refine Go.run (g:=?_))
          refine Go.roundEnd rfl (get_put_other (by omega) l12) ?_
          have sep12 : ∀ i ∈ blk b12, i ∉ [h7.n + 1, h7.n] := fun i hi hm => (o12 i hi).elim (fun x => I.sep i x hm) (fun x => by simp only [List.mem_cons, List.not_mem_nil, or_false] at hm; omega)
          have fin13 : KInv h tm ps asg bo (h7.n + 1) h7.n k f true (ts ++ [⟨0, none, 0, []⟩], b12, c12) ((h12.put (h.n + 2) (some (.cells (⟨k, f, 0, 0, 0, 0, 0, 0, 0, 0, ⟨none, 0, 0⟩, ⟨none, 0, 0⟩, ⟨none, 0, 0⟩, ⟨none, 0, 0⟩, ⟨b12, ts.length + 1, c12⟩⟩ : Ck).cs 57))).put (h7.n + 1) (some (.loop .ready none tm ps asg bo h7.n))) := by
            have kq : Keeps [h7.n + 1] (h12.put (h.n + 2) (some (.cells (⟨k, f, 0, 0, 0, 0, 0, 0, 0, 0, ⟨none, 0, 0⟩, ⟨none, 0, 0⟩, ⟨none, 0, 0⟩, ⟨none, 0, 0⟩, ⟨b12, ts.length + 1, c12⟩⟩ : Ck).cs 57))) _ := (Keeps.rfl _ _).put (List.mem_singleton.2 rfl) (some (.loop .ready none tm ps asg bo h7.n))
            have rq : ∀ {a : Option Addr} {n c : Nat} {cs : List Value} {sz : Nat}, Own (h.n + 5) a → (∀ i ∈ blk a, i ∉ [h7.n + 1, h7.n]) → Rv Try.prog h12 sz a n c cs → Rv Try.prog _ sz a n c cs := fun o q r => (r.put (fun hm => by have := o _ hm; omega) _).keeps kq (fun i hi hm => by simp only [List.mem_singleton] at hm; exact q i hi (by simp [hm]))
            refine ⟨AHeap.get_put_same _ (by simp only [AHeap.n_put]; omega) _, get_put_other (by omega) (get_put_other (by omega) md12), ?_, ?_, ob12, sep12, fun x hx => ?_⟩
            · have := (T12.put (⟨k, f, 0, 0, 0, 0, 0, 0, 0, 0, ⟨none, 0, 0⟩, ⟨none, 0, 0⟩, ⟨none, 0, 0⟩, ⟨none, 0, 0⟩, ⟨b12, ts.length + 1, c12⟩⟩ : Ck)).kp kq (fun i hi => by simp only [List.mem_singleton] at hi; omega)
              simpa only [List.length_append, List.length_cons, List.length_nil] using this
            · have := (hs12.put (fun hm => by have := ob12 _ hm; omega) (some (.cells (⟨k, f, 0, 0, 0, 0, 0, 0, 0, 0, ⟨none, 0, 0⟩, ⟨none, 0, 0⟩, ⟨none, 0, 0⟩, ⟨none, 0, 0⟩, ⟨b12, ts.length + 1, c12⟩⟩ : Ck).cs 57))).keeps kq (fun i hi hm => by simp only [List.mem_singleton] at hm; exact sep12 i hi (by simp [hm]))
              simp only [List.length_append, List.length_cons, List.length_nil]
              rw [show ccs (ts ++ [⟨0, none, 0, []⟩]) = ccs ts ++ [.int .u16 (0 : Nat), .slice none 0 0] from by simp [ccs, cvC]]
              exact this
            · rcases List.mem_append.1 hx with hx | hx
              · obtain ⟨q1, q2, -, q4, q5, q6⟩ := I.cb x hx
                exact ⟨q1, q2, rq q4 q5 (((r10 q4 (cb9 x hx)).same s11).keeps k12 q6), q4, q5, fun i hi hm => (o12 i hm).elim (q6 i hi) (fun y => by have := ((r10 q4 (cb9 x hx)).same s11).lt i hi; omega)⟩
              · simp only [List.mem_singleton] at hx
                subst hx
                exact ⟨by show 0 < 65536; decide, by show 0 ≤ _; omega, Rv.nil, Own.nil _, fun i hi => by simp [blk] at hi, fun i hi => by simp [blk] at hi⟩
          exact ⟨(ts ++ [⟨0, none, 0, []⟩], b12, c12), by simpa using hbad, fin13⟩
      intro v H3 hres kp
      refine ⟨fun i hi => .inr (by simp only [List.mem_cons, List.mem_append, List.not_mem_nil, or_false, blk] at hi; omega), .inr (by omega), ?_⟩
      have two : ∀ (bad : Bool) (ts : List CV) (oa : Option Addr) (oc : Nat), KInv h tm ps asg bo (h7.n + 1) h7.n k f bad (ts, oa, oc) H3 → ∀ H4, Keeps [h7.n + 1] H3 H4 → COk H4 (⟨k, f, 0, 0, 0, 0, 0, 0, 0, 0, ⟨none, 0, 0⟩, ⟨none, 0, 0⟩, ⟨none, 0, 0⟩, ⟨none, 0, 0⟩, ⟨oa, ts.length, oc⟩⟩ : Ck) ⟨[], [], [], [], ts⟩ ∧ TSt h H4 (⟨k, f, 0, 0, 0, 0, 0, 0, 0, 0, ⟨none, 0, 0⟩, ⟨none, 0, 0⟩, ⟨none, 0, 0⟩, ⟨none, 0, 0⟩, ⟨oa, ts.length, oc⟩⟩ : Ck) none 0 [] bad ∧ CApart (h.n + 5) (⟨k, f, 0, 0, 0, 0, 0, 0, 0, 0, ⟨none, 0, 0⟩, ⟨none, 0, 0⟩, ⟨none, 0, 0⟩, ⟨none, 0, 0⟩, ⟨oa, ts.length, oc⟩⟩ : Ck) ⟨[], [], [], [], ts⟩ ∧ DfOk (h.n + 5) H4 (⟨k, f, 0, 0, 0, 0, 0, 0, 0, 0, ⟨none, 0, 0⟩, ⟨none, 0, 0⟩, ⟨none, 0, 0⟩, ⟨none, 0, 0⟩, ⟨oa, ts.length, oc⟩⟩ : Ck) ⟨[], [], [], [], ts⟩ [h7.n] := fun bad ts oa oc I H4 k4 => by
        have e1 : ∀ {a : Option Addr}, (∀ i ∈ blk a, i ∉ [h7.n + 1, h7.n]) → ∀ i ∈ blk a, i ∉ [h7.n + 1] := fun q i hi hm => q i hi (by simp only [List.mem_singleton] at hm; simp [hm])
        refine ⟨{ COk.base H4 k f hk8 hf with cl := rfl, cv := (I.sv.keeps k4 (e1 I.sep)).rv, cb := fun x hx => ⟨(I.cb x hx).1, (I.cb x hx).2.1, (I.cb x hx).2.2.1.keeps k4 (e1 (I.cb x hx).2.2.2.2.1)⟩ }, I.T.kp k4 (fun i hi => by simp only [List.mem_singleton] at hi; omega), ⟨Own.nil _, Own.nil _, Own.nil _, Own.nil _, I.own, fun x hx => (I.cb x hx).2.2.2.1⟩, .inr ⟨h7.n, rfl, k4.get I.mark (by simp), by omega, by simp [blk], by simp [blk], by simp [blk], by simp [blk], fun hm => I.sep _ hm (by simp), fun x hx hm => (I.cb x hx).2.2.2.2.1 _ hm (by simp)⟩⟩
      rcases hres with ⟨⟨ts, oa, oc⟩, hwell, I, x1, x2, x3⟩ | ⟨⟨ts, oa, oc⟩, i, hill, I⟩
      all_goals
        refine ⟨_, _, _, _, _, _, _, .normal, I.loop, by rfl, rfl, ?_⟩
        refine Go.name ?_
        intro h9 e9
        have k9 : Keeps [h7.n + 1] H3 h9 := by subst e9; exact (Keeps.rfl _ _).put (by simp) _
        clear e9
        obtain ⟨okF, TF, apF, dfF⟩ := two _ _ _ _ I h9 k9
        (refine Go.run (g:=?_))
        refine Go.joined (h9, _, _, none, 0, [], _, [h7.n]) ⟨TF, okF, apF, dfF, ?_⟩ ⟨rfl, rfl, rfl, trivial⟩ rfl rfl
      · rw [List.take_length] at x1
        simp only
        rw [finR_good okF]
        subst hk0
        simp only [rawP, if_pos hwell, pcOf, x1]
        rfl
      · simp only
        rw [finR_bad]
        subst hk0
        simp [rawP, hill]
    · (refine Go.run (g:=?_))
      refine GoR.callW rfl rfl rfl rfl rfl rfl rfl (((rrest_spec _ _ _ _ _ _ T5.rd hl).args (by first | rfl | (simp; fail_if_success focus skip) | (simp; omega) | (congr 2; omega))).mono ?_)
      rintro _ h6 ⟨br, cr, rfl, vr, orr, rr⟩ kr
      refine ⟨fun i hi => .inr (by simp at hi; omega), ?_⟩
      have T6 := T5.call kr rr (fun i hi => by simp [blk] at hi)
      have m6 := T6.n
      (refine Go.run (g:=?_))
      refine GoR.call rfl rfl rfl rfl rfl rfl rfl (((allCall_spec false br zs.length cr _).args (by first | rfl | (simp; fail_if_success focus skip) | (simp; omega) | (congr 2; omega))).mono ?_)
      rintro _ _ ⟨rfl, rfl⟩ -
      (refine Go.run (g:=?_))
      refine Go.name ?_
      intro h7 e7
      have s7 : Same h6 h7 := by subst e7; exact ((Same.refl h6).push _).push _
      have n7 : h7.n = h6.n + 2 := by subst e7; rfl
      have gcb : h7.get h6.n = some (.cells [.bool false] 4) := by subst e7; exact get_push_lt (AHeap.get_push_same _ _)
      have gbb : h7.get (h6.n + 1) = some (.cells [.slice br zs.length cr] 23) := by subst e7; exact AHeap.get_push_same (h6.push _) _
      clear e7
      have T7 := T6.to s7
      have vr7 := vr.same s7
      refine Go.rangeFunc' (wr := [h7.n + 1, h.n + 2, h.n + 3, h7.n]) rfl (by rfl) (by kernel_rfl) ?_
      intro tm ps asg bo HH eps easg ebo eH hN hr
      have Hs : Same h7 HH := by subst eH; exact ((Same.refl h7).push _).push _
      have Hl : HH.get (h7.n + 1) = some (.loop .ready none tm ps asg bo h7.n) := by subst eH; exact AHeap.get_push_same (h7.push _) _
      have Hd : HH.get h7.n = some (.deferred true) := by subst eH; exact get_push_lt (AHeap.get_push_same _ _)
      have Hn : HH.n = h7.n + 2 := by subst eH; rfl
      clear eH
      have TH := T7.to Hs
      have vrH := vr7.same Hs
      have hpl := parse_len (chunk := false) zs
      have hob : ∀ i ∈ blk br, h5.n ≤ i ∧ i < h6.n := fun i hi => ⟨orr i hi, vr.lt i hi⟩
      refine ((all1_spec (l := h7.n + 1) (σ := List CV × Option Addr × Nat) (wrO := fun s => [h.n + 2, h.n + 3, h7.n] ++ blk s.2.1) (inv := fun s i H => KInv h tm ps asg bo (h7.n + 1) h7.n k f false s H ∧ s.1.map (fun x => (x.k, x.z)) = ((parse false zs).1.take i).map (fun x => (x.1, x.2.2)) ∧ s.1.length = i ∧ h7.n + 2 ≤ H.n) (stop := fun s i H => (parse false zs).2 = false ∧ KInv h tm ps asg bo (h7.n + 1) h7.n k f true s H) false (h6.n + 1) h6.n br zs.length cr zs rfl (by omega) _ ([], none, 0) ?Y ?i0 (Hs.get gbb) (Hs.get gcb) vrH.rv ?p1 ?p2 ?p3).args rfl).mono ?_
      case p1 => simp [blk]; omega
      case p2 => simp [blk]; omega
      case p3 => intro i hi; have := hob i hi; simp [blk]; omega
      case i0 => exact ⟨⟨Hl, Hd, TH, .nil, Own.nil _, fun i hi => by simp [blk] at hi, fun x hx => by cases hx⟩, by simp, rfl, by omega⟩
      case Y =>
        refine ⟨?_, ?_, ?_, ?_⟩
        · rintro s i H H' ⟨I, x1, x2, x3⟩ sm
          exact ⟨I.to sm, x1, x2, Nat.le_trans x3 sm.1⟩
        · rintro s i H ⟨I, x1, x2, x3⟩ b hb
          have mI := I.T.n
          simp only [List.mem_cons, List.mem_append, List.not_mem_nil, or_false] at hb
          rcases hb with rfl | (rfl | rfl | rfl) | hb
          · omega
          · omega
          · omega
          · omega
          · exact I.sv.lt _ hb
        · rintro ⟨ts, oa, oc⟩ i H t ⟨I, x1, x2, x3⟩ hit hok hnw hto
          simp only at I x1 x2 hnw ⊢
          have tb := parse_bd (chunk := false) zs t.thing (List.mem_of_getElem? hit)
          simp only [TV.thing] at tb
          refine YieldS.of' I.loop hN hr eps easg ebo rfl (by rfl) rfl (List.mem_cons_self ..) ?_
          (refine Go.run (g:=?_))
          refine Go.name ?_
          intro h8 e8
          have s8 : Same H h8 := by subst e8; exact ((Same.refl H).push _).put (Nat.le_refl _) _
          have n8 : h8.n = H.n + 1 := by subst e8; rfl
          have g8 : h8.get H.n = some (.cells t.cells 25) := by subst e8; exact AHeap.get_put_same _ (by simp) _
          clear e8
          refine Go.body (s8.get I.loop) ?_
          refine Go.name ?_
          intro h9 e9
          have k9 : Keeps [h7.n + 1] h8 h9 := by subst e9; exact (Keeps.rfl _ _).put (by simp) _
          have n9 : h9.n = h8.n := by subst e9; rfl
          have l9 : h9.get (h7.n + 1) = some (.loop .busy none tm ps asg bo h7.n) := by subst e9; exact get_put_self (s8.get I.loop)
          clear e9
          have T9 := (I.T.to s8).kp k9 (fun i hi => by simp only [List.mem_singleton] at hi; omega)
          have gC9 := T9.chk
          unfold Ck.cs at gC9
          try dsimp only at gC9
          have gP9 := T9.ptr
          have gr9 := T9.rd.g
          have m9 := T9.n
          have gt9 := k9.get g8 (by simp; omega)
          have md9 := k9.get (s8.get I.mark) (by simp)
          have sv9 := (I.sv.same s8).keeps k9 (fun i hi hm => by simp only [List.mem_singleton] at hm; exact I.sep i hi (by simp [hm]))
          have cb9 : ∀ x ∈ ts, Rv Try.prog h9 1 x.a x.z.length x.cap (x.z.map bv) := fun x hx => ((I.cb x hx).2.2.1.same s8).keeps k9 (fun i hi hm => by simp only [List.mem_singleton] at hm; exact (I.cb x hx).2.2.2.2.1 i hi (by simp [hm]))
          have ok9 : t.ok h9 := Rv.keeps (Rv.same hok s8) k9 (fun i hi hm => by simp only [List.mem_singleton] at hm; exact hnw _ hi (by simp [hm]))
          have htl : ts.length ≤ zs.length := by have := (List.getElem?_eq_some_iff.1 hit).1; omega
          (refine Go.run (g:=?_))
          refine Go.loud (by kernel_rfl) rfl ?_
          (refine Go.runL (g:=?_))
          refine GoL.store' rfl rfl rfl rfl rfl (hl:=rfl) (h1:=rfl) (h3:=rfl) (g:=?_)
          refine GoL.end_ (hl := by (simp only [List.nil_append, List.cons_append]); repeat (first | exact loudP.nil | refine loudP.none ?_ | refine loudP.new (fun _ hb => absurd hb List.not_mem_nil) ?_ | refine loudP.row (by repeat (first | exact loudRowP.nil | refine loudRowP.none ?_ | refine loudRowP.bef (by decide +kernel) ?_ | refine loudRowP.apart (by first | exact .inl rfl | exact .inr (by simp)) rfl (by intro i hi; simp only [List.mem_singleton] at hi; subst hi; simp; omega) ?_)) ?_)) ?_
          (refine Go.run (g:=?_))
          refine GoR.name ?_
          intro h10 e10
          have T10 : TSt h h10 (⟨k, f, 0, 0, 0, 0, 0, 0, 0, 0, ⟨none, 0, 0⟩, ⟨none, 0, 0⟩, ⟨none, 0, 0⟩, ⟨none, 0, 0⟩, ⟨oa, ts.length, oc⟩⟩ : Ck) none 0 [] false := by
            subst e10
            exact T9.putB false
          have p10 : ∀ {i : Nat} {o : AObj}, i ≠ h.n + 3 → h9.get i = some o → h10.get i = some o := fun hi e => by subst e10; exact get_put_other (fun x => hi x.symm) e
          have r10 : ∀ {a : Option Addr} {n c : Nat} {cs : List Value} {sz : Nat}, Own (h.n + 5) a → Rv Try.prog h9 sz a n c cs → Rv Try.prog h10 sz a n c cs := fun o r => by subst e10; exact r.put (fun hm => by have := o _ hm; omega) _
          have sv10 := sv9.put_eq e10 (fun hm => by have := I.own _ hm; omega)
          have n10 : h10.n = h9.n := by subst e10; rfl
          clear e10
          have gC10 := T10.chk
          unfold Ck.cs at gC10
          try dsimp only at gC10
          have l10 := p10 (by omega) l9
          have md10 := p10 (by omega) md9
          refine GoR.buildRo (c := [.int .u16 t.k, .slice t.a t.z.length t.cap]) rfl rfl rfl rfl rfl (by decide) (by rfl) (by rfl) ?_
          intro b11 h11 hb11 rb11 ob11 s11 n11
          have T11 := T10.to s11
          refine GoR.appendV rfl rfl rfl rfl rfl rfl (sv10.same s11) hb11 (fun i hi => .inl (by simp [hi])) (by omega) (by omega) (by rfl) ?_
          intro b12 c12 h12 hs12 k12 o12
          have m12 := k12.1
          have T12 := T11.app k12 I.own
          have gC12 := T12.chk
          unfold Ck.cs at gC12
          try dsimp only at gC12
          have nob : ∀ i, i ∈ [h7.n + 1, h7.n] → i ∉ blk oa := fun i hi hm => I.sep i hm hi
          have l12 := k12.get (s11.get l10) (nob _ (by simp))
          have md12 := k12.get (s11.get md10) (nob _ (by simp))
          have ob12 : Own (h.n + 5) b12 := I.own.app (by omega) o12
          refine GoR.fieldAddr rfl rfl rfl rfl rfl ?_
          refine GoR.store (off := 0 + 14) (n := 1) (v := .slice b12 (ts.length + 1) c12) (l := [.slice b12 (ts.length + 1) c12]) rfl rfl rfl rfl rfl gC12 rfl rfl (show 15 ≤ 15 from Nat.le_refl _) rfl rfl (.inl (by simp)) ?_
          (refine Go.run (g:=?_))
          refine Go.roundEnd rfl (get_put_other (by omega) l12) ?_
          have sep12 : ∀ i ∈ blk b12, i ∉ [h7.n + 1, h7.n] := fun i hi hm => (o12 i hi).elim (fun x => I.sep i x hm) (fun x => by simp only [List.mem_cons, List.not_mem_nil, or_false] at hm; omega)
          have fin13 : KInv h tm ps asg bo (h7.n + 1) h7.n k f false (ts ++ [⟨t.k, t.a, t.cap, t.z⟩], b12, c12) ((h12.put (h.n + 2) (some (.cells (⟨k, f, 0, 0, 0, 0, 0, 0, 0, 0, ⟨none, 0, 0⟩, ⟨none, 0, 0⟩, ⟨none, 0, 0⟩, ⟨none, 0, 0⟩, ⟨b12, ts.length + 1, c12⟩⟩ : Ck).cs 57))).put (h7.n + 1) (some (.loop .ready none tm ps asg bo h7.n))) := by
            have kq : Keeps [h7.n + 1] (h12.put (h.n + 2) (some (.cells (⟨k, f, 0, 0, 0, 0, 0, 0, 0, 0, ⟨none, 0, 0⟩, ⟨none, 0, 0⟩, ⟨none, 0, 0⟩, ⟨none, 0, 0⟩, ⟨b12, ts.length + 1, c12⟩⟩ : Ck).cs 57))) _ := (Keeps.rfl _ _).put (List.mem_singleton.2 rfl) (some (.loop .ready none tm ps asg bo h7.n))
            have rq : ∀ {a : Option Addr} {n c : Nat} {cs : List Value} {sz : Nat}, Own (h.n + 5) a → (∀ i ∈ blk a, i ∉ [h7.n + 1, h7.n]) → Rv Try.prog h12 sz a n c cs → Rv Try.prog _ sz a n c cs := fun o q r => (r.put (fun hm => by have := o _ hm; omega) _).keeps kq (fun i hi hm => by simp only [List.mem_singleton] at hm; exact q i hi (by simp [hm]))
            refine ⟨AHeap.get_put_same _ (by simp only [AHeap.n_put]; omega) _, get_put_other (by omega) (get_put_other (by omega) md12), ?_, ?_, ob12, sep12, fun x hx => ?_⟩
            · have := (T12.put (⟨k, f, 0, 0, 0, 0, 0, 0, 0, 0, ⟨none, 0, 0⟩, ⟨none, 0, 0⟩, ⟨none, 0, 0⟩, ⟨none, 0, 0⟩, ⟨b12, ts.length + 1, c12⟩⟩ : Ck)).kp kq (fun i hi => by simp only [List.mem_singleton] at hi; omega)
              simpa only [List.length_append, List.length_cons, List.length_nil] using this
            · have := (hs12.put (fun hm => by have := ob12 _ hm; omega) (some (.cells (⟨k, f, 0, 0, 0, 0, 0, 0, 0, 0, ⟨none, 0, 0⟩, ⟨none, 0, 0⟩, ⟨none, 0, 0⟩, ⟨none, 0, 0⟩, ⟨b12, ts.length + 1, c12⟩⟩ : Ck).cs 57))).keeps kq (fun i hi hm => by simp only [List.mem_singleton] at hm; exact sep12 i hi (by simp [hm]))
              simp only [List.length_append, List.length_cons, List.length_nil]
              rw [show ccs (ts ++ [⟨t.k, t.a, t.cap, t.z⟩]) = ccs ts ++ [.int .u16 t.k, .slice t.a t.z.length t.cap] from by simp [ccs, cvC]]
              exact this
            · rcases List.mem_append.1 hx with hx | hx
              · obtain ⟨q1, q2, -, q4, q5, q6⟩ := I.cb x hx
                exact ⟨q1, q2, rq q4 q5 (((r10 q4 (cb9 x hx)).same s11).keeps k12 q6), q4, q5, fun i hi hm => (o12 i hm).elim (q6 i hi) (fun y => by have := ((r10 q4 (cb9 x hx)).same s11).lt i hi; omega)⟩
              · simp only [List.mem_singleton] at hx
                subst hx
                exact ⟨tb.1, by have := tb.2; show t.z.length ≤ _; omega, rq (fun i hi => by have := hto i hi; omega) (fun i hi hm => hnw i hi (by simp only [List.mem_cons, List.mem_append, List.not_mem_nil, or_false] at hm ⊢; omega)) (((r10 (fun i hi => by have := hto i hi; omega) ok9).same s11).keeps k12 (fun i hi hm => hnw i hi (by simp [hm]))), fun i hi => by have := hto i hi; omega, fun i hi hm => hnw i hi (by simp only [List.mem_cons, List.mem_append, List.not_mem_nil, or_false] at hm ⊢; omega), fun i hi hm => (o12 i hm).elim (fun y => hnw i hi (by simp [y])) (fun y => by have := hok.lt i hi; omega)⟩
          refine ⟨(ts ++ [⟨t.k, t.a, t.cap, t.z⟩], b12, c12), fun b hb => ?_, fun _ => ⟨fin13, ?_, by simp [x2], by simp; omega⟩, fun e => by cases e⟩
          · rcases List.mem_append.1 hb with x | x
            · exact .inl (List.mem_append_left _ x)
            · rcases o12 b x with y | y
              · exact .inl (List.mem_append_right _ y)
              · exact .inr (by omega)
          · rw [List.map_append, x1, List.take_add_one, hit, List.map_append]; rfl
        · rintro ⟨ts, oa, oc⟩ H hbad ⟨I, x1, x2, x3⟩
          simp only at I x1 x2 ⊢
          refine YieldS.of' I.loop hN hr eps easg ebo rfl (by rfl) rfl (List.mem_cons_self ..) ?_
          (refine Go.run (g:=?_))
          refine Go.name ?_
          intro h8 e8
          have s8 : Same H h8 := by subst e8; exact ((Same.refl H).push _).put (Nat.le_refl _) _
          have n8 : h8.n = H.n + 1 := by subst e8; rfl
          have g8 : h8.get H.n = some (.cells [.int .u16 (0 : Nat), .int .u8 (0 : Nat), .slice none 0 0] 25) := by subst e8; exact AHeap.get_put_same _ (by simp) _
          clear e8
          refine Go.body (s8.get I.loop) ?_
          refine Go.name ?_
          intro h9 e9
          have k9 : Keeps [h7.n + 1] h8 h9 := by subst e9; exact (Keeps.rfl _ _).put (by simp) _
          have n9 : h9.n = h8.n := by subst e9; rfl
          have l9 : h9.get (h7.n + 1) = some (.loop .busy none tm ps asg bo h7.n) := by subst e9; exact get_put_self (s8.get I.loop)
          clear e9
          have T9 := (I.T.to s8).kp k9 (fun i hi => by simp only [List.mem_singleton] at hi; omega)
          have gC9 := T9.chk
          unfold Ck.cs at gC9
          try dsimp only at gC9
          have gP9 := T9.ptr
          have gr9 := T9.rd.g
          have m9 := T9.n
          have gt9 := k9.get g8 (by simp; omega)
          have md9 := k9.get (s8.get I.mark) (by simp)
          have sv9 := (I.sv.same s8).keeps k9 (fun i hi hm => by simp only [List.mem_singleton] at hm; exact I.sep i hi (by simp [hm]))
          have cb9 : ∀ x ∈ ts, Rv Try.prog h9 1 x.a x.z.length x.cap (x.z.map bv) := fun x hx => ((I.cb x hx).2.2.1.same s8).keeps k9 (fun i hi hm => by simp only [List.mem_singleton] at hm; exact (I.cb x hx).2.2.2.2.1 i hi (by simp [hm]))
          skip
          have htl : ts.length ≤ zs.length := by omega
          (refine Go.run (g:=?_))
          refine Go.loud (by kernel_rfl) rfl ?_
          (refine Go.runL (g:=?_))
          refine GoL.store' rfl rfl rfl rfl rfl (hl:=rfl) (h1:=rfl) (h3:=rfl) (g:=?_)
          refine GoL.end_ (hl := by (simp only [List.nil_append, List.cons_append]); repeat (first | exact loudP.nil | refine loudP.none ?_ | refine loudP.new (fun _ hb => absurd hb List.not_mem_nil) ?_ | refine loudP.row (by repeat (first | exact loudRowP.nil | refine loudRowP.none ?_ | refine loudRowP.bef (by decide +kernel) ?_ | refine loudRowP.apart (by first | exact .inl rfl | exact .inr (by simp)) rfl (by intro i hi; simp only [List.mem_singleton] at hi; subst hi; simp; omega) ?_)) ?_)) ?_
          (refine Go.run (g:=?_))
          refine GoR.name ?_
          intro h10 e10
          have T10 : TSt h h10 (⟨k, f, 0, 0, 0, 0, 0, 0, 0, 0, ⟨none, 0, 0⟩, ⟨none, 0, 0⟩, ⟨none, 0, 0⟩, ⟨none, 0, 0⟩, ⟨oa, ts.length, oc⟩⟩ : Ck) none 0 [] true := by
            subst e10
            exact T9.putB true
          have p10 : ∀ {i : Nat} {o : AObj}, i ≠ h.n + 3 → h9.get i = some o → h10.get i = some o := fun hi e => by subst e10; exact get_put_other (fun x => hi x.symm) e
          have r10 : ∀ {a : Option Addr} {n c : Nat} {cs : List Value} {sz : Nat}, Own (h.n + 5) a → Rv Try.prog h9 sz a n c cs → Rv Try.prog h10 sz a n c cs := fun o r => by subst e10; exact r.put (fun hm => by have := o _ hm; omega) _
          have sv10 := sv9.put_eq e10 (fun hm => by have := I.own _ hm; omega)
          have n10 : h10.n = h9.n := by subst e10; rfl
          clear e10
          have gC10 := T10.chk
          unfold Ck.cs at gC10
          try dsimp only at gC10
          have l10 := p10 (by omega) l9
          have md10 := p10 (by omega) md9
          refine GoR.buildRo (c := [.int .u16 (0 : Nat), .slice none 0 0]) rfl rfl rfl rfl rfl (by decide) (by rfl) (by rfl) ?_
          intro b11 h11 hb11 rb11 ob11 s11 n11
          have T11 := T10.to s11
          refine GoR.appendV rfl rfl rfl rfl rfl rfl (sv10.same s11) hb11 (fun i hi => .inl (by simp [hi])) (by omega) (by omega) (by rfl) ?_
          intro b12 c12 h12 hs12 k12 o12
          have m12 := k12.1
          have T12 := T11.app k12 I.own
          have gC12 := T12.chk
          unfold Ck.cs at gC12
          try dsimp only at gC12
          have nob : ∀ i, i ∈ [h7.n + 1, h7.n] → i ∉ blk oa := fun i hi hm => I.sep i hm hi
          have l12 := k12.get (s11.get l10) (nob _ (by simp))
          have md12 := k12.get (s11.get md10) (nob _ (by simp))
          have ob12 : Own (h.n + 5) b12 := I.own.app (by omega) o12
          refine GoR.fieldAddr rfl rfl rfl rfl rfl ?_
          refine GoR.store (off := 0 + 14) (n := 1) (v := .slice b12 (ts.length + 1) c12) (l := [.slice b12 (ts.length + 1) c12]) rfl rfl rfl rfl rfl gC12 rfl rfl (show 15 ≤ 15 from Nat.le_refl _) rfl rfl (.inl (by simp)) ?_
          (refine Go.run (g:=?_))
          refine Go.roundEnd rfl (get_put_other (by omega) l12) ?_
          have sep12 : ∀ i ∈ blk b12, i ∉ [h7.n + 1, h7.n] := fun i hi hm => (o12 i hi).elim (fun x => I.sep i x hm) (fun x => by simp only [List.mem_cons, List.not_mem_nil, or_false] at hm; omega)
          have fin13 : KInv h tm ps asg bo (h7.n + 1) h7.n k f true (ts ++ [⟨0, none, 0, []⟩], b12, c12) ((h12.put (h.n + 2) (some (.cells (⟨k, f, 0, 0, 0, 0, 0, 0, 0, 0, ⟨none, 0, 0⟩, ⟨none, 0, 0⟩, ⟨none, 0, 0⟩, ⟨none, 0, 0⟩, ⟨b12, ts.length + 1, c12⟩⟩ : Ck).cs 57))).put (h7.n + 1) (some (.loop .ready none tm ps asg bo h7.n))) := by
            have kq : Keeps [h7.n + 1] (h12.put (h.n + 2) (some (.cells (⟨k, f, 0, 0, 0, 0, 0, 0, 0, 0, ⟨none, 0, 0⟩, ⟨none, 0, 0⟩, ⟨none, 0, 0⟩, ⟨none, 0, 0⟩, ⟨b12, ts.length + 1, c12⟩⟩ : Ck).cs 57))) _ := (Keeps.rfl _ _).put (List.mem_singleton.2 rfl) (some (.loop .ready none tm ps asg bo h7.n))
            have rq : ∀ {a : Option Addr} {n c : Nat} {cs : List Value} {sz : Nat}, Own (h.n + 5) a → (∀ i ∈ blk a, i ∉ [h7.n + 1, h7.n]) → Rv Try.prog h12 sz a n c cs → Rv Try.prog _ sz a n c cs := fun o q r => (r.put (fun hm => by have := o _ hm; omega) _).keeps kq (fun i hi hm => by simp only [List.mem_singleton] at hm; exact q i hi (by simp [hm]))
            refine ⟨AHeap.get_put_same _ (by simp only [AHeap.n_put]; omega) _, get_put_other (by omega) (get_put_other (by omega) md12), ?_, ?_, ob12, sep12, fun x hx => ?_⟩
            · have := (T12.put (⟨k, f, 0, 0, 0, 0, 0, 0, 0, 0, ⟨none, 0, 0⟩, ⟨none, 0, 0⟩, ⟨none, 0, 0⟩, ⟨none, 0, 0⟩, ⟨b12, ts.length + 1, c12⟩⟩ : Ck)).kp kq (fun i hi => by simp only [List.mem_singleton] at hi; omega)
              simpa only [List.length_append, List.length_cons, List.length_nil] using this
            · have := (hs12.put (fun hm => by have := ob12 _ hm; omega) (some (.cells (⟨k, f, 0, 0, 0, 0, 0, 0, 0, 0, ⟨none, 0, 0⟩, ⟨none, 0, 0⟩, ⟨none, 0, 0⟩, ⟨none, 0, 0⟩, ⟨b12, ts.length + 1, c12⟩⟩ : Ck).cs 57))).keeps kq (fun i hi hm => by simp only [List.mem_singleton] at hm; exact sep12 i hi (by simp [hm]))
              simp only [List.length_append, List.length_cons, List.length_nil]
              rw [show ccs (ts ++ [⟨0, none, 0, []⟩]) = ccs ts ++ [.int .u16 (0 : Nat), .slice none 0 0] from by simp [ccs, cvC]]
              exact this
            · rcases List.mem_append.1 hx with hx | hx
              · obtain ⟨q1, q2, -, q4, q5, q6⟩ := I.cb x hx
                exact ⟨q1, q2, rq q4 q5 (((r10 q4 (cb9 x hx)).same s11).keeps k12 q6), q4, q5, fun i hi hm => (o12 i hm).elim (q6 i hi) (fun y => by have := ((r10 q4 (cb9 x hx)).same s11).lt i hi; omega)⟩
              · simp only [List.mem_singleton] at hx
                subst hx
                exact ⟨by show 0 < 65536; decide, by show 0 ≤ _; omega, Rv.nil, Own.nil _, fun i hi => by simp [blk] at hi, fun i hi => by simp [blk] at hi⟩
          exact ⟨(ts ++ [⟨0, none, 0, []⟩], b12, c12), by simpa using hbad, fin13⟩
      intro v H3 hres kp
      refine ⟨fun i hi => .inr (by simp only [List.mem_cons, List.mem_append, List.not_mem_nil, or_false, blk] at hi; omega), .inr (by omega), ?_⟩
      have two : ∀ (bad : Bool) (ts : List CV) (oa : Option Addr) (oc : Nat), KInv h tm ps asg bo (h7.n + 1) h7.n k f bad (ts, oa, oc) H3 → ∀ H4, Keeps [h7.n + 1] H3 H4 → COk H4 (⟨k, f, 0, 0, 0, 0, 0, 0, 0, 0, ⟨none, 0, 0⟩, ⟨none, 0, 0⟩, ⟨none, 0, 0⟩, ⟨none, 0, 0⟩, ⟨oa, ts.length, oc⟩⟩ : Ck) ⟨[], [], [], [], ts⟩ ∧ TSt h H4 (⟨k, f, 0, 0, 0, 0, 0, 0, 0, 0, ⟨none, 0, 0⟩, ⟨none, 0, 0⟩, ⟨none, 0, 0⟩, ⟨none, 0, 0⟩, ⟨oa, ts.length, oc⟩⟩ : Ck) none 0 [] bad ∧ CApart (h.n + 5) (⟨k, f, 0, 0, 0, 0, 0, 0, 0, 0, ⟨none, 0, 0⟩, ⟨none, 0, 0⟩, ⟨none, 0, 0⟩, ⟨none, 0, 0⟩, ⟨oa, ts.length, oc⟩⟩ : Ck) ⟨[], [], [], [], ts⟩ ∧ DfOk (h.n + 5) H4 (⟨k, f, 0, 0, 0, 0, 0, 0, 0, 0, ⟨none, 0, 0⟩, ⟨none, 0, 0⟩, ⟨none, 0, 0⟩, ⟨none, 0, 0⟩, ⟨oa, ts.length, oc⟩⟩ : Ck) ⟨[], [], [], [], ts⟩ [h7.n] := fun bad ts oa oc I H4 k4 => by
        have e1 : ∀ {a : Option Addr}, (∀ i ∈ blk a, i ∉ [h7.n + 1, h7.n]) → ∀ i ∈ blk a, i ∉ [h7.n + 1] := fun q i hi hm => q i hi (by simp only [List.mem_singleton] at hm; simp [hm])
        refine ⟨{ COk.base H4 k f hk8 hf with cl := rfl, cv := (I.sv.keeps k4 (e1 I.sep)).rv, cb := fun x hx => ⟨(I.cb x hx).1, (I.cb x hx).2.1, (I.cb x hx).2.2.1.keeps k4 (e1 (I.cb x hx).2.2.2.2.1)⟩ }, I.T.kp k4 (fun i hi => by simp only [List.mem_singleton] at hi; omega), ⟨Own.nil _, Own.nil _, Own.nil _, Own.nil _, I.own, fun x hx => (I.cb x hx).2.2.2.1⟩, .inr ⟨h7.n, rfl, k4.get I.mark (by simp), by omega, by simp [blk], by simp [blk], by simp [blk], by simp [blk], fun hm => I.sep _ hm (by simp), fun x hx hm => (I.cb x hx).2.2.2.2.1 _ hm (by simp)⟩⟩
      rcases hres with ⟨⟨ts, oa, oc⟩, hwell, I, x1, x2, x3⟩ | ⟨⟨ts, oa, oc⟩, i, hill, I⟩
      all_goals
        refine ⟨_, _, _, _, _, _, _, .normal, I.loop, by rfl, rfl, ?_⟩
        refine Go.name ?_
        intro h9 e9
        have k9 : Keeps [h7.n + 1] H3 h9 := by subst e9; exact (Keeps.rfl _ _).put (by simp) _
        clear e9
        obtain ⟨okF, TF, apF, dfF⟩ := two _ _ _ _ I h9 k9
        (refine Go.run (g:=?_))
        refine Go.joined (h9, _, _, none, 0, [], _, [h7.n]) ⟨TF, okF, apF, dfF, ?_⟩ ⟨rfl, rfl, rfl, trivial⟩ rfl rfl
      · rw [List.take_length] at x1
        simp only
        rw [finR_good okF]
        subst hk0
        simp only [rawP, if_pos hwell, pcOf, x1]
        rfl
      · simp only
        rw [finR_bad]
        subst hk0
        simp [rawP, hill]
    · (refine Go.run (g:=?_))
      refine GoR.callW rfl rfl rfl rfl rfl rfl rfl (((ru32_spec _ _ _ _ _ _ T5.rd hl).args (by first | rfl | (simp; fail_if_success focus skip) | (simp; omega) | (congr 2; omega))).mono ?_)
      rintro _ h6 ⟨a6, c6, rfl, r6, o6⟩ kk6
      refine ⟨fun i hi => .inr (by simp at hi; omega), ?_⟩
      have T6 := T5.call kk6 r6 o6
      have gC6 := T6.chk
      unfold Ck.cs at gC6
      try dsimp only at gC6
      have gP6 := T6.ptr
      have m6 := T6.n
      have hl6 := Nat.le_trans (left_len _ 4) hl
      (refine Go.run (g:=?_))
      refine Go.name ?_
      intro h7 e7
      have T7 := T6.put_eq (⟨k, f, 0, 0, num zs 4, 0, 0, 0, 0, 0, ⟨none, 0, 0⟩, ⟨none, 0, 0⟩, ⟨none, 0, 0⟩, ⟨none, 0, 0⟩, ⟨none, 0, 0⟩⟩ : Ck) e7
      clear e7
      have ok7 : COk h7 (⟨k, f, 0, 0, num zs 4, 0, 0, 0, 0, 0, ⟨none, 0, 0⟩, ⟨none, 0, 0⟩, ⟨none, 0, 0⟩, ⟨none, 0, 0⟩, ⟨none, 0, 0⟩⟩ : Ck) ⟨[], [], [], [], []⟩ := { COk.base h7 k f hk8 hf with tsn := num_lt4 _ }
      refine Go.joined (h7, _, _, _, _, _, _, []) ⟨T7, ok7, ⟨Own.nil _, Own.nil _, Own.nil _, Own.nil _, Own.nil _, fun x hx => by cases hx⟩, .inl rfl, ?_⟩ ⟨rfl, rfl, rfl, trivial⟩ rfl rfl
      subst hk0
      exact k7_fin f zs ok7
    · (refine Go.run (g:=?_))
      have ok5 : COk h5 (⟨k, f, 0, 0, 0, 0, 0, 0, 0, 0, ⟨none, 0, 0⟩, ⟨none, 0, 0⟩, ⟨none, 0, 0⟩, ⟨none, 0, 0⟩, ⟨none, 0, 0⟩⟩ : Ck) ⟨[], [], [], [], []⟩ := COk.base h5 k f hk8 hf
      refine Go.joined (h5, _, _, _, _, _, _, []) ⟨T5, ok5, ⟨Own.nil _, Own.nil _, Own.nil _, Own.nil _, Own.nil _, fun x hx => by cases hx⟩, .inl rfl, ?_⟩ ⟨rfl, rfl, rfl, trivial⟩ rfl rfl
      cases zs with
      | nil =>
        rw [finR_good ok5]
        subst hk0
        rfl
      | cons z l =>
        rw [finR_left _ _ _ (by simp)]
        subst hk0
        simp [rawP]
    · (refine Go.run (g:=?_))
      have ok5 : COk h5 (⟨k, f, 0, 0, 0, 0, 0, 0, 0, 0, ⟨none, 0, 0⟩, ⟨none, 0, 0⟩, ⟨none, 0, 0⟩, ⟨none, 0, 0⟩, ⟨none, 0, 0⟩⟩ : Ck) ⟨[], [], [], [], []⟩ := COk.base h5 k f hk8 hf
      refine Go.joined (h5, _, _, _, _, _, _, []) ⟨T5, ok5, ⟨Own.nil _, Own.nil _, Own.nil _, Own.nil _, Own.nil _, fun x hx => by cases hx⟩, .inl rfl, ?_⟩ ⟨rfl, rfl, rfl, trivial⟩ rfl rfl
      cases zs with
      | nil =>
        rw [finR_good ok5]
        subst hk0
        rfl
      | cons z l =>
        rw [finR_left _ _ _ (by simp)]
        subst hk0
        simp [rawP]
    · (refine Go.run (g:=?_))
      have ok5 : COk h5 (⟨k, f, 0, 0, 0, 0, 0, 0, 0, 0, ⟨none, 0, 0⟩, ⟨none, 0, 0⟩, ⟨none, 0, 0⟩, ⟨none, 0, 0⟩, ⟨none, 0, 0⟩⟩ : Ck) ⟨[], [], [], [], []⟩ := COk.base h5 k f hk8 hf
      refine Go.joined (h5, _, _, _, _, _, _, []) ⟨T5, ok5, ⟨Own.nil _, Own.nil _, Own.nil _, Own.nil _, Own.nil _, fun x hx => by cases hx⟩, .inl rfl, ?_⟩ ⟨rfl, rfl, rfl, trivial⟩ rfl rfl
      cases zs with
      | nil =>
        rw [finR_good ok5]
        subst hk0
        rfl
      | cons z l =>
        rw [finR_left _ _ _ (by simp)]
        subst hk0
        simp [rawP]
    · (refine Go.run (g:=?_))
      refine GoR.name ?_
      intro h10 e10
      have T10 := T5.to (by subst e10; exact Same.refl _)
      clear e10
      have gP10 := T10.ptr
      have m10 := T10.n
      refine GoR.callW rfl rfl rfl rfl rfl rfl rfl (((rrest_spec _ _ _ _ _ _ T10.rd hl).args (by first | rfl | (simp; fail_if_success focus skip) | (simp; omega) | (congr 2; omega))).mono ?_)
      rintro _ hr10 ⟨br10, cr10, rfl, vr10, or10, rr10⟩ kr10
      refine ⟨fun i hi => .inr (by simp at hi; omega), ?_⟩
      have Tr10 := T10.call kr10 rr10 (fun i hi => by simp [blk] at hi)
      have gC10 := Tr10.chk
      unfold Ck.cs at gC10
      try dsimp only at gC10
      have mr10 := Tr10.n
      (refine Go.run (g:=?_))
      refine Go.name ?_
      intro hz10 ez10
      have Tz10 := Tr10.put_eq (⟨k, f, 0, 0, 0, 0, 0, 0, 0, 0, ⟨br10, zs.length, cr10⟩, ⟨none, 0, 0⟩, ⟨none, 0, 0⟩, ⟨none, 0, 0⟩, ⟨none, 0, 0⟩⟩ : Ck) ez10
      have vz10 := vr10.put_eq ez10 (fun hm => by have := or10 _ hm; omega)
      clear ez10
      have ok10 : COk hz10 (⟨k, f, 0, 0, 0, 0, 0, 0, 0, 0, ⟨br10, zs.length, cr10⟩, ⟨none, 0, 0⟩, ⟨none, 0, 0⟩, ⟨none, 0, 0⟩, ⟨none, 0, 0⟩⟩ : Ck) ⟨zs, [], [], [], []⟩ := { COk.base hz10 k f hk8 hf with dl := rfl, dv := vz10.rv }
      refine Go.joined (hz10, _, _, none, 0, [], _, []) ⟨Tz10, ok10, ⟨or10.mono (by omega), Own.nil _, Own.nil _, Own.nil _, Own.nil _, fun x hx => by cases hx⟩, .inl rfl, ?_⟩ ⟨rfl, rfl, rfl, trivial⟩ rfl rfl
      rw [finR_good ok10, show rawP k f zs = some { PC.z k f with data := zs } from by unfold rawP; split <;> first | rfl | omega | contradiction]
      rfl
  rintro ⟨H, c, d, a', cap', ys, bad, df⟩ ⟨T, ok, hap, hdf, hfin⟩
  simp only at T ok hap hdf hfin ⊢
  have gC := T.chk
  have gP := T.ptr
  have gr := T.rd.g
  have gR := T.res
  have mH := T.n
  unfold Ck.cs Ck.none Sl.nil at gR
  unfold Ck.cs at gC
  rw [← hfin]
  rcases hdf with rfl | ⟨dd, rfl, hdd, hdn, hcn⟩
  · cases bad
    case true =>
      rw [finR_bad]
      (refine Go.run (g:=?_))
      refine Go.fin (.inr rfl) (.cellN (b := h.n + 1) (off := 0) rfl inferInstance (by (first | assumption | exact AHeap.get_push_same _ _ | ((repeat first | exact AHeap.get_push_same _ _ | assumption | refine get_push_lt ?_ | exact AHeap.get_put_same _ (by first | omega | (simp only [AHeap.n_push, AHeap.n_put]; omega)) _ | exact get_put_self (by assumption) | apply get_put_self | refine get_put_other (by first | omega | (simp only [AHeap.n_push, AHeap.n_put]; omega)) ?_ | refine Same.get (by assumption) ?_ | refine Keeps.get (by assumption) ?_ (fun hi => by have hx := Own.out (by assumption) hi; omega)) ; fail_if_success focus skip) | fail)) (by first | exact Nat.le_refl _ | (simp [setL, cellsL]; fail_if_success focus skip) | (simp; omega)) rfl (.tmp rfl .nil)) ?_
      rfl
    cases ys with
    | cons y ys =>
      rw [finR_left _ _ _ (by simp)]
      have hpos : (0 : Int) < ((y :: ys).length : Int) := by simp only [List.length_cons]; omega
      generalize (y :: ys).length = ny at *
      (refine Go.run (g:=?_))
      refine Go.fin (.inr rfl) (.cellN (b := h.n + 1) (off := 0) rfl inferInstance (by (first | assumption | exact AHeap.get_push_same _ _ | ((repeat first | exact AHeap.get_push_same _ _ | assumption | refine get_push_lt ?_ | exact AHeap.get_put_same _ (by first | omega | (simp only [AHeap.n_push, AHeap.n_put]; omega)) _ | exact get_put_self (by assumption) | apply get_put_self | refine get_put_other (by first | omega | (simp only [AHeap.n_push, AHeap.n_put]; omega)) ?_ | refine Same.get (by assumption) ?_ | refine Keeps.get (by assumption) ?_ (fun hi => by have hx := Own.out (by assumption) hi; omega)) ; fail_if_success focus skip) | fail)) (by first | exact Nat.le_refl _ | (simp [setL, cellsL]; fail_if_success focus skip) | (simp; omega)) rfl (.tmp rfl .nil)) ?_
      rfl
    | nil =>
      have hmy := may_spec c ok.f d.gaps ok.gl ok.gb H ok.gv
      cases hm : may c d.gaps
      all_goals rw [hm] at hmy
      · rw [show finR c d false [] = none from by simp [finR, hm]]
        (refine Go.run (g:=?_))
        refine GoR.call rfl rfl rfl rfl rfl rfl rfl (((hmy).args (by first | rfl | (simp; fail_if_success focus skip) | (simp; omega) | (congr 2; omega))).mono ?_)
        rintro _ h8 rfl s8
        (have nn := (s8).1; try simp only [AHeap.n_push, AHeap.n_put] at nn)
        have gR8 := s8.get gR
        (refine Go.run (g:=?_))
        refine Go.fin (.inr rfl) (.cellN (b := h.n + 1) (off := 0) rfl inferInstance (by (first | assumption | exact AHeap.get_push_same _ _ | ((repeat first | exact AHeap.get_push_same _ _ | assumption | refine get_push_lt ?_ | exact AHeap.get_put_same _ (by first | omega | (simp only [AHeap.n_push, AHeap.n_put]; omega)) _ | exact get_put_self (by assumption) | apply get_put_self | refine get_put_other (by first | omega | (simp only [AHeap.n_push, AHeap.n_put]; omega)) ?_ | refine Same.get (by assumption) ?_ | refine Keeps.get (by assumption) ?_ (fun hi => by have hx := Own.out (by assumption) hi; omega)) ; fail_if_success focus skip) | fail)) (by first | exact Nat.le_refl _ | (simp [setL, cellsL]; fail_if_success focus skip) | (simp; omega)) rfl (.tmp rfl .nil)) ?_
        rfl
      · rw [show finR c d false [] = some (pcOf c d) from by simp [finR, hm]]
        (refine Go.run (g:=?_))
        refine GoR.call rfl rfl rfl rfl rfl rfl rfl (((hmy).args (by first | rfl | (simp; fail_if_success focus skip) | (simp; omega) | (congr 2; omega))).mono ?_)
        rintro _ h8 rfl s8
        (have nn := (s8).1; try simp only [AHeap.n_push, AHeap.n_put] at nn)
        have gR8 := s8.get gR
        have gC8 := s8.get gC
        (refine Go.run (g:=?_))
        refine Go.fin (.inr rfl) (.cellN (b := h.n + 1) (off := 0) rfl inferInstance (by (first | assumption | exact AHeap.get_push_same _ _ | ((repeat first | exact AHeap.get_push_same _ _ | assumption | refine get_push_lt ?_ | exact AHeap.get_put_same _ (by first | omega | (simp only [AHeap.n_push, AHeap.n_put]; omega)) _ | exact get_put_self (by assumption) | apply get_put_self | refine get_put_other (by first | omega | (simp only [AHeap.n_push, AHeap.n_put]; omega)) ?_ | refine Same.get (by assumption) ?_ | refine Keeps.get (by assumption) ?_ (fun hi => by have hx := Own.out (by assumption) hi; omega)) ; fail_if_success focus skip) | fail)) (by first | exact Nat.le_refl _ | (simp [setL, cellsL]; fail_if_success focus skip) | (simp; omega)) rfl (.tmp rfl .nil)) ?_
        exact ⟨c, d, rfl, (ok.same s8).put hap (by omega) _, hap.mono (by omega), rfl⟩
  · cases bad
    case true =>
      rw [finR_bad]
      (refine Go.run (g:=?_))
      refine Go.fin_marks (.inr rfl) (by intro d hd; simp only [List.mem_singleton] at hd; omega) (takeAll_one (by (first | assumption | exact AHeap.get_push_same _ _ | ((repeat first | exact AHeap.get_push_same _ _ | assumption | refine get_push_lt ?_ | exact AHeap.get_put_same _ (by first | omega | (simp only [AHeap.n_push, AHeap.n_put]; omega)) _ | exact get_put_self (by assumption) | apply get_put_self | refine get_put_other (by first | omega | (simp only [AHeap.n_push, AHeap.n_put]; omega)) ?_ | refine Same.get (by assumption) ?_ | refine Keeps.get (by assumption) ?_ (fun hi => by have hx := Own.out (by assumption) hi; omega)) ; fail_if_success focus skip) | fail))) (.cellN (b := h.n + 1) (off := 0) rfl inferInstance (by (first | assumption | exact AHeap.get_push_same _ _ | ((repeat first | exact AHeap.get_push_same _ _ | assumption | refine get_push_lt ?_ | exact AHeap.get_put_same _ (by first | omega | (simp only [AHeap.n_push, AHeap.n_put]; omega)) _ | exact get_put_self (by assumption) | apply get_put_self | refine get_put_other (by first | omega | (simp only [AHeap.n_push, AHeap.n_put]; omega)) ?_ | refine Same.get (by assumption) ?_ | refine Keeps.get (by assumption) ?_ (fun hi => by have hx := Own.out (by assumption) hi; omega)) ; fail_if_success focus skip) | fail)) (by first | exact Nat.le_refl _ | (simp [setL, cellsL]; fail_if_success focus skip) | (simp; omega)) rfl (.tmp rfl .nil)) ?_
      rfl
    cases ys with
    | cons y ys =>
      rw [finR_left _ _ _ (by simp)]
      have hpos : (0 : Int) < ((y :: ys).length : Int) := by simp only [List.length_cons]; omega
      generalize (y :: ys).length = ny at *
      (refine Go.run (g:=?_))
      refine Go.fin_marks (.inr rfl) (by intro d hd; simp only [List.mem_singleton] at hd; omega) (takeAll_one (by (first | assumption | exact AHeap.get_push_same _ _ | ((repeat first | exact AHeap.get_push_same _ _ | assumption | refine get_push_lt ?_ | exact AHeap.get_put_same _ (by first | omega | (simp only [AHeap.n_push, AHeap.n_put]; omega)) _ | exact get_put_self (by assumption) | apply get_put_self | refine get_put_other (by first | omega | (simp only [AHeap.n_push, AHeap.n_put]; omega)) ?_ | refine Same.get (by assumption) ?_ | refine Keeps.get (by assumption) ?_ (fun hi => by have hx := Own.out (by assumption) hi; omega)) ; fail_if_success focus skip) | fail))) (.cellN (b := h.n + 1) (off := 0) rfl inferInstance (by (first | assumption | exact AHeap.get_push_same _ _ | ((repeat first | exact AHeap.get_push_same _ _ | assumption | refine get_push_lt ?_ | exact AHeap.get_put_same _ (by first | omega | (simp only [AHeap.n_push, AHeap.n_put]; omega)) _ | exact get_put_self (by assumption) | apply get_put_self | refine get_put_other (by first | omega | (simp only [AHeap.n_push, AHeap.n_put]; omega)) ?_ | refine Same.get (by assumption) ?_ | refine Keeps.get (by assumption) ?_ (fun hi => by have hx := Own.out (by assumption) hi; omega)) ; fail_if_success focus skip) | fail)) (by first | exact Nat.le_refl _ | (simp [setL, cellsL]; fail_if_success focus skip) | (simp; omega)) rfl (.tmp rfl .nil)) ?_
      rfl
    | nil =>
      have hmy := may_spec c ok.f d.gaps ok.gl ok.gb H ok.gv
      cases hm : may c d.gaps
      all_goals rw [hm] at hmy
      · rw [show finR c d false [] = none from by simp [finR, hm]]
        (refine Go.run (g:=?_))
        refine GoR.call rfl rfl rfl rfl rfl rfl rfl (((hmy).args (by first | rfl | (simp; fail_if_success focus skip) | (simp; omega) | (congr 2; omega))).mono ?_)
        rintro _ h8 rfl s8
        (have nn := (s8).1; try simp only [AHeap.n_push, AHeap.n_put] at nn)
        have gR8 := s8.get gR
        have hdd := s8.get hdd
        (refine Go.run (g:=?_))
        refine Go.fin_marks (.inr rfl) (by intro d hd; simp only [List.mem_singleton] at hd; omega) (takeAll_one (by (first | assumption | exact AHeap.get_push_same _ _ | ((repeat first | exact AHeap.get_push_same _ _ | assumption | refine get_push_lt ?_ | exact AHeap.get_put_same _ (by first | omega | (simp only [AHeap.n_push, AHeap.n_put]; omega)) _ | exact get_put_self (by assumption) | apply get_put_self | refine get_put_other (by first | omega | (simp only [AHeap.n_push, AHeap.n_put]; omega)) ?_ | refine Same.get (by assumption) ?_ | refine Keeps.get (by assumption) ?_ (fun hi => by have hx := Own.out (by assumption) hi; omega)) ; fail_if_success focus skip) | fail))) (.cellN (b := h.n + 1) (off := 0) rfl inferInstance (by (first | assumption | exact AHeap.get_push_same _ _ | ((repeat first | exact AHeap.get_push_same _ _ | assumption | refine get_push_lt ?_ | exact AHeap.get_put_same _ (by first | omega | (simp only [AHeap.n_push, AHeap.n_put]; omega)) _ | exact get_put_self (by assumption) | apply get_put_self | refine get_put_other (by first | omega | (simp only [AHeap.n_push, AHeap.n_put]; omega)) ?_ | refine Same.get (by assumption) ?_ | refine Keeps.get (by assumption) ?_ (fun hi => by have hx := Own.out (by assumption) hi; omega)) ; fail_if_success focus skip) | fail)) (by first | exact Nat.le_refl _ | (simp [setL, cellsL]; fail_if_success focus skip) | (simp; omega)) rfl (.tmp rfl .nil)) ?_
        rfl
      · rw [show finR c d false [] = some (pcOf c d) from by simp [finR, hm]]
        (refine Go.run (g:=?_))
        refine GoR.call rfl rfl rfl rfl rfl rfl rfl (((hmy).args (by first | rfl | (simp; fail_if_success focus skip) | (simp; omega) | (congr 2; omega))).mono ?_)
        rintro _ h8 rfl s8
        (have nn := (s8).1; try simp only [AHeap.n_push, AHeap.n_put] at nn)
        have gR8 := s8.get gR
        have gC8 := s8.get gC
        have hdd := s8.get hdd
        (refine Go.run (g:=?_))
        refine Go.fin_marks (.inr rfl) (by intro d hd; simp only [List.mem_singleton] at hd; omega) (takeAll_one (by (first | assumption | exact AHeap.get_push_same _ _ | ((repeat first | exact AHeap.get_push_same _ _ | assumption | refine get_push_lt ?_ | exact AHeap.get_put_same _ (by first | omega | (simp only [AHeap.n_push, AHeap.n_put]; omega)) _ | exact get_put_self (by assumption) | apply get_put_self | refine get_put_other (by first | omega | (simp only [AHeap.n_push, AHeap.n_put]; omega)) ?_ | refine Same.get (by assumption) ?_ | refine Keeps.get (by assumption) ?_ (fun hi => by have hx := Own.out (by assumption) hi; omega)) ; fail_if_success focus skip) | fail))) (.cellN (b := h.n + 1) (off := 0) rfl inferInstance (by (first | assumption | exact AHeap.get_push_same _ _ | ((repeat first | exact AHeap.get_push_same _ _ | assumption | refine get_push_lt ?_ | exact AHeap.get_put_same _ (by first | omega | (simp only [AHeap.n_push, AHeap.n_put]; omega)) _ | exact get_put_self (by assumption) | apply get_put_self | refine get_put_other (by first | omega | (simp only [AHeap.n_push, AHeap.n_put]; omega)) ?_ | refine Same.get (by assumption) ?_ | refine Keeps.get (by assumption) ?_ (fun hi => by have hx := Own.out (by assumption) hi; omega)) ; fail_if_success focus skip) | fail)) (by first | exact Nat.le_refl _ | (simp [setL, cellsL]; fail_if_success focus skip) | (simp; omega)) rfl (.tmp rfl .nil)) ?_
        exact ⟨c, d, rfl, ((ok.same s8).put hap (by omega) _).putN hcn _, hap.mono (by omega), rfl⟩
theorem ctake_spec (k f : Nat) (a : Option Addr) (cap : Nat) (zs : List UInt8) (hk : k < 65536) (hf : f < 256) (hl : zs.length ≤ 1000000) (h : AHeap) (hz : Rv Try.prog h 1 a zs.length cap (zs.map bv)) : CallS Try.prog [] 34 [tlvV k f a zs.length cap] h fun v h' => TakeR h' v (tkP k f zs) :=
  (ctake_own k f a cap zs hk hf hl h hz).mono fun _ _ t => t.r
end Go.Proofs.Ytmelgnpogdilgaa
namespace Go.Proofs.Ytmelgnpogdilgaa
set_option maxRecDepth 100000
attribute [local irreducible] Go GoR GoL
instance seqGap (a b a' b' : Int) : SEq Try.prog 82 [.int .u16 a, .int .u16 b] [.int .u16 a', .int .u16 b'] (a == a' && (b == b' && true)) := ⟨by kernel_rfl⟩
set_option maxHeartbeats 16000000 in
theorem same5_spec (c c' : Ck) (d d' : CD) (h : AHeap) (ok : COk h c d) (ok' : COk h c' d') (e : pcOf c d = pcOf c' d') (hA : c.A.n ≤ 1000000000) (hG : c.G.n ≤ 1000000000) (hU : c.U.n ≤ 1000000000) (hb : c.C.n ≤ 1000000000) : CallS Try.prog [] 36 [c.v, c'.v] h fun v h' => v = .bool true := by
  simp only [pcOf, PC.mk.injEq] at e
  obtain ⟨e1, e2, e3, e4, e5, e6, e7, e8, e9, e10, e11, e12, e13, e14, e15⟩ := e
  unfold Ck.v
  (refine CallS.of2 Try.func36 rfl Try.ntmps36 Try.results36 rfl ?_)
  (iterate 4 (first|refine GoR.end ?_|(refine GoR.gd rfl ?_;first|refine GoR.wanted' rfl rfl rfl rfl (g:=?_)|refine GoR.unwanted' rfl rfl rfl rfl (hd:=rfl) (hN:=rfl) (g:=?_)|refine GoR.unwantedU rfl rfl rfl rfl rfl rfl ?_)|(refine GoR.kk 0 rfl ?_;first|refine GoR.move rfl rfl rfl rfl rfl ?_|refine GoR.assign rfl rfl rfl rfl rfl ?_)|(refine GoR.kk 1 rfl ?_;first|refine GoR.load' rfl rfl rfl rfl rfl (g:=?_)|refine GoR.loadA' rfl rfl rfl rfl rfl (hv:=rfl) (g:=?_)|refine GoR.loadV' rfl rfl rfl rfl rfl (g:=?_)|refine GoR.loadVN' rfl rfl rfl rfl rfl (g:=?_))|(refine GoR.kk 2 rfl ?_;first|refine GoR.store' rfl rfl rfl rfl rfl (hl:=rfl) (h1:=rfl) (h3:=rfl) (g:=?_))|(refine GoR.kk 3 rfl ?_;first|refine GoR.fieldAddr rfl rfl rfl rfl rfl ?_|refine GoR.indexN' rfl rfl rfl rfl rfl rfl (g:=?_)|refine GoR.indexNs' rfl rfl rfl rfl rfl rfl (g:=?_)|refine GoR.indexV' rfl rfl rfl rfl rfl rfl (g:=?_)|refine GoR.indexA' rfl rfl rfl rfl rfl rfl (g:=?_)|refine GoR.fieldV' rfl rfl rfl rfl rfl (g:=?_))|(refine GoR.kk 4 rfl ?_;first|refine GoR.eq rfl rfl rfl rfl rfl rfl ?_|refine GoR.ne rfl rfl rfl rfl rfl rfl ?_|refine GoR.lt rfl rfl rfl rfl rfl rfl ?_|refine GoR.le rfl rfl rfl rfl rfl rfl ?_|refine GoR.gt rfl rfl rfl rfl rfl rfl ?_|refine GoR.ge rfl rfl rfl rfl rfl rfl ?_|refine GoR.addN' rfl rfl rfl rfl rfl rfl (g:=?_)|refine GoR.subN' rfl rfl rfl rfl rfl rfl (g:=?_)|refine GoR.add' rfl rfl rfl rfl rfl rfl (g:=?_)|refine GoR.sub' rfl rfl rfl rfl rfl rfl (g:=?_)|refine GoR.addM' rfl rfl rfl rfl rfl rfl (g:=?_)|refine GoR.subM' rfl rfl rfl rfl rfl rfl (g:=?_)|refine GoR.mulM' rfl rfl rfl rfl rfl rfl (g:=?_)|refine GoR.shrN rfl rfl rfl rfl rfl rfl rfl ?_|refine GoR.structEq rfl rfl rfl rfl rfl rfl (by rfl) (by rfl) ?_|refine GoR.structNe rfl rfl rfl rfl rfl rfl (by rfl) (by rfl) ?_|refine GoR.strEq rfl rfl rfl rfl rfl rfl ?_|refine GoR.strNe rfl rfl rfl rfl rfl rfl ?_|refine GoR.remN' rfl rfl rfl rfl rfl rfl (g:=?_)|refine GoR.quoN' rfl rfl rfl rfl rfl rfl (g:=?_)|refine GoR.shlN' rfl rfl rfl rfl rfl rfl rfl (g:=?_)|refine GoR.orN' rfl rfl rfl rfl rfl rfl (g:=?_))|(refine GoR.kk 5 rfl ?_;first|refine GoR.len rfl rfl rfl rfl rfl ?_|refine GoR.lenStr rfl rfl rfl rfl rfl ?_|refine GoR.capB rfl rfl rfl rfl rfl ?_)|(refine GoR.kk 7 rfl ?_;first|refine GoR.pickE' rfl rfl rfl rfl rfl (hx:=rfl) (hy:=rfl) (g:=?_)|refine GoR.pickN' rfl rfl rfl rfl rfl (hx:=rfl) (hy:=rfl) (g:=?_)|refine GoR.pickB rfl rfl rfl rfl rfl rfl rfl ?_)|(refine GoR.kk 8 rfl ?_;first|refine GoR.boxA rfl rfl rfl rfl rfl ?_|refine GoR.boxS rfl rfl rfl rfl rfl rfl ?_|refine GoR.alloc rfl rfl rfl rfl ?_)|(refine GoR.kk 9 rfl ?_;first|refine GoR.strV' rfl rfl rfl rfl rfl (g:=?_)|refine GoR.conv_u8 rfl rfl rfl rfl rfl ?_|refine GoR.convW' rfl rfl rfl rfl rfl (g:=?_)|refine GoR.conv_u16 rfl rfl rfl rfl rfl ?_|refine GoR.conv_u32 rfl rfl rfl rfl rfl ?_)|(refine GoR.kk 10 rfl ?_;first|refine GoR.build' rfl rfl rfl rfl rfl rfl (g:=?_))|(refine GoR.kk 11 rfl ?_;first|refine GoR.extract rfl rfl rfl rfl rfl rfl ?_|refine GoR.not rfl rfl rfl rfl rfl ?_|refine GoR.nilCheck rfl rfl rfl rfl rfl ?_|refine GoR.nilCheckF rfl rfl rfl rfl rfl ?_|refine GoR.makeFunc rfl rfl rfl rfl rfl rfl ?_)|(refine Go.kk 0 rfl ?_;refine Go.seq ?_)|(refine Go.kk 1 rfl ?_;refine Go.region (by kernel_rfl) rfl ?_)|(refine Go.kk 2 rfl ?_;refine Go.drawnQ rfl (by kernel_rfl) rfl ?_)|(refine Go.kk 3 rfl ?_;first|refine Go.cond_t' rfl (g:=?_)|refine Go.cond_f' rfl (g:=?_))|(refine Go.kk 4 rfl ?_;refine Go.block ?_)|(refine Go.kk 5 rfl ?_;first|refine Go.skip ?_|refine Go.ret ?_|refine Go.exit ?_|refine Go.scope ?_)|refine Go.leave_normal ?_|refine Go.leave_same ?_|refine Go.leave_ret ?_|refine Go.ret_code ?_|refine Go.exit_code ?_|refine Go.leave_other rfl ?_|refine Go.sc_normal ?_|refine Go.sc_ret ?_|refine Go.sc_exit ?_|refine Go.exit_back ?_|refine Go.ret_back ?_))
  simp only [AHeap.n_push, AHeap.n_put]
  refine GoR.name ?_
  intro h3 e0
  have S3 : Same h h3 := by subst e0; exact ((Same.refl h).push _).push _
  have G0 : h3.get h.n = some (.cells c.cs 57) := by subst e0; (first | assumption | exact AHeap.get_push_same _ _ | ((repeat first | exact AHeap.get_push_same _ _ | assumption | refine get_push_lt ?_ | exact AHeap.get_put_same _ (by first | omega | (simp only [AHeap.n_push, AHeap.n_put]; omega)) _ | exact get_put_self (by assumption) | apply get_put_self | refine get_put_other (by first | omega | (simp only [AHeap.n_push, AHeap.n_put]; omega)) ?_ | refine Same.get (by assumption) ?_ | refine Keeps.get (by assumption) ?_ (fun hi => by have hx := Own.out (by assumption) hi; omega)) ; fail_if_success focus skip) | fail)
  have G1 : h3.get (h.n + 1) = some (.cells c'.cs 57) := by subst e0; (first | assumption | exact AHeap.get_push_same _ _ | ((repeat first | exact AHeap.get_push_same _ _ | assumption | refine get_push_lt ?_ | exact AHeap.get_put_same _ (by first | omega | (simp only [AHeap.n_push, AHeap.n_put]; omega)) _ | exact get_put_self (by assumption) | apply get_put_self | refine get_put_other (by first | omega | (simp only [AHeap.n_push, AHeap.n_put]; omega)) ?_ | refine Same.get (by assumption) ?_ | refine Keeps.get (by assumption) ?_ (fun hi => by have hx := Own.out (by assumption) hi; omega)) ; fail_if_success focus skip) | fail)
  have n3 : h3.n = h.n + 2 := by subst e0; rfl
  clear e0
  unfold Ck.cs at G0 G1
  have o := ok.same S3
  have o' := ok'.same S3
  have dv := o.dv
  have dv' := o'.dv
  rw [← e11] at dv'
  have l1 := ok.al
  have l1' := ok'.al
  have l2 := ok.gl
  have l2' := ok'.gl
  have l3 := ok.ul
  have l3' := ok'.ul
  have l4 := ok.cl
  have l4' := ok'.cl
  have l0 := ok.dl
  have l0' := ok'.dl
  have l5 : d.causes.length = d'.causes.length := by have := congrArg List.length e15; simpa using this
  rw [← e11] at l0'
  rw [← e12] at l1'
  rw [← e13] at l2'
  rw [← e14] at l3'
  have av := o.av
  have av' := o'.av
  rw [← e12] at av'
  have gv := o.gv
  have gv' := o'.gv
  rw [← e13] at gv'
  have uv := o.uv
  have uv' := o'.uv
  rw [← e14] at uv'
  have cv := o.cv
  have cv' := o'.cv
  have q1 : c'.A.n = c.A.n := by omega
  have q2 : c'.G.n = c.G.n := by omega
  have q3 : c'.U.n = c.U.n := by omega
  have q4 : c'.C.n = c.C.n := by omega
  have q0 : c'.D.n = c.D.n := by omega
  rw [q0] at dv' G1
  rw [q1] at av' G1
  rw [q2] at gv' G1
  rw [q3] at uv' G1
  rw [q4] at cv' G1
  rw [← e1, ← e2, ← e3, ← e4, ← e5, ← e6, ← e7, ← e8, ← e9, ← e10] at G1
  (refine Go.run (g:=?_))
  refine Go.loop (α := Nat) (fun i => [(5, .int .i64 i), (2, .pointer (some ⟨h.n, 0, none⟩)), (3, .pointer (some ⟨h.n + 1, 0, none⟩))]) (fun _ => []) (fun _ => h3) (fun i => i ≤ c.A.n) (fun i => c.A.n - i) 0 (Nat.zero_le _) ⟨rfl, rfl, rfl, trivial⟩ rfl rfl ?_
  rintro i hi
  rcases Nat.lt_or_ge i (c.A.n) with i0 | i0
  · have i1 : i < d.addrs.length := by omega
    have c0 := w32s_get i1
    have hbe : i < (w32s d.addrs).length := by rw [w32s_len]; exact i1
    generalize d.addrs[i] = x at *
    (refine Go.run (g:=?_))
    exact Go.again (i + 1) i0 (by omega) ⟨rfl, rfl, rfl, trivial⟩ rfl rfl
  have hie : i = c.A.n := by omega
  subst hie
  (refine Go.run (g:=?_))
  refine Go.loop (α := Nat) (fun i => [(6, .int .i64 i), (2, .pointer (some ⟨h.n, 0, none⟩)), (3, .pointer (some ⟨h.n + 1, 0, none⟩))]) (fun _ => []) (fun _ => h3) (fun i => i ≤ c.G.n) (fun i => c.G.n - i) 0 (Nat.zero_le _) ⟨rfl, rfl, rfl, trivial⟩ rfl rfl ?_
  rintro i hi
  rcases Nat.lt_or_ge i (c.G.n) with i0 | i0
  · have i1 : i < d.gaps.length := by omega
    have c0 := gcs_get i1
    have hbe : i * 2 + 2 ≤ (gcs d.gaps).length := by rw [gcs_len]; omega
    generalize d.gaps[i].1 = x at *
    generalize d.gaps[i].2 = y at *
    (refine Go.run (g:=?_))
    rw [show (!(((x : Int) == (x : Int)) && (((y : Int) == (y : Int)) && true))) = false from by simp]
    (refine Go.run (g:=?_))
    exact Go.again (i + 1) i0 (by omega) ⟨rfl, rfl, rfl, trivial⟩ rfl rfl
  have hie : i = c.G.n := by omega
  subst hie
  (refine Go.run (g:=?_))
  refine Go.loop (α := Nat) (fun i => [(7, .int .i64 i), (2, .pointer (some ⟨h.n, 0, none⟩)), (3, .pointer (some ⟨h.n + 1, 0, none⟩))]) (fun _ => []) (fun _ => h3) (fun i => i ≤ c.U.n) (fun i => c.U.n - i) 0 (Nat.zero_le _) ⟨rfl, rfl, rfl, trivial⟩ rfl rfl ?_
  rintro i hi
  rcases Nat.lt_or_ge i (c.U.n) with i0 | i0
  · have i1 : i < d.dups.length := by omega
    have c0 := w32s_get i1
    have hbe : i < (w32s d.dups).length := by rw [w32s_len]; exact i1
    generalize d.dups[i] = x at *
    (refine Go.run (g:=?_))
    exact Go.again (i + 1) i0 (by omega) ⟨rfl, rfl, rfl, trivial⟩ rfl rfl
  have hie : i = c.U.n := by omega
  subst hie
  (refine Go.run (g:=?_))
  refine Go.loop (α := Nat) (fun i => [(8, .int .i64 i), (2, .pointer (some ⟨h.n, 0, none⟩)), (3, .pointer (some ⟨h.n + 1, 0, none⟩))]) (fun _ => []) (fun _ => h3) (fun i => i ≤ c.C.n) (fun i => c.C.n - i) 0 (Nat.zero_le _) ⟨rfl, rfl, rfl, trivial⟩ rfl rfl ?_
  rintro i hi
  rcases Nat.lt_or_ge i (c.C.n) with i0 | i0
  · have i1 : i < d.causes.length := by omega
    have i2 : i < d'.causes.length := by omega
    have c0 := ccs_0 i1
    have c1 := ccs_1 i1
    have c0' := ccs_0 i2
    have c1' := ccs_1 i2
    have hbe : i * 2 < (ccs d.causes).length := by rw [ccs_len]; omega
    have hbe' : i * 2 < (ccs d'.causes).length := by rw [ccs_len]; omega
    have ee := congrArg (fun l : List (Nat × List UInt8) => l[i]?) e15
    simp only [List.getElem?_map, List.getElem?_eq_getElem i1, List.getElem?_eq_getElem i2, Option.map_some, Option.some.injEq, Prod.mk.injEq] at ee
    obtain ⟨ek, ez⟩ := ee
    obtain ⟨-, -, vz⟩ := o.cb _ (List.getElem_mem i1)
    obtain ⟨-, -, vz'⟩ := o'.cb _ (List.getElem_mem i2)
    rw [← ek] at c0'
    rw [← ez] at c1' vz'
    generalize d.causes[i].k = xk at *
    generalize d.causes[i].z = xz at *
    generalize d.causes[i].a = xa at *
    generalize d.causes[i].cap = xc at *
    generalize d'.causes[i].a = ya at *
    generalize d'.causes[i].cap = yc at *
    (refine Go.run (g:=?_))
    exact Go.again (i + 1) i0 (by omega) ⟨rfl, rfl, rfl, trivial⟩ rfl rfl
  have hie : i = c.C.n := by omega
  subst hie
  (refine Go.run (g:=?_))
  (first|refine Go.finT (by first|exact .inr rfl|exact .inl rfl) rfl ?_|refine Go.fin1 (by first|exact .inr rfl|exact .inl rfl) rfl (hq:=?_))
  rfl
end Go.Proofs.Ytmelgnpogdilgaa
namespace Go.Proofs.Ytmelgnpogdilgaa
set_option maxRecDepth 100000
attribute [local irreducible] Go GoR GoL
theorem putR_cases {h h' : AHeap} {v : Value} {c : Ck} {d : CD} (r : PutR h h' v c d) : ∃ (b : Option Addr) (n cap e : Nat), v = .tuple #[.slice b n cap, .int .i64 e] ∧ ((e = 0 ∧ ∃ x, may c d.gaps = true ∧ cval c d = some x ∧ x.length ≤ 65531 ∧ n = (tlvB true c.k c.f x).length ∧ Rv Try.prog h' 1 b n cap ((tlvB true c.k c.f x).map bv)) ∨ (e ≠ 0 ∧ (may c d.gaps = true → e = 3))) := by
  unfold PutR at r
  split at r
  · rename_i hm
    unfold PutV at r
    split at r
    · exact ⟨none, 0, 0, 3, r, .inr ⟨by decide, fun _ => rfl⟩⟩
    · rename_i x hx
      split at r
      · rename_i hl
        obtain ⟨b, cap, rfl, hb, ob⟩ := r
        exact ⟨b, _, cap, 0, rfl, .inl ⟨rfl, x, hm, hx, hl, rfl, hb.rv⟩⟩
      · exact ⟨none, 0, 0, 3, r, .inr ⟨by decide, fun _ => rfl⟩⟩
  · rename_i hm
    exact ⟨none, 0, 0, 50, r, .inr ⟨by decide, fun e => absurd e hm⟩⟩
theorem list_one {c : Ck} {d : CD} {x : List UInt8} {H : AHeap} (ok : COk H c d) (hl : x.length ≤ 65531) : parse true (tlvB true c.k c.f x) = ([(c.k, c.f, x)], true) := by
  have hk := ok.k
  have := parse_tb (chunk := true) (x := (c.k, c.f, x)) ⟨by show c.k < 65536; omega, ok.f, fun _ => by show c.k ≤ 255; omega, (by simp), hl⟩ []
  rw [List.append_nil, parse_nil] at this
  exact this
end Go.Proofs.Ytmelgnpogdilgaa
namespace Go.Proofs.Ytmelgnpogdilgaa
set_option maxRecDepth 100000
attribute [local irreducible] Go GoR GoL
theorem takeR_cases {h' : AHeap} {v : Value} {r : Option PC} (t : TakeR h' v r) : ∃ (c : Ck) (d : CD) (e : Nat), v = .tuple #[c.v, .int .i64 e] ∧ COk h' c d ∧ ((e = 0 ∧ r = some (pcOf c d)) ∨ (e = 50 ∧ r = none)) := by
  cases r with
  | none => exact ⟨Ck.none 0, ⟨[], [], [], [], []⟩, 50, t, COk.base _ 0 0 (by decide) (by decide), .inr ⟨rfl, rfl⟩⟩
  | some p =>
    obtain ⟨c, d, rfl, ok, rfl⟩ := t
    exact ⟨c, d, 0, rfl, ok, .inl ⟨rfl, rfl⟩⟩
theorem oneB (l : List UInt8) : (l.map bv).all Value.oneCell' = true := List.all_eq_true.2 fun x hx => by obtain ⟨y, -, rfl⟩ := List.mem_map.1 hx; rfl
theorem pm4 {c : Ck} {d : CD} : (pmB c d).length % 4 = 0 := by
  unfold pmB
  rw [List.length_append, addrsB_len]
  split
  · unfold pB; split
    · rw [tlvB_length]; omega
    · simp; omega
  · simp; omega
set_option maxHeartbeats 32000000 in
theorem chunkParams_spec (c : Ck) (d : CD) (kind : Nat) (va : Option Addr) (vcap : Nat) (vz : List UInt8) (ba : Option Addr) (bcap : Nat) (bz : List UInt8) (hkd : kind < 65536) (h : AHeap) (ok : COk h c d) (hD : c.D.n ≤ 1048576) (hA : c.A.n ≤ 140737488355328) (hG : c.G.n ≤ 140737488355328) (hU : c.U.n ≤ 140737488355328) (hC : c.C.n ≤ 1048576) (hv : Rv Try.prog h 1 va vz.length vcap (vz.map bv)) (hbz : Rv Try.prog h 1 ba bz.length bcap (bz.map bv)) : CallS Try.prog [] 13 [c.v, .int .u16 kind, .slice va vz.length vcap, .slice ba bz.length bcap] h fun v h' => v = .bool true := by
  unfold Ck.v
  (refine CallS.of4 Try.func13 rfl Try.ntmps13 Try.results13 rfl ?_)
  (iterate 4 (first|refine GoR.end ?_|(refine GoR.gd rfl ?_;first|refine GoR.wanted' rfl rfl rfl rfl (g:=?_)|refine GoR.unwanted' rfl rfl rfl rfl (hd:=rfl) (hN:=rfl) (g:=?_)|refine GoR.unwantedU rfl rfl rfl rfl rfl rfl ?_)|(refine GoR.kk 0 rfl ?_;first|refine GoR.move rfl rfl rfl rfl rfl ?_|refine GoR.assign rfl rfl rfl rfl rfl ?_)|(refine GoR.kk 1 rfl ?_;first|refine GoR.load' rfl rfl rfl rfl rfl (g:=?_)|refine GoR.loadA' rfl rfl rfl rfl rfl (hv:=rfl) (g:=?_)|refine GoR.loadV' rfl rfl rfl rfl rfl (g:=?_)|refine GoR.loadVN' rfl rfl rfl rfl rfl (g:=?_))|(refine GoR.kk 2 rfl ?_;first|refine GoR.store' rfl rfl rfl rfl rfl (hl:=rfl) (h1:=rfl) (h3:=rfl) (g:=?_))|(refine GoR.kk 3 rfl ?_;first|refine GoR.fieldAddr rfl rfl rfl rfl rfl ?_|refine GoR.indexN' rfl rfl rfl rfl rfl rfl (g:=?_)|refine GoR.indexNs' rfl rfl rfl rfl rfl rfl (g:=?_)|refine GoR.indexV' rfl rfl rfl rfl rfl rfl (g:=?_)|refine GoR.indexA' rfl rfl rfl rfl rfl rfl (g:=?_)|refine GoR.fieldV' rfl rfl rfl rfl rfl (g:=?_))|(refine GoR.kk 4 rfl ?_;first|refine GoR.eq rfl rfl rfl rfl rfl rfl ?_|refine GoR.ne rfl rfl rfl rfl rfl rfl ?_|refine GoR.lt rfl rfl rfl rfl rfl rfl ?_|refine GoR.le rfl rfl rfl rfl rfl rfl ?_|refine GoR.gt rfl rfl rfl rfl rfl rfl ?_|refine GoR.ge rfl rfl rfl rfl rfl rfl ?_|refine GoR.addN' rfl rfl rfl rfl rfl rfl (g:=?_)|refine GoR.subN' rfl rfl rfl rfl rfl rfl (g:=?_)|refine GoR.add' rfl rfl rfl rfl rfl rfl (g:=?_)|refine GoR.sub' rfl rfl rfl rfl rfl rfl (g:=?_)|refine GoR.addM' rfl rfl rfl rfl rfl rfl (g:=?_)|refine GoR.subM' rfl rfl rfl rfl rfl rfl (g:=?_)|refine GoR.mulM' rfl rfl rfl rfl rfl rfl (g:=?_)|refine GoR.shrN rfl rfl rfl rfl rfl rfl rfl ?_|refine GoR.structEq rfl rfl rfl rfl rfl rfl (by rfl) (by rfl) ?_|refine GoR.structNe rfl rfl rfl rfl rfl rfl (by rfl) (by rfl) ?_|refine GoR.strEq rfl rfl rfl rfl rfl rfl ?_|refine GoR.strNe rfl rfl rfl rfl rfl rfl ?_|refine GoR.remN' rfl rfl rfl rfl rfl rfl (g:=?_)|refine GoR.quoN' rfl rfl rfl rfl rfl rfl (g:=?_)|refine GoR.shlN' rfl rfl rfl rfl rfl rfl rfl (g:=?_)|refine GoR.orN' rfl rfl rfl rfl rfl rfl (g:=?_))|(refine GoR.kk 5 rfl ?_;first|refine GoR.len rfl rfl rfl rfl rfl ?_|refine GoR.lenStr rfl rfl rfl rfl rfl ?_|refine GoR.capB rfl rfl rfl rfl rfl ?_)|(refine GoR.kk 7 rfl ?_;first|refine GoR.pickE' rfl rfl rfl rfl rfl (hx:=rfl) (hy:=rfl) (g:=?_)|refine GoR.pickN' rfl rfl rfl rfl rfl (hx:=rfl) (hy:=rfl) (g:=?_)|refine GoR.pickB rfl rfl rfl rfl rfl rfl rfl ?_)|(refine GoR.kk 8 rfl ?_;first|refine GoR.boxA rfl rfl rfl rfl rfl ?_|refine GoR.boxS rfl rfl rfl rfl rfl rfl ?_|refine GoR.alloc rfl rfl rfl rfl ?_)|(refine GoR.kk 9 rfl ?_;first|refine GoR.strV' rfl rfl rfl rfl rfl (g:=?_)|refine GoR.conv_u8 rfl rfl rfl rfl rfl ?_|refine GoR.convW' rfl rfl rfl rfl rfl (g:=?_)|refine GoR.conv_u16 rfl rfl rfl rfl rfl ?_|refine GoR.conv_u32 rfl rfl rfl rfl rfl ?_)|(refine GoR.kk 10 rfl ?_;first|refine GoR.build' rfl rfl rfl rfl rfl rfl (g:=?_))|(refine GoR.kk 11 rfl ?_;first|refine GoR.extract rfl rfl rfl rfl rfl rfl ?_|refine GoR.not rfl rfl rfl rfl rfl ?_|refine GoR.nilCheck rfl rfl rfl rfl rfl ?_|refine GoR.nilCheckF rfl rfl rfl rfl rfl ?_|refine GoR.makeFunc rfl rfl rfl rfl rfl rfl ?_)|(refine Go.kk 0 rfl ?_;refine Go.seq ?_)|(refine Go.kk 1 rfl ?_;refine Go.region (by kernel_rfl) rfl ?_)|(refine Go.kk 2 rfl ?_;refine Go.drawnQ rfl (by kernel_rfl) rfl ?_)|(refine Go.kk 3 rfl ?_;first|refine Go.cond_t' rfl (g:=?_)|refine Go.cond_f' rfl (g:=?_))|(refine Go.kk 4 rfl ?_;refine Go.block ?_)|(refine Go.kk 5 rfl ?_;first|refine Go.skip ?_|refine Go.ret ?_|refine Go.exit ?_|refine Go.scope ?_)|refine Go.leave_normal ?_|refine Go.leave_same ?_|refine Go.leave_ret ?_|refine Go.ret_code ?_|refine Go.exit_code ?_|refine Go.leave_other rfl ?_|refine Go.sc_normal ?_|refine Go.sc_ret ?_|refine Go.sc_exit ?_|refine Go.exit_back ?_|refine Go.ret_back ?_))
  refine GoR.name ?_
  intro h3 e3
  have G0 : h3.get h.n = some (.cells c.cs 57) := by subst e3; exact AHeap.get_push_same h _
  have n3 : h3.n = h.n + 1 := by subst e3; rfl
  have S3 : Same h h3 := by subst e3; exact (Same.refl h).push _
  clear e3
  unfold Ck.cs at G0
  (refine Go.run (g:=?_))
  refine GoR.call rfl rfl rfl rfl rfl rfl rfl (((known05 _).args (by first | rfl | (simp; fail_if_success focus skip) | (simp; omega) | (congr 2; omega))).mono ?_)
  rintro _ h3' ⟨rfl, rfl⟩ -
  (refine Go.run (g:=?_))
  refine GoR.call rfl rfl rfl rfl rfl rfl rfl (((cput_spec c d _ (ok.same S3) (by omega) (by omega)).args (by first | rfl | (simp; fail_if_success focus skip) | (simp; omega) | (congr 2; omega))).mono ?_)
  intro v4 h4 hv4 s4
  (have nn := (s4).1; try simp only [AHeap.n_push, AHeap.n_put] at nn)
  have G4 := s4.get G0
  have S4 := S3.trans s4
  obtain ⟨b4, m4, c4, e4, rfl, hcase⟩ := putR_cases hv4
  clear hv4 s4 G0 S3
  (iterate 8 (first|refine GoR.end ?_|(refine GoR.gd rfl ?_;first|refine GoR.wanted' rfl rfl rfl rfl (g:=?_)|refine GoR.unwanted' rfl rfl rfl rfl (hd:=rfl) (hN:=rfl) (g:=?_)|refine GoR.unwantedU rfl rfl rfl rfl rfl rfl ?_)|(refine GoR.kk 0 rfl ?_;first|refine GoR.move rfl rfl rfl rfl rfl ?_|refine GoR.assign rfl rfl rfl rfl rfl ?_)|(refine GoR.kk 1 rfl ?_;first|refine GoR.load' rfl rfl rfl rfl rfl (g:=?_)|refine GoR.loadA' rfl rfl rfl rfl rfl (hv:=rfl) (g:=?_)|refine GoR.loadV' rfl rfl rfl rfl rfl (g:=?_)|refine GoR.loadVN' rfl rfl rfl rfl rfl (g:=?_))|(refine GoR.kk 2 rfl ?_;first|refine GoR.store' rfl rfl rfl rfl rfl (hl:=rfl) (h1:=rfl) (h3:=rfl) (g:=?_))|(refine GoR.kk 3 rfl ?_;first|refine GoR.fieldAddr rfl rfl rfl rfl rfl ?_|refine GoR.indexN' rfl rfl rfl rfl rfl rfl (g:=?_)|refine GoR.indexNs' rfl rfl rfl rfl rfl rfl (g:=?_)|refine GoR.indexV' rfl rfl rfl rfl rfl rfl (g:=?_)|refine GoR.indexA' rfl rfl rfl rfl rfl rfl (g:=?_)|refine GoR.fieldV' rfl rfl rfl rfl rfl (g:=?_))|(refine GoR.kk 4 rfl ?_;first|refine GoR.eq rfl rfl rfl rfl rfl rfl ?_|refine GoR.ne rfl rfl rfl rfl rfl rfl ?_|refine GoR.lt rfl rfl rfl rfl rfl rfl ?_|refine GoR.le rfl rfl rfl rfl rfl rfl ?_|refine GoR.gt rfl rfl rfl rfl rfl rfl ?_|refine GoR.ge rfl rfl rfl rfl rfl rfl ?_|refine GoR.addN' rfl rfl rfl rfl rfl rfl (g:=?_)|refine GoR.subN' rfl rfl rfl rfl rfl rfl (g:=?_)|refine GoR.add' rfl rfl rfl rfl rfl rfl (g:=?_)|refine GoR.sub' rfl rfl rfl rfl rfl rfl (g:=?_)|refine GoR.addM' rfl rfl rfl rfl rfl rfl (g:=?_)|refine GoR.subM' rfl rfl rfl rfl rfl rfl (g:=?_)|refine GoR.mulM' rfl rfl rfl rfl rfl rfl (g:=?_)|refine GoR.shrN rfl rfl rfl rfl rfl rfl rfl ?_|refine GoR.structEq rfl rfl rfl rfl rfl rfl (by rfl) (by rfl) ?_|refine GoR.structNe rfl rfl rfl rfl rfl rfl (by rfl) (by rfl) ?_|refine GoR.strEq rfl rfl rfl rfl rfl rfl ?_|refine GoR.strNe rfl rfl rfl rfl rfl rfl ?_|refine GoR.remN' rfl rfl rfl rfl rfl rfl (g:=?_)|refine GoR.quoN' rfl rfl rfl rfl rfl rfl (g:=?_)|refine GoR.shlN' rfl rfl rfl rfl rfl rfl rfl (g:=?_)|refine GoR.orN' rfl rfl rfl rfl rfl rfl (g:=?_))|(refine GoR.kk 5 rfl ?_;first|refine GoR.len rfl rfl rfl rfl rfl ?_|refine GoR.lenStr rfl rfl rfl rfl rfl ?_|refine GoR.capB rfl rfl rfl rfl rfl ?_)|(refine GoR.kk 7 rfl ?_;first|refine GoR.pickE' rfl rfl rfl rfl rfl (hx:=rfl) (hy:=rfl) (g:=?_)|refine GoR.pickN' rfl rfl rfl rfl rfl (hx:=rfl) (hy:=rfl) (g:=?_)|refine GoR.pickB rfl rfl rfl rfl rfl rfl rfl ?_)|(refine GoR.kk 8 rfl ?_;first|refine GoR.boxA rfl rfl rfl rfl rfl ?_|refine GoR.boxS rfl rfl rfl rfl rfl rfl ?_|refine GoR.alloc rfl rfl rfl rfl ?_)|(refine GoR.kk 9 rfl ?_;first|refine GoR.strV' rfl rfl rfl rfl rfl (g:=?_)|refine GoR.conv_u8 rfl rfl rfl rfl rfl ?_|refine GoR.convW' rfl rfl rfl rfl rfl (g:=?_)|refine GoR.conv_u16 rfl rfl rfl rfl rfl ?_|refine GoR.conv_u32 rfl rfl rfl rfl rfl ?_)|(refine GoR.kk 10 rfl ?_;first|refine GoR.build' rfl rfl rfl rfl rfl rfl (g:=?_))|(refine GoR.kk 11 rfl ?_;first|refine GoR.extract rfl rfl rfl rfl rfl rfl ?_|refine GoR.not rfl rfl rfl rfl rfl ?_|refine GoR.nilCheck rfl rfl rfl rfl rfl ?_|refine GoR.nilCheckF rfl rfl rfl rfl rfl ?_|refine GoR.makeFunc rfl rfl rfl rfl rfl rfl ?_)|(refine Go.kk 0 rfl ?_;refine Go.seq ?_)|(refine Go.kk 1 rfl ?_;refine Go.region (by kernel_rfl) rfl ?_)|(refine Go.kk 2 rfl ?_;refine Go.drawnQ rfl (by kernel_rfl) rfl ?_)|(refine Go.kk 3 rfl ?_;first|refine Go.cond_t' rfl (g:=?_)|refine Go.cond_f' rfl (g:=?_))|(refine Go.kk 4 rfl ?_;refine Go.block ?_)|(refine Go.kk 5 rfl ?_;first|refine Go.skip ?_|refine Go.ret ?_|refine Go.exit ?_|refine Go.scope ?_)|refine Go.leave_normal ?_|refine Go.leave_same ?_|refine Go.leave_ret ?_|refine Go.ret_code ?_|refine Go.exit_code ?_|refine Go.leave_other rfl ?_|refine Go.sc_normal ?_|refine Go.sc_ret ?_|refine Go.sc_exit ?_|refine Go.exit_back ?_|refine Go.ret_back ?_))
  refine Go.join1 (α := AHeap × Bool) (fun x => [(64, .bool x.2), (4, .pointer (some ⟨h.n, 0, none⟩)), (1, .int .u16 kind), (2, .slice va vz.length vcap), (3, .slice ba bz.length bcap), (9, .slice b4 m4 c4)]) (fun _ => []) (fun x => x.1) (fun x => Same h4 x.1 ∧ (x.2 = false → c.D.n ≤ 100000 ∧ c.C.n ≤ 5000 ∧ e4 = 0 ∧ (c.k = 1 ∨ c.k = 2) ∧ kind ≠ 5 ∧ kind ≠ 7 ∧ m4 ≤ 4000 ∧ vz.length ≤ 500 ∧ bz.length ≤ 500)) ?_ ?_
  · clear hcase hv hbz
    (refine Go.run (g:=?_))
    refine GoR.call rfl rfl rfl rfl rfl rfl rfl (((great_spec c d _ (ok.same S4) (by omega) hA hG hU (by omega)).args (by first | rfl | (simp; fail_if_success focus skip) | (simp; omega) | (congr 2; omega))).mono ?_)
    rintro _ h5 ⟨t, rfl, ht⟩ s5
    (have nn := (s5).1; try simp only [AHeap.n_push, AHeap.n_put] at nn)
    have G5 := s5.get G4
    cases t
    case true =>
      (refine Go.run (g:=?_))
      exact Go.joined (h5, true) ⟨s5, fun e => by cases e⟩ ⟨rfl, rfl, rfl, rfl, rfl, rfl, trivial⟩ rfl rfl
    obtain ⟨hD', hC'⟩ := ht rfl
    clear ht G4
    by_cases z1 : e4 = 0
    case neg =>
      have z1' : ¬ (e4 : Int) = 0 := by omega
      (refine Go.run (g:=?_))
      exact Go.joined (h5, true) ⟨s5, fun e => by cases e⟩ ⟨rfl, rfl, rfl, rfl, rfl, rfl, trivial⟩ rfl rfl
    subst z1
    by_cases z2 : c.k = 1 ∨ c.k = 2
    case neg =>
      have z2' : ¬ (c.k : Int) = 1 := by omega
      have z2'' : ¬ (c.k : Int) = 2 := by omega
      (refine Go.run (g:=?_))
      exact Go.joined (h5, true) ⟨s5, fun e => by cases e⟩ ⟨rfl, rfl, rfl, rfl, rfl, rfl, trivial⟩ rfl rfl
    rcases Classical.em (c.k = 1) with y2 | y2
    · have z2' : (c.k : Int) = 1 := by omega
      by_cases z3 : kind = 5
      case pos =>
        have z3' : (kind : Int) = 5 := by omega
        (refine Go.run (g:=?_))
        exact Go.joined (h5, true) ⟨s5, fun e => by cases e⟩ ⟨rfl, rfl, rfl, rfl, rfl, rfl, trivial⟩ rfl rfl
      have z3' : ¬ (kind : Int) = 5 := by omega
      by_cases z4 : kind = 7
      case pos =>
        have z4' : (kind : Int) = 7 := by omega
        (refine Go.run (g:=?_))
        exact Go.joined (h5, true) ⟨s5, fun e => by cases e⟩ ⟨rfl, rfl, rfl, rfl, rfl, rfl, trivial⟩ rfl rfl
      have z4' : ¬ (kind : Int) = 7 := by omega
      by_cases z5 : 4000 < m4
      case pos =>
        (refine Go.run (g:=?_))
        exact Go.joined (h5, true) ⟨s5, fun e => by cases e⟩ ⟨rfl, rfl, rfl, rfl, rfl, rfl, trivial⟩ rfl rfl
      by_cases z6 : 500 < vz.length
      case pos =>
        (refine Go.run (g:=?_))
        exact Go.joined (h5, true) ⟨s5, fun e => by cases e⟩ ⟨rfl, rfl, rfl, rfl, rfl, rfl, trivial⟩ rfl rfl
      (refine Go.run (g:=?_))
      exact Go.joined (h5, decide ((500 : Int) < (bz.length : Int))) ⟨s5, fun e => by have := of_decide_eq_false e; exact ⟨hD', hC', rfl, z2, z3, z4, by omega, by omega, by omega⟩⟩ ⟨rfl, rfl, rfl, rfl, rfl, rfl, trivial⟩ rfl rfl
    · have z2' : ¬ (c.k : Int) = 1 := by omega
      have z2'' : (c.k : Int) = 2 := by omega
      by_cases z3 : kind = 5
      case pos =>
        have z3' : (kind : Int) = 5 := by omega
        (refine Go.run (g:=?_))
        exact Go.joined (h5, true) ⟨s5, fun e => by cases e⟩ ⟨rfl, rfl, rfl, rfl, rfl, rfl, trivial⟩ rfl rfl
      have z3' : ¬ (kind : Int) = 5 := by omega
      by_cases z4 : kind = 7
      case pos =>
        have z4' : (kind : Int) = 7 := by omega
        (refine Go.run (g:=?_))
        exact Go.joined (h5, true) ⟨s5, fun e => by cases e⟩ ⟨rfl, rfl, rfl, rfl, rfl, rfl, trivial⟩ rfl rfl
      have z4' : ¬ (kind : Int) = 7 := by omega
      by_cases z5 : 4000 < m4
      case pos =>
        (refine Go.run (g:=?_))
        exact Go.joined (h5, true) ⟨s5, fun e => by cases e⟩ ⟨rfl, rfl, rfl, rfl, rfl, rfl, trivial⟩ rfl rfl
      by_cases z6 : 500 < vz.length
      case pos =>
        (refine Go.run (g:=?_))
        exact Go.joined (h5, true) ⟨s5, fun e => by cases e⟩ ⟨rfl, rfl, rfl, rfl, rfl, rfl, trivial⟩ rfl rfl
      (refine Go.run (g:=?_))
      exact Go.joined (h5, decide ((500 : Int) < (bz.length : Int))) ⟨s5, fun e => by have := of_decide_eq_false e; exact ⟨hD', hC', rfl, z2, z3, z4, by omega, by omega, by omega⟩⟩ ⟨rfl, rfl, rfl, rfl, rfl, rfl, trivial⟩ rfl rfl
  rintro ⟨h6, tt⟩ ⟨s6, hf⟩
  dsimp only at s6 hf ⊢
  have n6 := s6.1
  have G6 := s6.get G4
  have S6 := S4.trans s6
  cases tt
  case true =>
    (refine Go.run (g:=?_))
    (first|refine Go.finT (by first|exact .inr rfl|exact .inl rfl) rfl ?_|refine Go.fin1 (by first|exact .inr rfl|exact .inl rfl) rfl (hq:=?_))
    rfl
  obtain ⟨hD', hC', rfl, hk12, z3, z4, z5, z6, z7⟩ := hf rfl
  clear hf
  rcases hcase with ⟨-, x, hm, hx, hl, rfl, hb⟩ | ⟨he, -⟩
  case inr => exact absurd rfl he
  have okk := ok.k
  have hp := list_one ok hl
  obtain ⟨hx1, hxd⟩ := cval_split hk12 hx
  have hxl := congrArg List.length hx1
  rw [List.length_append, hB_len] at hxl
  have hp4 := pm4 (c := c) (d := d)
  obtain ⟨-, m1, m2, m3, -⟩ := may_clean hm
  have hpt : Puts false (kind, 0, vz) := ⟨hkd, (by simp), (by simp), fun _ => rfl, by show vz.length ≤ 65531; omega⟩
  have hlen : (tlvB true c.k c.f x).length ≤ 4000 := z5
  have hpl : (pmB c d).length ≤ 4000 := by have e := hlen; rw [tlvB_length] at e; omega
  (refine Go.run (g:=?_))
  refine GoR.call rfl rfl rfl rfl rfl rfl rfl (((put_ok false kind 0 va vcap (by simp) (fun _ => rfl) (by decide) vz (by omega) _ (hv.same S6)).args (by first | rfl | (simp; fail_if_success focus skip) | (simp; omega) | (congr 2; omega))).mono ?_)
  rintro _ h7 ⟨b7, rfl, hb7, ob7⟩ s7
  (have nn := (s7).1; try simp only [AHeap.n_push, AHeap.n_put] at nn)
  have G7 := s7.get G6
  have S7 := S6.trans s7
  (refine Go.run (g:=?_))
  refine GoR.call rfl rfl rfl rfl rfl rfl rfl (((list_spec true b4 _ c4 (tlvB true c.k c.f x) rfl (by omega) _ ((hb.same s6).same s7)).args (by first | rfl | (simp; fail_if_success focus skip) | (simp; omega) | (congr 2; omega))).mono ?_)
  rw [hp]
  simp only [if_true]
  rintro _ h8 ⟨b8, c8, ts, rfl, hts, row⟩ s8
  match ts, hts, row with
  | [⟨tk, tf, tz, ta, tc⟩], hts, row =>
  simp only [List.map_cons, List.map_nil, TV.thing, List.cons.injEq, Prod.mk.injEq, and_true] at hts
  obtain ⟨rfl, rfl, rfl⟩ := hts
  have r8 : Rv Try.prog h8 3 b8 1 c8 [.int .u16 c.k, .int .u8 c.f, .slice ta tz.length tc] := row.sv.rv
  have v8 : Rv Try.prog h8 1 ta tz.length tc (tz.map bv) := row.tv _ (List.mem_singleton_self _)
  have r7 := (hb7.rv (P := Try.prog)).same s8
  clear row hb hp hlen hb7
  obtain ⟨cs8, hcs⟩ : ∃ l : List Value, l = [.int .u16 c.k, .int .u8 c.f, .slice ta tz.length tc] := ⟨_, rfl⟩
  rw [← hcs] at r8
  have q0 : 0 * 3 < cs8.length := by subst hcs; exact Nat.zero_lt_succ _
  have q2 : cs8[0 * 3 + 2]? = some (.slice ta tz.length tc) := by subst hcs; rfl
  have q3 : (cs8.drop (0 * 3)).take 3 = [.int .u16 c.k, .int .u8 c.f, .slice ta tz.length tc] := by subst hcs; rfl
  have q4 : 0 * 3 + 3 ≤ cs8.length := by subst hcs; exact Nat.le_refl _
  clear hcs
  (have nn := (s8).1; try simp only [AHeap.n_push, AHeap.n_put] at nn)
  have G8 := s8.get G7
  have S8 := S7.trans s8
  try simp only [List.length_singleton]
  (refine Go.run (g:=?_))
  refine GoR.bHi (r := 16) rfl rfl rfl rfl rfl rfl v8 (by omega) ?_
  intro fa hfa bfa
  (refine Go.run (g:=?_))
  refine GoR.bLo (l := 16) rfl rfl rfl rfl rfl rfl v8 (by omega) ?_
  intro pa hpa bpa
  rw [hx1, List.take_left' (hB_len c)] at hfa
  have ep : (List.drop 16 tz).take (tz.length - 16) = pmB c d := by
    rw [hx1, List.drop_left' (hB_len c), List.length_append, hB_len]
    exact List.take_of_length_le (by omega)
  have el : tz.length - 16 = (pmB c d).length := by omega
  rw [ep, el] at hpa
  rw [el]
  (refine Go.run (g:=?_))
  refine Go.loop (α := Unit) (fun _ => [(15, .slice pa (pmB c d).length (tc - 16)), (14, .slice fa 16 tc), (12, .slice b8 1 c8), (11, .slice b7 (tlvB false kind 0 vz).length (tlvB false kind 0 vz).length), (4, .pointer (some ⟨h.n, 0, none⟩)), (1, .int .u16 kind), (3, .slice ba bz.length bcap)]) (fun _ => []) (fun _ => h8) (fun _ => True) (fun _ => 0) () trivial ⟨rfl, rfl, rfl, rfl, rfl, rfl, rfl, trivial⟩ rfl rfl ?_
  rintro ⟨⟩ -
  have hp4' : (((pmB c d).length % 4 : Nat) : Int) = 0 := by omega
  (refine Go.run (g:=?_))
  refine GoR.name ?_
  intro h9 e9
  have s9 : Same h8 h9 := by subst e9; exact ((Same.refl h8).push _).put (Nat.le_refl _) _
  have n9 : h9.n = h8.n + 1 := by subst e9; rfl
  have g9 : h9.get h8.n = some (.cells [.int .u16 c.k, .int .u8 c.f, .slice ta tz.length tc] 25) := by subst e9; exact AHeap.get_put_same _ (by simp) _
  clear e9
  have pl : (tlvB false kind 0 vz).length ≤ 600 := by rw [tlvB_length]; omega
  refine GoR.buildO (c := []) rfl rfl rfl rfl rfl (by decide) (by rfl) (by rfl) ?_
  intro be he ve oe se ne
  (refine Go.run (g:=?_))
  refine GoR.appendV rfl rfl rfl rfl rfl rfl ve ((hfa.same s9).same se) (fun i hi => .inr (by have := oe i hi; omega)) (by omega) (by omega) (oneB _) ?_
  intro a1 c1 h10 v1 k1 o1
  rw [Nat.zero_add, List.nil_append] at v1
  have s10 : Same h9 h10 := se.ownO k1 oe (Nat.le_refl _)
  have ow1 : Own h9.n a1 := oe.app se.1 o1
  have n10 := s10.1
  (refine Go.run (g:=?_))
  refine GoR.appendV rfl rfl rfl rfl rfl rfl v1 ((r7.same s9).same s10) (fun i hi => .inr (by have := ow1 i hi; omega)) (by omega) (by omega) (oneB _) ?_
  intro a2 c2 h11 v2 k2 o2
  have s11 : Same h9 h11 := s10.ownO k2 ow1 (Nat.le_refl _)
  have ow2 : Own h9.n a2 := ow1.app s10.1 o2
  have n11 := s11.1
  (refine Go.run (g:=?_))
  refine GoR.appendV rfl rfl rfl rfl rfl rfl v2 ((hpa.same s9).same s11) (fun i hi => .inr (by have := ow2 i hi; omega)) (by omega) (by omega) (oneB _) ?_
  intro a3 c3 h12 v3 k3 o3
  have s12 : Same h9 h12 := s11.ownO k3 ow2 (Nat.le_refl _)
  have ow3 : Own h9.n a3 := ow2.app s11.1 o3
  have n12 := s12.1
  obtain ⟨z1, hz1⟩ : ∃ z, z = hB c ++ (tlvB false kind 0 vz ++ pmB c d) := ⟨_, rfl⟩
  have e3 : 0 + 16 + (tlvB false kind 0 vz).length + (pmB c d).length = z1.length := by subst hz1; simp only [List.length_append, hB_len]; omega
  have e3' : 16 + (tlvB false kind 0 vz).length + (pmB c d).length = z1.length := by omega
  rw [e3', ← List.map_append, ← List.map_append, List.append_assoc, ← hz1] at v3
  have g12 := s12.get g9
  simp only [e3, e3']
  (refine Go.run (g:=?_))
  refine GoR.name ?_
  intro h13 e13
  have s13 : Same h8 h13 := by subst e13; exact (s9.trans s12).put (Nat.le_refl _) _
  have k13 : Keeps [h8.n] h12 h13 := by subst e13; exact (Keeps.rfl [h8.n] h12).put (List.mem_singleton.2 rfl) _
  have g13 : h13.get h8.n = some (.cells [.int .u16 c.k, .int .u8 c.f, .slice a3 z1.length c3] 25) := by subst e13; exact AHeap.get_put_same _ (by omega) _
  have v13 := v3.keeps k13 (fun i hi hm => by simp only [List.mem_singleton] at hm; have := ow3 i hi; omega)
  have n13 := s13.1
  have m13 : h8.n < h13.n := by have e := congrArg AHeap.n e13; simp only [AHeap.n_put] at e; omega
  clear e13 k13 v3 v2 v1 ve g12 k1 k2 k3 o1 o2 o3 s10 s11
  refine GoR.call rfl rfl rfl rfl rfl rfl rfl (((ctake_spec c.k c.f a3 c3 z1 (by omega) ok.f (by omega) _ v13.rv).args (by first | rfl | (simp; fail_if_success focus skip) | (simp; omega) | (congr 2; omega))).mono ?_)
  intro v14 h14 hv14 s14
  (have nn := (s14).1; try simp only [AHeap.n_push, AHeap.n_put] at nn)
  have g14 := s14.get g13
  have S14 := s13.trans s14
  have G14 := S14.get G8
  obtain ⟨c', d', e', rfl, ok', hc'⟩ := takeR_cases hv14
  clear hv14 v13
  (refine Go.run (g:=?_))
  refine Go.name ?_
  intro h15 e15
  have s15 : Same h14 h15 := by subst e15; exact ((Same.refl h14).push _).put (Nat.le_refl _) _
  have n15 : h15.n = h14.n + 1 := by subst e15; rfl
  have g15 : h15.get h14.n = some (.cells c'.cs 57) := by subst e15; exact AHeap.get_put_same _ (by simp) _
  clear e15
  unfold Ck.cs at g15
  have S15 := S14.trans s15
  have G15 := s15.get G14
  have gt15 := s15.get g14
  rcases Nat.lt_or_ge kind 32768 with w | w
  case inr =>
    have w' : ((kind / 32768 : Nat) : Int) = 1 := by omega
    have w'' : ((kind / 2 ^ 15 : Nat) : Int) = 1 := by omega
    have ht := tk_ahead ok hm hk12 hxd hpt w
    rw [← hz1] at ht
    rcases hc' with ⟨rfl, hc'⟩ | ⟨-, hc'⟩
    case inr => rw [ht] at hc'; cases hc'
    rw [ht] at hc'
    have hpe := (Option.some.inj hc')
    (refine Go.run (g:=?_))
    refine GoR.call rfl rfl rfl rfl rfl rfl rfl (((same5_spec c c' d d' _ (ok.same (S8.trans S15)) (ok'.same s15) hpe (by omega) (by omega) (by omega) (by omega)).args (by first | rfl | (simp; fail_if_success focus skip) | (simp; omega) | (congr 2; omega))).mono ?_)
    rintro _ h16 rfl s16
    (refine Go.run (g:=?_))
    (first|refine Go.finT (by first|exact .inr rfl|exact .inl rfl) rfl ?_|refine Go.fin1 (by first|exact .inr rfl|exact .inl rfl) rfl (hq:=?_))
    rfl
  have w' : ¬ ((kind / 32768 : Nat) : Int) = 1 := by omega
  have w'' : ¬ ((kind / 2 ^ 15 : Nat) : Int) = 1 := by omega
  (refine Go.run (g:=?_))
  refine Go.name ?_
  intro h16 e16
  have s16 : Same h15 h16 := by subst e16; exact ((((Same.refl h15).push _).put (Nat.le_refl _) _).put (Nat.le_refl _) _).put (Nat.le_refl _) _
  have n16 : h16.n = h15.n + 1 := by subst e16; rfl
  have g16 : h16.get h15.n = some (.cells (bareC c).cs 57) := by subst e16; exact AHeap.get_put_same _ (by simp) _
  clear e16
  unfold Ck.cs bareC Sl.nil at g16
  dsimp only at g16
  have S16 := S15.trans s16
  have G16 := s16.get G15
  have gt16 := s16.get gt15
  have gc16 := s16.get g15
  clear G15 gt15 g15 G14 g14 G8 g9
  refine Go.join1 (α := AHeap) (fun _ => [(4, .pointer (some ⟨h.n, 0, none⟩)), (11, .slice b7 (tlvB false kind 0 vz).length (tlvB false kind 0 vz).length), (14, .slice fa 16 tc), (15, .slice pa (pmB c d).length (tc - 16)), (3, .slice ba bz.length bcap), (16, .pointer (some ⟨h8.n, 0, none⟩)), (17, .pointer (some ⟨h14.n, 0, none⟩))]) (fun _ => []) (fun h' => h') (fun h' => Same h16 h') ?_ ?_
  · have ht := tk_bare ok hm hk12 hpt z3 z4 w (pmB c d)
    rw [← hz1] at ht
    by_cases k1 : c.k = 1
    · rw [if_pos k1] at ht
      have k1' : ¬ (c.k : Int) = 2 := by omega
      rcases hc' with ⟨rfl, hc'⟩ | ⟨-, hc'⟩
      case inr => rw [ht] at hc'; cases hc'
      have hpe := Option.some.inj (hc'.symm.trans ht)
      have hbb := tk_bounds ok' hc'
      have z1l : z1.length ≤ 10000 := by omega
      (refine Go.run (g:=?_))
      refine GoR.call rfl rfl rfl rfl rfl rfl rfl (((same5_spec c' (bareC c) d' (bareD d) _ ((ok'.same s15).same s16) (ok.same (S8.trans S16)).bare hpe (by omega) (by omega) (by omega) (by omega)).args (by first | rfl | (simp; fail_if_success focus skip) | (simp; omega) | (congr 2; omega))).mono ?_)
      rintro _ h17 rfl s17
      (refine Go.run (g:=?_))
      exact Go.joined h17 s17 ⟨rfl, rfl, rfl, rfl, rfl, rfl, rfl, trivial⟩ rfl rfl
    · rw [if_neg k1] at ht
      have k1' : (c.k : Int) = 2 := by omega
      rcases hc' with ⟨-, hc'⟩ | ⟨rfl, -⟩
      case inl => rw [ht] at hc'; cases hc'
      (refine Go.run (g:=?_))
      exact Go.joined h16 (Same.refl _) ⟨rfl, rfl, rfl, rfl, rfl, rfl, rfl, trivial⟩ rfl rfl
  intro h17 s17
  have n17 := s17.1
  have S17 := S16.trans s17
  have G17 := s17.get G16
  have gt17 := s17.get gt16
  have gc17 := s17.get gc16
  clear hc' ok' g16 G16 gt16 gc16 G7 G6 G4
  (refine Go.run (g:=?_))
  refine GoR.buildO (c := []) rfl rfl rfl rfl rfl (by decide) (by rfl) (by rfl) ?_
  intro be he ve oe se ne
  (refine Go.run (g:=?_))
  refine GoR.appendV rfl rfl rfl rfl rfl rfl ve ((hfa.same S17).same se) (fun i hi => .inr (by have := oe i hi; omega)) (by omega) (by omega) (oneB _) ?_
  intro a1 c1 h10 v1 k1 o1
  rw [Nat.zero_add, List.nil_append] at v1
  have s10 : Same h17 h10 := se.ownO k1 oe (Nat.le_refl _)
  have ow1 : Own h17.n a1 := oe.app se.1 o1
  have n10 := s10.1
  (refine Go.run (g:=?_))
  refine GoR.appendV rfl rfl rfl rfl rfl rfl v1 ((hpa.same S17).same s10) (fun i hi => .inr (by have := ow1 i hi; omega)) (by omega) (by omega) (oneB _) ?_
  intro a2 c2 h11 v2 k2 o2
  have s11 : Same h17 h11 := s10.ownO k2 ow1 (Nat.le_refl _)
  have ow2 : Own h17.n a2 := ow1.app s10.1 o2
  have n11 := s11.1
  (refine Go.run (g:=?_))
  refine GoR.appendV rfl rfl rfl rfl rfl rfl v2 ((r7.same S17).same s11) (fun i hi => .inr (by have := ow2 i hi; omega)) (by omega) (by omega) (oneB _) ?_
  intro a3 c3 h12 v3 k3 o3
  have s12 : Same h17 h12 := s11.ownO k3 ow2 (Nat.le_refl _)
  have ow3 : Own h17.n a3 := ow2.app s11.1 o3
  have n12 := s12.1
  (refine Go.run (g:=?_))
  refine GoR.appendV rfl rfl rfl rfl rfl rfl v3 ((hbz.same (S8.trans S17)).same s12) (fun i hi => .inr (by have := ow3 i hi; omega)) (by omega) (by omega) (oneB _) ?_
  intro a4 c4' h18 v4 k4 o4
  have s18 : Same h17 h18 := s12.ownO k4 ow3 (Nat.le_refl _)
  have ow4 : Own h17.n a4 := ow3.app s12.1 o4
  have n18 := s18.1
  obtain ⟨z2, hz2⟩ : ∃ z, z = hB c ++ (pmB c d ++ (tlvB false kind 0 vz ++ bz)) := ⟨_, rfl⟩
  have e4 : 0 + 16 + (pmB c d).length + (tlvB false kind 0 vz).length + bz.length = z2.length := by subst hz2; simp only [List.length_append, hB_len]; omega
  have e4' : 16 + (pmB c d).length + (tlvB false kind 0 vz).length + bz.length = z2.length := by omega
  rw [e4', ← List.map_append, ← List.map_append, ← List.map_append, List.append_assoc, List.append_assoc, ← hz2] at v4
  have gt18 := s18.get gt17
  have gc18 := s18.get gc17
  have G18 := s18.get G17
  simp only [e4, e4']
  (refine Go.run (g:=?_))
  refine GoR.name ?_
  intro h19 e19
  have s19 : Same h8 h19 := by subst e19; exact (S17.trans s18).put (Nat.le_refl _) _
  have k19 : Keeps [h8.n] h18 h19 := by subst e19; exact (Keeps.rfl [h8.n] h18).put (List.mem_singleton.2 rfl) _
  have v19 := v4.keeps k19 (fun i hi hm => by simp only [List.mem_singleton] at hm; have := ow4 i hi; omega)
  have gc19 := k19.get gc18 (by simp only [List.mem_singleton]; omega)
  have G19 := k19.get G18 (by simp only [List.mem_singleton]; omega)
  have n19 := k19.1
  clear e19 v4 v3 v2 v1 ve gt18 gc18 G18
  refine GoR.call rfl rfl rfl rfl rfl rfl rfl (((ctake_own c.k c.f a4 c4' z2 (by omega) ok.f (by omega) _ v19.rv).args (by first | rfl | (simp; fail_if_success focus skip) | (simp; omega) | (congr 2; omega))).mono ?_)
  intro v20 h20 hv20 s20
  (have nn := (s20).1; try simp only [AHeap.n_push, AHeap.n_put] at nn)
  have ht := tk_behind ok hm hk12 hxd hpt z3 z4 w bz
  rw [← hz2] at ht
  rw [ht] at hv20
  obtain ⟨c', d', rfl, ok', ap', hpe⟩ := hv20
  have m19 := k19.1
  have G20 := s20.get G19
  have gc20 := s20.get gc19
  have S20 := s19.trans s20
  (refine Go.run (g:=?_))
  refine GoR.name ?_
  intro h21 e21
  have k21 : Keeps [h14.n] h20 h21 := by subst e21; exact (Keeps.rfl [h14.n] h20).put (List.mem_singleton.2 rfl) _
  have ok21 : COk h21 c' d' := by subst e21; exact ok'.put ap' (by omega) _
  have g21 : h21.get h14.n = some (.cells c'.cs 57) := by subst e21; exact AHeap.get_put_same _ (by omega) _
  have S21 : Same h8 h21 := by subst e21; exact S20.put (by omega) _
  have m21 := k21.1
  clear e21
  unfold Ck.cs at g21
  have G21 := k21.get G20 (by simp only [List.mem_singleton]; omega)
  (refine Go.run (g:=?_))
  refine GoR.call rfl rfl rfl rfl rfl rfl rfl (((same5_spec c c' d d' _ (ok.same (S8.trans S21)) ok21 hpe.symm (by omega) (by omega) (by omega) (by omega)).args (by first | rfl | (simp; fail_if_success focus skip) | (simp; omega) | (congr 2; omega))).mono ?_)
  rintro _ h22 rfl s22
  (refine Go.run (g:=?_))
  (first|refine Go.finT (by first|exact .inr rfl|exact .inl rfl) rfl ?_|refine Go.fin1 (by first|exact .inr rfl|exact .inl rfl) rfl (hq:=?_))
  rfl
end Go.Proofs.Ytmelgnpogdilgaa
namespace Go
open Go.ChangeShapes
variable {H : Type} {enc : TypeId × Value → H}
theorem returnsInHanded_of_cond_sized' {a : Assume} {C : Checked} {os : Os} {f : FuncId} {fn : Func} {s : OpenSpec} {k : (H : Type) → List (DataW H) → Bool} (hk : s.cond = some k) {F : Stop.Interp} {conds : List PathCond} {apart fresh handsOn again : Bool}
    (own : ownKnob C.prog.godebug = none) (started : os.Started) (noInit : C.prog.inits.idxOf? f = none) (hfn : C.prog.funcs[f]? = some fn)
    (witness : ∃ (w : World) (tape : Tape) (i : Input), w.os = os ∧ (w.forCall tape i).Shaped C.prog ∧ i.vars = [] ∧ Input.okWide C.prog (w.forCall tape i) .any w.heap.size f i ∧
      s.pre6 enc C.prog fn conds apart (w.forCall tape i).memory i.args ∧ a.holds C.prog (lone (Frame.enter C.prog f i.args .normal) [] (w.forCall tape i)))
    (contract : ∀ (W : World) (base : Nat) (args : Array Value) (ds gs : List (DataW H)) (before : List MemPlace),
      (∀ (j : Nat) t v, fn.params[j]? = some t → args[j]? = some v → Value.okWide C.prog W .any base t v) →
      DataW.Whole enc C.prog fn.params.toList s.vars apart W args.toList ds gs before →
      conds.all (PathCond.test C.prog ⟨fn.params.toList, ds, s.bare.plain.varTypes C.prog, gs⟩) = true → k H (ds ++ gs) = true →
      (DataW.weightsEach C.prog (fn.params.toList ++ s.bare.plain.varTypes C.prog) (ds ++ gs)).all (· ≤ reachBytes) = true →
      a.holds C.prog (lone (Frame.enter C.prog f args .normal) [] W) →
      Calls C.prog f args W fun e W' => ∃ v, e = .returned v ∧ (s.at F).post enc C.prog fn apart fresh handsOn again W args v W') :
    ReturnsInHanded a C os f .any (s.pre6 enc C.prog fn conds apart) ((s.at F).post enc C.prog fn apart fresh handsOn again) := by
  refine returnsInHanded_of_calls own started noInit witness ?_
  intro w tape i _ _ _ hok hpre hholds
  obtain ⟨_, _, _, fn', hfn', _, _, _, _, hval⟩ := hok
  have e : fn' = fn := Option.some.inj (hfn'.symm.trans hfn)
  subst e
  obtain ⟨ds, gs, before, hw, hc, hkk⟩ := (OpenSpec.pre_some hk conds apart _ _).1 hpre.1
  have hz := hpre.2.weights hw
  have hw' := DataW.Whole.of_heap (w' := w.forCall tape i) (by rfl) hw
  refine (contract (w.forCall tape i) w.heap.size i.args ds gs before hval hw' hc hkk hz hholds).mono fun e W' ⟨v, he, hp⟩ => ?_
  subst he
  exact ChangeSpec.post_blind hp
end Go
namespace Go.Proofs.Ytmelgnpogdilgaa
section
variable {P : Program} {h : AHeap} {H : Type}
open _root_.Go.Proofs.Ytmelgnpogdilgaa.Rows
theorem bulk_pos (d : DataW H) : 1 ≤ uptoBulk d := by
  cases d <;> (unfold uptoBulk; first | omega | (split <;> omega))
theorem bulk_mem : ∀ {ds : List (DataW H)} {d : DataW H}, d ∈ ds → uptoBulk d ≤ uptoBulkAll ds
  | x :: ds, d, hd => by
    simp only [uptoBulkAll]
    rcases List.mem_cons.1 hd with rfl | hd
    · omega
    · have := bulk_mem hd; omega
theorem bulk_len : ∀ (ds : List (DataW H)), ds.length ≤ uptoBulkAll ds
  | [] => Nat.le_refl _
  | x :: ds => by
    have := bulk_len ds
    have := bulk_pos x
    simp only [uptoBulkAll, List.length_cons]; omega
theorem ARd.bulk_slice {t e : TypeId} {a : Option Addr} {len cap : Nat} {d : DataW H} (r : ARd P h t [.slice a len cap] d) (hu : P.underlying t = some (.slice e)) : len ≤ uptoBulk d := by
  cases r with
  | snil hu' => exact Nat.zero_le _
  | slice hu' hR hm hl he =>
    rename_i ds rest
    have := bulk_len ds
    unfold uptoBulk
    omega
  | struct hu' => rw [hu] at hu'; cases hu'
theorem ARd.fieldB {t : TypeId} {fs : Array Field} {cs : List Value} {d : DataW H} (r : ARd P h t cs d) {B : Nat} (z : uptoBulk d ≤ B) (hu : P.underlying t = some (.struct fs)) : ∀ (i ty off sz : Nat), (fs[i]?).map (fun f => (f.type, f.offset)) = some (ty, off) → P.cellsOf ty = sz → ∃ d', ARd (H := H) P h ty ((cs.drop off).take sz) d' ∧ uptoBulk d' ≤ B := by
  cases r with
  | struct hu' hl hx hf =>
    rw [hu] at hu'; cases hu'
    refine fun i ty off sz e hs => ?_
    subst hs
    cases hq : fs[i]? with
    | none => simp [hq] at e
    | some f =>
      simp only [hq, Option.map_some, Option.some.injEq, Prod.mk.injEq] at e
      obtain ⟨rfl, rfl⟩ := e
      have hi := (Array.getElem?_eq_some_iff.1 hq).1
      rename_i xs
      refine ⟨_, hf i f xs[i] hq (List.getElem?_eq_getElem (by omega)), ?_⟩
      have := bulk_mem (List.getElem_mem (l := xs) (show i < xs.length by omega))
      unfold uptoBulk at z
      omega
  | bool hu' => rw [hu] at hu'; cases hu'
  | int hu' hw => rw [hu] at hu'; cases hu'
  | str hu' => rw [hu] at hu'; cases hu'
  | snil hu' => rw [hu] at hu'; cases hu'
  | slice hu' => rw [hu] at hu'; cases hu'
theorem small_mem {ds : List (DataW H)} (h : uptoSmall H ds = true) {d : DataW H} {j : Nat} (hd : ds[j]? = some d) : uptoBulk d ≤ 1048576 := by
  have := of_decide_eq_true h
  exact Nat.le_trans (bulk_mem (List.mem_of_getElem? hd)) this
end
end Go.Proofs.Ytmelgnpogdilgaa
namespace Go.Proofs.Ytmelgnpogdilgaa
theorem u8b : Try.prog.underlying 5 = some (.int .u8) := by kernel_rfl
theorem u16b : Try.prog.underlying 22 = some (.int .u16) := by kernel_rfl
theorem bytesB : Try.prog.underlying 23 = some (.slice 5) := by kernel_rfl
end Go.Proofs.Ytmelgnpogdilgaa
namespace Go.Proofs.Ytmelgnpogdilgaa
set_option maxRecDepth 100000
open Go.ChangeShapes Go.WideShapes Go.ChangeAt Go.RowKit
theorem u8W5 : Try.prog.bytesOf 5 = 1 := by kernel_rfl
theorem u32b : Try.prog.underlying 44 = some (.int .u32) := by kernel_rfl
theorem u32sB : Try.prog.underlying 53 = some (.slice 44) := by kernel_rfl
theorem gapsB' : Try.prog.underlying 54 = some (.slice 82) := by kernel_rfl
theorem causesB' : Try.prog.underlying 55 = some (.slice 84) := by kernel_rfl
theorem cells_of {α : Type} {f : α → List Value} {sz : Nat} : ∀ (len : Nat) (c : List Value), c.length = len * sz → (∀ i, i < len → ∃ x, (c.drop (i * sz)).take sz = f x) → ∃ l : List α, l.length = len ∧ c = (l.map f).flatten
  | 0, c, hl, _ => ⟨[], rfl, by simpa using hl⟩
  | n + 1, c, hl, each => by
    obtain ⟨x, e⟩ := each 0 (by omega)
    rw [Nat.zero_mul, List.drop_zero] at e
    obtain ⟨l, i1, i2⟩ := cells_of (f := f) (sz := sz) n (c.drop sz) (by rw [List.length_drop, hl, Nat.add_mul]; omega) fun i hi => by
      have := each (i + 1) (by omega)
      rwa [Nat.add_mul, Nat.one_mul, Nat.add_comm, ← List.drop_drop] at this
    exact ⟨x :: l, by simp [i1], by rw [List.map_cons, List.flatten_cons, ← e, ← i2, List.take_append_drop]⟩
theorem gap_of {h : AHeap} {H : Type} {cs : List Value} {d : DataW H} (r : ARd Try.prog h 82 cs d) : ∃ x : Nat × Nat, cs = gC x ∧ x.1 < 65536 ∧ x.2 < 65536 := by
  obtain ⟨hl, hf⟩ := r.field Try.underlying82
  rw [show Try.prog.cellsOf 82 = 2 from by kernel_rfl] at hl
  match cs, hl with
  | [c0, c1], _ =>
    obtain ⟨d0, r0⟩ := hf 0 22 0 1 rfl (by kernel_rfl)
    obtain ⟨d1, r1⟩ := hf 1 22 1 1 rfl (by kernel_rfl)
    obtain ⟨n, e0, b0⟩ := r0.u_inv rfl u16b
    obtain ⟨k, e1, b1⟩ := r1.u_inv rfl u16b
    simp at e0 e1
    subst e0 e1
    exact ⟨(n, k), rfl, b0, b1⟩
theorem cause_of {h : AHeap} {H : Type} {cs : List Value} {d : DataW H} (r : ARd Try.prog h 84 cs d) (z : Sized Try.prog 84 d) : ∃ x : CV, cs = cvC x ∧ x.k < 65536 ∧ x.z.length ≤ 140737488355328 ∧ Rv Try.prog h 1 x.a x.z.length x.cap (x.z.map bv) := by
  obtain ⟨hl, hf⟩ := r.fieldZ z Try.underlying84
  rw [show Try.prog.cellsOf 84 = 2 from by kernel_rfl] at hl
  match cs, hl with
  | [c0, c1], _ =>
    obtain ⟨d0, r0, -⟩ := hf 0 22 0 1 rfl (by kernel_rfl)
    obtain ⟨d1, r1, z1⟩ := hf 1 23 1 1 rfl (by kernel_rfl)
    obtain ⟨n, e0, b0⟩ := r0.u_inv rfl u16b
    obtain ⟨a, cap, zs, e1, hR, hm, hZ⟩ := r1.bytesZ z1 bytesB u8b (by kernel_rfl) u8W5
    simp at e0 e1
    subst e0 e1
    exact ⟨⟨n, a, cap, zs⟩, rfl, b0, hZ, hR⟩
theorem cells_of' {α : Type} {f : α → List Value} {p : α → Prop} {sz : Nat} (len : Nat) (c : List Value) (hl : c.length = len * sz) (each : ∀ i, i < len → ∃ x, (c.drop (i * sz)).take sz = f x ∧ p x) : ∃ l : List α, l.length = len ∧ c = (l.map f).flatten ∧ ∀ x ∈ l, p x := by
  obtain ⟨l, h1, h2⟩ := cells_of (f := fun x : {x : α // p x} => f x.1) len c hl fun i hi => let ⟨x, a, b⟩ := each i hi; ⟨⟨x, b⟩, a⟩
  refine ⟨l.map (·.1), by simpa using h1, by rw [h2, List.map_map]; rfl, fun x hx => ?_⟩
  obtain ⟨y, hy, rfl⟩ := List.mem_map.1 hx
  exact y.2
theorem w32_of {h : AHeap} {H : Type} {cs : List Value} {d : DataW H} (r : ARd Try.prog h 53 cs d) (z : Sized Try.prog 53 d) : ∃ (s : Sl) (l : List Nat), cs = [.slice s.a s.n s.cap] ∧ l.length = s.n ∧ Rv Try.prog h 1 s.a s.n s.cap (w32s l) ∧ (∀ x ∈ l, x < 4294967296) ∧ s.n ≤ 140737488355328 ∧ s.cap ≤ maxLen := by
  obtain ⟨a, len, cap, c, rfl, hR, hm, hb, hel⟩ := r.slice_invZ z u32sB
  rw [show Try.prog.cellsOf 44 = 1 from by kernel_rfl] at hR hel
  rw [show Try.prog.bytesOf 44 = 4 from by kernel_rfl] at hb
  obtain ⟨l, rfl, rfl, hp⟩ := cells_of' (f := fun n : Nat => [Value.int .u32 (n : Int)]) (p := fun n => n < 4294967296) len c hR.length fun i hi => by
    obtain ⟨d', r, -⟩ := hel i hi
    obtain ⟨n, e0, hn⟩ := r.u_inv rfl u32b
    exact ⟨n, e0, hn⟩
  have e : ((l.map fun n : Nat => [Value.int .u32 (n : Int)]).flatten) = w32s l := by
    clear hR hel hp hb hm r z
    induction l with
    | nil => rfl
    | cons x l ih => simp only [w32s, List.map_cons, List.flatten_cons, List.cons_append, List.nil_append] at ih ⊢; rw [ih]
  rw [e] at hR
  exact ⟨⟨a, l.length, cap⟩, l, rfl, rfl, hR, hp, Nat.le_trans (Nat.le_mul_of_pos_right _ (by decide)) (Nat.le_trans hb (by have := reachBytes_lt; omega)), hm⟩
theorem gaps_of {h : AHeap} {H : Type} {cs : List Value} {d : DataW H} (r : ARd Try.prog h 54 cs d) (z : Sized Try.prog 54 d) : ∃ (s : Sl) (l : List (Nat × Nat)), cs = [.slice s.a s.n s.cap] ∧ l.length = s.n ∧ Rv Try.prog h 2 s.a s.n s.cap (gcs l) ∧ (∀ x ∈ l, x.1 < 65536 ∧ x.2 < 65536) ∧ s.n ≤ 140737488355328 ∧ s.cap ≤ maxLen := by
  obtain ⟨a, len, cap, c, rfl, hR, hm, hb, hel⟩ := r.slice_invZ z gapsB'
  rw [show Try.prog.cellsOf 82 = 2 from by kernel_rfl] at hR hel
  rw [show Try.prog.bytesOf 82 = 4 from by kernel_rfl] at hb
  obtain ⟨l, rfl, rfl, hp⟩ := cells_of' (f := gC) (p := fun x => x.1 < 65536 ∧ x.2 < 65536) len c hR.length fun i hi => by
    obtain ⟨d', r, -⟩ := hel i hi
    exact gap_of r
  exact ⟨⟨a, l.length, cap⟩, l, rfl, rfl, hR, hp, Nat.le_trans (Nat.le_mul_of_pos_right _ (by decide)) (Nat.le_trans hb (by have := reachBytes_lt; omega)), hm⟩
theorem causes_of {h : AHeap} {H : Type} {cs : List Value} {d : DataW H} (r : ARd Try.prog h 55 cs d) (z : Sized Try.prog 55 d) : ∃ (s : Sl) (l : List CV), cs = [.slice s.a s.n s.cap] ∧ l.length = s.n ∧ Rv Try.prog h 2 s.a s.n s.cap (ccs l) ∧ (∀ x ∈ l, x.k < 65536 ∧ x.z.length ≤ 140737488355328 ∧ Rv Try.prog h 1 x.a x.z.length x.cap (x.z.map bv)) ∧ s.n ≤ 4398046511104 ∧ s.cap ≤ maxLen := by
  obtain ⟨a, len, cap, c, rfl, hR, hm, hb, hel⟩ := r.slice_invZ z causesB'
  rw [show Try.prog.cellsOf 84 = 2 from by kernel_rfl] at hR hel
  rw [show Try.prog.bytesOf 84 = 32 from by kernel_rfl] at hb
  obtain ⟨l, rfl, rfl, hp⟩ := cells_of' (f := cvC) (p := fun x => x.k < 65536 ∧ x.z.length ≤ 140737488355328 ∧ Rv Try.prog h 1 x.a x.z.length x.cap (x.z.map bv)) len c hR.length fun i hi => by
    obtain ⟨d', r, z'⟩ := hel i hi
    exact cause_of r z'
  exact ⟨⟨a, l.length, cap⟩, l, rfl, rfl, hR, hp, (by have := reachBytes_lt; show l.length ≤ _; omega), hm⟩
set_option maxHeartbeats 4000000 in
theorem chunk_of {h : AHeap} {H : Type} {cs : List Value} {d : DataW H} (r : ARd Try.prog h 57 cs d) (z : Sized Try.prog 57 d) : ∃ (c : Ck) (x : CD), cs = c.cs ∧ COk h c x ∧ c.D.n ≤ 140737488355328 ∧ c.A.n ≤ 140737488355328 ∧ c.G.n ≤ 140737488355328 ∧ c.U.n ≤ 140737488355328 ∧ c.C.n ≤ 4398046511104 := by
  obtain ⟨hl, hf⟩ := r.fieldZ z Try.underlying57
  rw [show Try.prog.cellsOf 57 = 15 from by kernel_rfl] at hl
  match cs, hl with
  | [c0, c1, c2, c3, c4, c5, c6, c7, c8, c9, c10, c11, c12, c13, c14], _ =>
    obtain ⟨d0, r0, -⟩ := hf 0 5 0 1 rfl (by kernel_rfl)
    obtain ⟨n0, e0, b0⟩ := r0.u_inv rfl u8b
    obtain ⟨d1, r1, -⟩ := hf 1 5 1 1 rfl (by kernel_rfl)
    obtain ⟨n1, e1, b1⟩ := r1.u_inv rfl u8b
    obtain ⟨d2, r2, -⟩ := hf 2 44 2 1 rfl (by kernel_rfl)
    obtain ⟨n2, e2, b2⟩ := r2.u_inv rfl u32b
    obtain ⟨d3, r3, -⟩ := hf 3 44 3 1 rfl (by kernel_rfl)
    obtain ⟨n3, e3, b3⟩ := r3.u_inv rfl u32b
    obtain ⟨d4, r4, -⟩ := hf 4 44 4 1 rfl (by kernel_rfl)
    obtain ⟨n4, e4, b4⟩ := r4.u_inv rfl u32b
    obtain ⟨d5, r5, -⟩ := hf 5 22 5 1 rfl (by kernel_rfl)
    obtain ⟨n5, e5, b5⟩ := r5.u_inv rfl u16b
    obtain ⟨d6, r6, -⟩ := hf 6 22 6 1 rfl (by kernel_rfl)
    obtain ⟨n6, e6, b6⟩ := r6.u_inv rfl u16b
    obtain ⟨d7, r7, -⟩ := hf 7 22 7 1 rfl (by kernel_rfl)
    obtain ⟨n7, e7, b7⟩ := r7.u_inv rfl u16b
    obtain ⟨d8, r8, -⟩ := hf 8 22 8 1 rfl (by kernel_rfl)
    obtain ⟨n8, e8, b8⟩ := r8.u_inv rfl u16b
    obtain ⟨d9, r9, -⟩ := hf 9 44 9 1 rfl (by kernel_rfl)
    obtain ⟨n9, e9, b9⟩ := r9.u_inv rfl u32b
    obtain ⟨d10, r10, z10⟩ := hf 10 23 10 1 rfl (by kernel_rfl)
    obtain ⟨a, cap, zs, e10, hR, hm, hZ⟩ := r10.bytesZ z10 bytesB u8b (by kernel_rfl) u8W5
    obtain ⟨d11, r11, z11⟩ := hf 11 53 11 1 rfl (by kernel_rfl)
    obtain ⟨sA, lA, e11, l11, v11, b11, n11, m11⟩ := w32_of r11 z11
    obtain ⟨d12, r12, z12⟩ := hf 12 54 12 1 rfl (by kernel_rfl)
    obtain ⟨sG, lG, e12, l12, v12, b12, n12, m12⟩ := gaps_of r12 z12
    obtain ⟨d13, r13, z13⟩ := hf 13 53 13 1 rfl (by kernel_rfl)
    obtain ⟨sU, lU, e13, l13, v13, b13, n13, m13⟩ := w32_of r13 z13
    obtain ⟨d14, r14, z14⟩ := hf 14 55 14 1 rfl (by kernel_rfl)
    obtain ⟨sC, lC, e14, l14, v14, b14, n14, m14⟩ := causes_of r14 z14
    simp at e0 e1 e2 e3 e4 e5 e6 e7 e8 e9 e10 e11 e12 e13 e14
    subst e0 e1 e2 e3 e4 e5 e6 e7 e8 e9 e10 e11 e12 e13 e14
    exact ⟨⟨n0, n1, n2, n3, n4, n5, n6, n7, n8, n9, ⟨a, zs.length, cap⟩, sA, sG, sU, sC⟩, ⟨zs, lA, lG, lU, lC⟩, rfl, ⟨b0, b1, b2, b3, b4, b5, b6, b7, b8, b9, rfl, hR, l11, v11, b11, l12, v12, b12, l13, v13, b13, l14, v14, b14⟩, hZ, n11, n12, n13, n14⟩
theorem plainChunk : plainB Try.prog 6 57 = true := by kernel_rfl
end Go.Proofs.Ytmelgnpogdilgaa
namespace Go.Proofs.Ytmelgnpogdilgaa
theorem chunk_small {h : AHeap} {H : Type} {c : Ck} {d : DataW H} (r : ARd Try.prog h 57 c.cs d) (hb : Rows.uptoBulk d ≤ 1048576) : c.D.n ≤ 1048576 ∧ c.C.n ≤ 1048576 := by
  have hf := r.fieldB hb Try.underlying57
  obtain ⟨d10, r10, b10⟩ := hf 10 23 10 1 rfl (by kernel_rfl)
  obtain ⟨d14, r14, b14⟩ := hf 14 55 14 1 rfl (by kernel_rfl)
  have e10 : ARd Try.prog h 23 [.slice c.D.a c.D.n c.D.cap] d10 := r10
  have e14 : ARd Try.prog h 55 [.slice c.C.a c.C.n c.C.cap] d14 := r14
  have h10 := e10.bulk_slice bytesB
  have h14 := e14.bulk_slice causesB'
  omega
end Go.Proofs.Ytmelgnpogdilgaa
namespace Go.Proofs.Ytmelgnpogdilgaa
set_option maxRecDepth 100000
theorem hu8 : Try.prog.underlying 5 = some (.int .u8) := by kernel_rfl
theorem hbytesU : Try.prog.underlying 23 = some (.slice 5) := by kernel_rfl
theorem plainBytes : plainB Try.prog 3 23 = true := by kernel_rfl
theorem imp_bytes {H : Type} {enc : TypeId × Value → H} {W : World} {m : Mp} {h : AHeap} {base : Nat} {v : Value} {d : DataW H} {ps : List MemPlace} (o : Value.okWide Try.prog W .any base 23 v) (ht : DataW.Trod enc Try.prog W 0 (fun _ => true) true 23 v d ps) (I : Im Try.prog W m h) :
    ∃ m' h', Im Try.prog W m' h' ∧ m.le m' ∧ Same h h' ∧ ∃ (a : Option Addr) (cap : Nat) (zs : List UInt8), VRel m' (.slice a zs.length cap) v ∧ Rv Try.prog h' 1 a zs.length cap (zs.map bv) ∧ cap ≤ maxLen := by
  obtain ⟨a0, l0, c0, rfl⟩ := WideShapes.okWide_slice hbytesU o
  obtain ⟨m', h', cs, I', hm, hs, hA, hR, hl⟩ := imp_val plainBytes ht I
  obtain ⟨x, rfl, hv⟩ := vrel_one hA (by rw [hl]; kernel_rfl) rfl
  obtain ⟨a, cap, zs, e, hz, hc⟩ := hR.bytes hbytesU hu8 (by kernel_rfl)
  cases e
  exact ⟨m', h', I', hm, hs, a, cap, zs, hv, hz, hc⟩
end Go.Proofs.Ytmelgnpogdilgaa
namespace Go.Proofs.Ytmelgnpogdilgaa
open Go.ChangeShapes Go.WideShapes Go.ChangeAt Go.RowKit
set_option maxRecDepth 100000
theorem chunkParamsWalk {H : Type} {enc : TypeId × Value → H} {base : Nat} {d0 d2 d3 : DataW H} {p0 p2 p3 : List MemPlace} (v0 : Value) (a1 : Int) (v2 v3 : Value) (W : World) (o0 : Value.okWide Try.prog W .any base 57 v0) (h0 : DataW.Trod enc Try.prog W 0 (fun _ => true) true 57 v0 d0 p0) (z0 : Sized Try.prog 57 d0) (u0 : Rows.uptoBulk d0 ≤ 1048576) (w1 : (Lit.int .u16 a1).wf = true) (o2 : Value.okWide Try.prog W .any base 23 v2) (h2 : DataW.Trod enc Try.prog W 0 (fun _ => true) true 23 v2 d2 p2) (z2 : Sized Try.prog 23 d2) (u2 : Rows.uptoBulk d2 ≤ 1048576) (o3 : Value.okWide Try.prog W .any base 23 v3) (h3 : DataW.Trod enc Try.prog W 0 (fun _ => true) true 23 v3 d3 p3) (z3 : Sized Try.prog 23 d3) (u3 : Rows.uptoBulk d3 ≤ 1048576) : Calls Try.prog 13 #[v0, .int .u16 a1, v2, v3] W fun e w' => e = .returned (.bool true) ∧ Below W.heap.size W w' := by
  obtain ⟨c1, rfl, hsz⟩ := okWide_struct Try.underlying57 o0
  obtain ⟨m, h, cs, I, _, _, hA, hR, hl⟩ := imp_val plainChunk h0 (Im.empty Try.prog W)
  have hv := vrel_agg hA
  obtain ⟨c, d, rfl, ok, n1, n2, n3, n4, n5⟩ := chunk_of hR z0
  obtain ⟨b1, b2⟩ := chunk_small hR u0
  obtain ⟨m1, h1', I1, hm1, s1, a, cap, zs, hv1, hz, hc⟩ := imp_bytes o2 h2 I
  obtain ⟨m2, h2', I2, hm2, s2, a₂, cap₂, ys, hv2, hy, hc2⟩ := imp_bytes o3 h3 I1
  simp [Lit.wf, IntKind.wrap, IntKind.bits, IntKind.signed, IntKind.min, IntKind.max] at w1
  obtain ⟨n, rfl⟩ : ∃ n : Nat, a1 = n := ⟨a1.toNat, by omega⟩
  refine calls_imp noGlobals I2 rfl (chunkParams_spec c d n a cap zs a₂ cap₂ ys (by omega) h2' ((ok.same s1).same s2) b1 n2 n3 n4 b2 (hz.same s2) hy) ?_
  exact (((ARel.single ((hv.mono hm1).mono hm2)).push (.int _ _)).push (hv1.mono hm2)).push hv2
end Go.Proofs.Ytmelgnpogdilgaa