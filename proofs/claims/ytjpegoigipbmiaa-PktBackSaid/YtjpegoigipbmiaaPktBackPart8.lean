/- What the law leans on, part 8. No conditions. -/
import Derived.KernelRfl
import Derived.Test.YtjpegoigipbmiaaPktBackPart7
set_option linter.unusedVariables false
set_option linter.unusedSimpArgs false
namespace Go.Proofs.Ytjpegoigipbmiaa
set_option maxRecDepth 100000
attribute [local irreducible] Go GoR GoL
def finR (c : Ck) (d : CD) (bad : Bool) (ys : List UInt8) : Option PC := if bad = false ∧ ys = [] ∧ may c d.gaps = true then some (pcOf c d) else none
theorem finR_bad (c : Ck) (d : CD) (ys : List UInt8) : finR c d true ys = none := if_neg (by simp)
theorem finR_left (c : Ck) (d : CD) (bad : Bool) {ys : List UInt8} (h : ys ≠ []) : finR c d bad ys = none := if_neg (by simp [h])
theorem finR_good {H : AHeap} {c : Ck} {d : CD} (ok : COk H c d) : finR c d false [] = (some (pcOf c d)).filter mayP := by
  unfold finR
  simp [Option.filter, mayP_of ok]
structure TSt (h H : AHeap) (c : Ck) (a : Option Addr) (cap : Nat) (ys : List UInt8) (bad : Bool) : Prop where
  same : Same h H
  n : h.n + 5 ≤ H.n
  res : H.get (h.n + 1) = some (.cells (Ck.none 0).cs 43)
  chk : H.get (h.n + 2) = some (.cells c.cs 43)
  ptr : H.get (h.n + 4) = some (.cells [.pointer (some ⟨h.n + 3, 0, none⟩)] 87)
  rd : RS H (h.n + 3) a cap ys bad
  old : ∀ i ∈ blk a, i < h.n
theorem TSt.call {h H H' : AHeap} {c : Ck} {a a' : Option Addr} {cap cap' : Nat} {ys ys' : List UInt8} {bad bad' : Bool} (T : TSt h H c a cap ys bad) (k : Keeps [h.n + 3] H H') (r : RS H' (h.n + 3) a' cap' ys' bad') (o : ∀ i ∈ blk a', i ∈ blk a) : TSt h H' c a' cap' ys' bad' :=
  ⟨T.same.own k (fun i hi => by simp at hi; omega), Nat.le_trans T.n k.1, k.get T.res (by simp), k.get T.chk (by simp), k.get T.ptr (by simp), r, fun i hi => T.old i (o i hi)⟩
theorem TSt.put {h H : AHeap} {c : Ck} {a : Option Addr} {cap : Nat} {ys : List UInt8} {bad : Bool} (c' : Ck) (T : TSt h H c a cap ys bad) : TSt h (H.put (h.n + 2) (some (.cells c'.cs 43))) c' a cap ys bad := by
  have hn := T.n
  refine ⟨T.same.put (by omega) _, by simp; omega, ?_, get_put_self T.chk, ?_, ⟨?_, T.rd.rv.put (fun hm => by have := T.old _ hm; omega) _, T.rd.out⟩, T.old⟩
  · rw [AHeap.get_put_ne _ _ (by omega)]; exact T.res
  · rw [AHeap.get_put_ne _ _ (by omega)]; exact T.ptr
  · rw [AHeap.get_put_ne _ _ (by omega)]; exact T.rd.g
theorem TSt.put_eq {h H H' : AHeap} {c : Ck} {a : Option Addr} {cap : Nat} {ys : List UInt8} {bad : Bool} (c' : Ck) (T : TSt h H c a cap ys bad) (e : H' = H.put (h.n + 2) (some (.cells c'.cs 43))) : TSt h H' c' a cap ys bad := by subst e; exact T.put c'
theorem Sv.put_eq {H H' : AHeap} {t : TypeId} {sz : Nat} {a : Option Addr} {len cap i : Nat} {cs : List Value} {o : Option AObj} (v : Sv H t sz a len cap cs) (e : H' = H.put i o) (hn : i ∉ blk a) : Sv H' t sz a len cap cs := by subst e; exact v.put hn _
theorem TSt.to {h H H' : AHeap} {c : Ck} {a : Option Addr} {cap : Nat} {ys : List UInt8} {bad : Bool} (T : TSt h H c a cap ys bad) (s : Same H H') : TSt h H' c a cap ys bad :=
  ⟨T.same.trans s, Nat.le_trans T.n s.1, s.get T.res, s.get T.chk, s.get T.ptr, T.rd.same s, T.old⟩
def CNot (i : Nat) (c : Ck) (d : CD) : Prop := i ∉ blk c.D.a ∧ i ∉ blk c.A.a ∧ i ∉ blk c.G.a ∧ i ∉ blk c.U.a ∧ i ∉ blk c.C.a ∧ ∀ x ∈ d.causes, i ∉ blk x.a
theorem COk.putN {H : AHeap} {i : Nat} {c : Ck} {d : CD} (ok : COk H c d) (ap : CNot i c d) (o : Option AObj) : COk (H.put i o) c d := by
  obtain ⟨h1, h2, h3, h4, h5, h6⟩ := ap
  exact { ok with dv := ok.dv.put h1 _, av := ok.av.put h2 _, gv := ok.gv.put h3 _, uv := ok.uv.put h4 _, cv := ok.cv.put h5 _, cb := fun x hx => ⟨(ok.cb x hx).1, (ok.cb x hx).2.1, (ok.cb x hx).2.2.put (h6 x hx) _⟩ }
def DfOk (n : Nat) (H : AHeap) (c : Ck) (d : CD) (df : List Nat) : Prop := df = [] ∨ ∃ dd, df = [dd] ∧ H.get dd = some (.deferred true) ∧ n ≤ dd ∧ CNot dd c d
def CApart (n : Nat) (c : Ck) (d : CD) : Prop := Own n c.D.a ∧ Own n c.A.a ∧ Own n c.G.a ∧ Own n c.U.a ∧ Own n c.C.a ∧ ∀ x ∈ d.causes, Own n x.a
theorem COk.put {H : AHeap} {n i : Nat} {c : Ck} {d : CD} (ok : COk H c d) (ap : CApart n c d) (hi : i < n) (o : Option AObj) : COk (H.put i o) c d := by
  obtain ⟨h1, h2, h3, h4, h5, h6⟩ := ap
  have q : ∀ {a : Option Addr}, Own n a → i ∉ blk a := fun w hm => by have := w _ hm; omega
  exact { ok with dv := ok.dv.put (q h1) _, av := ok.av.put (q h2) _, gv := ok.gv.put (q h3) _, uv := ok.uv.put (q h4) _, cv := ok.cv.put (q h5) _, cb := fun x hx => ⟨(ok.cb x hx).1, (ok.cb x hx).2.1, (ok.cb x hx).2.2.put (q (h6 x hx)) _⟩ }
theorem TSt.app {h H H' : AHeap} {c : Ck} {a b : Option Addr} {cap : Nat} {ys : List UInt8} {bad : Bool} (T : TSt h H c a cap ys bad) (k : Keeps (blk b) H H') (o : Own (h.n + 5) b) : TSt h H' c a cap ys bad := by
  have q : ∀ i, i < h.n + 5 → i ∉ blk b := fun i hi hm => by have := o _ hm; omega
  exact ⟨T.same.ownO k o (by omega), Nat.le_trans T.n k.1, k.get T.res (q _ (by omega)), k.get T.chk (q _ (by omega)), k.get T.ptr (q _ (by omega)), ⟨k.get T.rd.g (q _ (by omega)), T.rd.rv.keeps k (fun i hi => q _ (by have := T.old _ hi; omega)), T.rd.out⟩, T.old⟩
theorem gapsR_lt (n : Nat) (zs : List UInt8) (bad : Bool) : ∀ x ∈ (gapsR n zs bad).1, x.1 < 65536 ∧ x.2 < 65536 := by
  induction n with
  | zero => exact fun x hx => by cases hx
  | succ n ih =>
    intro x hx
    simp only [gapsR] at hx
    rcases List.mem_append.1 hx with hx | hx
    · exact ih x hx
    · simp only [List.mem_singleton] at hx; subst hx
      exact ⟨num_lt2 _, num_lt2 _⟩
theorem dupsR_lt (n : Nat) (zs : List UInt8) (bad : Bool) : ∀ x ∈ (dupsR n zs bad).1, x < 4294967296 := by
  induction n with
  | zero => exact fun x hx => by cases hx
  | succ n ih =>
    intro x hx
    simp only [dupsR] at hx
    rcases List.mem_append.1 hx with hx | hx
    · exact ih x hx
    · simp only [List.mem_singleton] at hx; subst hx
      exact num_lt4 _
theorem may_G {c : Ck} {gs : List (Nat × Nat)} (h : 64 < c.G.n) : may c gs = false := by
  unfold may
  rw [decide_eq_false (fun hm => by have := hm.2.2.1; omega), Bool.false_and]
theorem may_U {c : Ck} {gs : List (Nat × Nat)} (h : 16 < c.U.n) : may c gs = false := by
  unfold may
  rw [decide_eq_false (fun hm => by have := hm.2.2.2.1; omega), Bool.false_and]
theorem finR_may {c : Ck} {d : CD} {bad : Bool} {ys : List UInt8} (h : may c d.gaps = false) : finR c d bad ys = none := if_neg (by simp [h])
theorem TSt.params {h H H' : AHeap} {c c' : Ck} {a : Option Addr} {cap : Nat} {ys : List UInt8} {bad bad' : Bool} (T : TSt h H c a cap ys bad) (k : Keeps [h.n + 3, h.n + 2] H H') (gq : H'.get (h.n + 2) = some (.cells c'.cs 43)) (r : RS H' (h.n + 3) none 0 [] bad') : TSt h H' c' none 0 [] bad' :=
  ⟨T.same.own k (fun i hi => by simp at hi; omega), Nat.le_trans T.n k.1, k.get T.res (by simp), gq, k.get T.ptr (by simp), r, fun i hi => by simp [blk] at hi⟩
theorem TSt.kp {h H H' : AHeap} {c : Ck} {a : Option Addr} {cap : Nat} {ys : List UInt8} {bad : Bool} {wr : List Nat} (T : TSt h H c a cap ys bad) (k : Keeps wr H H') (o : ∀ i ∈ wr, h.n + 5 ≤ i) : TSt h H' c a cap ys bad := by
  have q : ∀ i, i < h.n + 5 → i ∉ wr := fun i hi hm => by have := o _ hm; omega
  exact ⟨T.same.own k (fun i hi => by have := o _ hi; omega), Nat.le_trans T.n k.1, k.get T.res (q _ (by omega)), k.get T.chk (q _ (by omega)), k.get T.ptr (q _ (by omega)), ⟨k.get T.rd.g (q _ (by omega)), T.rd.rv.keeps k (fun i hi => q _ (by have := T.old _ hi; omega)), T.rd.out⟩, T.old⟩
theorem TSt.putB {h H : AHeap} {c : Ck} {a : Option Addr} {cap : Nat} {ys : List UInt8} {bad : Bool} (b' : Bool) (T : TSt h H c a cap ys bad) : TSt h (H.put (h.n + 3) (some (.cells [.slice a ys.length cap, .bool b'] 89))) c a cap ys b' := by
  have hn := T.n
  refine ⟨T.same.put (by omega) _, by simp; omega, ?_, ?_, ?_, ⟨get_put_self T.rd.g, T.rd.rv.put (fun hm => T.rd.out hm) _, T.rd.out⟩, T.old⟩
  · rw [AHeap.get_put_ne _ _ (by omega)]; exact T.res
  · rw [AHeap.get_put_ne _ _ (by omega)]; exact T.chk
  · rw [AHeap.get_put_ne _ _ (by omega)]; exact T.ptr
structure KInv (h : AHeap) (tm : List Value) (ps : Array Tmp) (asg bo : Code) (l d k f : Nat) (bad : Bool) (s : List CV × Option Addr × Nat) (H : AHeap) : Prop where
  loop : H.get l = some (.loop .ready none tm ps asg bo d)
  mark : H.get d = some (.deferred true)
  T : TSt h H (⟨k, f, 0, 0, 0, 0, 0, 0, 0, 0, ⟨none, 0, 0⟩, ⟨none, 0, 0⟩, ⟨none, 0, 0⟩, ⟨none, 0, 0⟩, ⟨s.2.1, s.1.length, s.2.2⟩⟩ : Ck) none 0 [] bad
  sv : Sv H 69 2 s.2.1 s.1.length s.2.2 (ccs s.1)
  own : Own (h.n + 5) s.2.1
  sep : ∀ i ∈ blk s.2.1, i ∉ [l, d]
  cb : ∀ x ∈ s.1, x.k < 65536 ∧ x.z.length ≤ 140737488355328 ∧ Rv Try.prog H 1 x.a x.z.length x.cap (x.z.map bv) ∧ Own (h.n + 5) x.a ∧ (∀ i ∈ blk x.a, i ∉ [l, d]) ∧ ∀ i ∈ blk x.a, i ∉ blk s.2.1
theorem KInv.to {h : AHeap} {tm : List Value} {ps : Array Tmp} {asg bo : Code} {l d k f : Nat} {bad : Bool} {s : List CV × Option Addr × Nat} {H H' : AHeap} (I : KInv h tm ps asg bo l d k f bad s H) (sm : Same H H') : KInv h tm ps asg bo l d k f bad s H' :=
  ⟨sm.get I.loop, sm.get I.mark, I.T.to sm, I.sv.same sm, I.own, I.sep, fun x hx => ⟨(I.cb x hx).1, (I.cb x hx).2.1, (I.cb x hx).2.2.1.same sm, (I.cb x hx).2.2.2⟩⟩
theorem COk.base (H : AHeap) (k f : Nat) (hk : k < 256) (hf : f < 256) : COk H { Ck.none k with f := f } ⟨[], [], [], [], []⟩ :=
  ⟨hk, hf, (by show 0 < 4294967296; decide), (by show 0 < 4294967296; decide), (by show 0 < 4294967296; decide), (by show 0 < 65536; decide), (by show 0 < 65536; decide), (by show 0 < 65536; decide), (by show 0 < 65536; decide), (by show 0 < 4294967296; decide), rfl, Rv.nil, rfl, Rv.nil, (fun x hx => by cases hx), rfl, Rv.nil, (fun x hx => by cases hx), rfl, Rv.nil, (fun x hx => by cases hx), rfl, Rv.nil, (fun x hx => by cases hx)⟩
theorem k0_good {zs : List UInt8} (h : 12 ≤ zs.length) : num zs 4 = nAt zs 0 4 ∧ num (left zs 4) 2 = nAt zs 4 2 ∧ num (left (left zs 4) 2) 2 = nAt zs 6 2 ∧ num (left (left (left zs 4) 2) 2) 4 = nAt zs 8 4 ∧ left (left (left (left zs 4) 2) 2) 4 = zs.drop 12 ∧ (false || short zs 4 || short (left zs 4) 2 || short (left (left zs 4) 2) 2 || short (left (left (left zs 4) 2) 2) 4) = false := by
  have h1 : 4 ≤ zs.length := by omega
  have h2 : 2 ≤ (zs.drop 4).length := by rw [List.length_drop]; omega
  have h3 : 2 ≤ (zs.drop 6).length := by rw [List.length_drop]; omega
  have h4 : 4 ≤ (zs.drop 8).length := by rw [List.length_drop]; omega
  have e1 : left zs 4 = zs.drop 4 := left_le h1
  have e2 : left (zs.drop 4) 2 = zs.drop 6 := by rw [left_le h2, List.drop_drop]
  have e3 : left (zs.drop 6) 2 = zs.drop 8 := by rw [left_le h3, List.drop_drop]
  have e4 : left (zs.drop 8) 4 = zs.drop 12 := by rw [left_le h4, List.drop_drop]
  rw [e1, e2, e3, e4, num_le h1, num_le h2, num_le h3, num_le h4, short_le h1, short_le h2, short_le h3, short_le h4]
  exact ⟨rfl, rfl, rfl, rfl, rfl, rfl⟩
theorem k0_bad {zs : List UInt8} (h : zs.length < 12) : (false || short zs 4 || short (left zs 4) 2 || short (left (left zs 4) 2) 2 || short (left (left (left zs 4) 2) 2) 4) = true := by
  rcases Nat.lt_or_ge (zs).length 4 with g0 | g0
  · simp only [short, Bool.or_eq_true, decide_eq_true_eq, List.length_drop, Bool.false_or, Bool.false_eq_true, false_or] at *; omega
  rw [left_le g0]
  rcases Nat.lt_or_ge ((zs).drop 4).length 2 with g1 | g1
  · simp only [short, Bool.or_eq_true, decide_eq_true_eq, List.length_drop, Bool.false_or, Bool.false_eq_true, false_or] at *; omega
  rw [left_le g1]
  rcases Nat.lt_or_ge (((zs).drop 4).drop 2).length 2 with g2 | g2
  · simp only [short, Bool.or_eq_true, decide_eq_true_eq, List.length_drop, Bool.false_or, Bool.false_eq_true, false_or] at *; omega
  rw [left_le g2]
  rcases Nat.lt_or_ge ((((zs).drop 4).drop 2).drop 2).length 4 with g3 | g3
  · simp only [short, Bool.or_eq_true, decide_eq_true_eq, List.length_drop, Bool.false_or, Bool.false_eq_true, false_or] at *; omega
  exfalso; simp only [List.length_drop] at *; omega
theorem k3_good {zs : List UInt8} (h : 12 ≤ zs.length) : num zs 4 = nAt zs 0 4 ∧ num (left zs 4) 4 = nAt zs 4 4 ∧ num (left (left zs 4) 4) 2 = nAt zs 8 2 ∧ num (left (left (left zs 4) 4) 2) 2 = nAt zs 10 2 ∧ left (left (left (left zs 4) 4) 2) 2 = zs.drop 12 ∧ (false || short zs 4 || short (left zs 4) 4 || short (left (left zs 4) 4) 2 || short (left (left (left zs 4) 4) 2) 2) = false := by
  have h1 : 4 ≤ zs.length := by omega
  have h2 : 4 ≤ (zs.drop 4).length := by rw [List.length_drop]; omega
  have h3 : 2 ≤ (zs.drop 8).length := by rw [List.length_drop]; omega
  have h4 : 2 ≤ (zs.drop 10).length := by rw [List.length_drop]; omega
  have e1 : left zs 4 = zs.drop 4 := left_le h1
  have e2 : left (zs.drop 4) 4 = zs.drop 8 := by rw [left_le h2, List.drop_drop]
  have e3 : left (zs.drop 8) 2 = zs.drop 10 := by rw [left_le h3, List.drop_drop]
  have e4 : left (zs.drop 10) 2 = zs.drop 12 := by rw [left_le h4, List.drop_drop]
  rw [e1, e2, e3, e4, num_le h1, num_le h2, num_le h3, num_le h4, short_le h1, short_le h2, short_le h3, short_le h4]
  exact ⟨rfl, rfl, rfl, rfl, rfl, rfl⟩
theorem k3_bad {zs : List UInt8} (h : zs.length < 12) : (false || short zs 4 || short (left zs 4) 4 || short (left (left zs 4) 4) 2 || short (left (left (left zs 4) 4) 2) 2) = true := by
  rcases Nat.lt_or_ge (zs).length 4 with g0 | g0
  · simp only [short, Bool.or_eq_true, decide_eq_true_eq, List.length_drop, Bool.false_or, Bool.false_eq_true, false_or] at *; omega
  rw [left_le g0]
  rcases Nat.lt_or_ge ((zs).drop 4).length 4 with g1 | g1
  · simp only [short, Bool.or_eq_true, decide_eq_true_eq, List.length_drop, Bool.false_or, Bool.false_eq_true, false_or] at *; omega
  rw [left_le g1]
  rcases Nat.lt_or_ge (((zs).drop 4).drop 4).length 2 with g2 | g2
  · simp only [short, Bool.or_eq_true, decide_eq_true_eq, List.length_drop, Bool.false_or, Bool.false_eq_true, false_or] at *; omega
  rw [left_le g2]
  rcases Nat.lt_or_ge ((((zs).drop 4).drop 4).drop 2).length 2 with g3 | g3
  · simp only [short, Bool.or_eq_true, decide_eq_true_eq, List.length_drop, Bool.false_or, Bool.false_eq_true, false_or] at *; omega
  exfalso; simp only [List.length_drop] at *; omega
theorem k1_good {zs : List UInt8} (h : 16 ≤ zs.length) : num zs 4 = nAt zs 0 4 ∧ num (left zs 4) 4 = nAt zs 4 4 ∧ num (left (left zs 4) 4) 2 = nAt zs 8 2 ∧ num (left (left (left zs 4) 4) 2) 2 = nAt zs 10 2 ∧ num (left (left (left (left zs 4) 4) 2) 2) 4 = nAt zs 12 4 ∧ left (left (left (left (left zs 4) 4) 2) 2) 4 = zs.drop 16 ∧ (false || short zs 4 || short (left zs 4) 4 || short (left (left zs 4) 4) 2 || short (left (left (left zs 4) 4) 2) 2 || short (left (left (left (left zs 4) 4) 2) 2) 4) = false := by
  obtain ⟨e1, e2, e3, e4, e5, e6⟩ := k3_good (show 12 ≤ zs.length by omega)
  have h5 : 4 ≤ (zs.drop 12).length := by rw [List.length_drop]; omega
  rw [e1, e2, e3, e4, e6, e5, num_le h5, left_le h5, short_le h5, List.drop_drop]
  exact ⟨rfl, rfl, rfl, rfl, rfl, rfl, rfl⟩
theorem k1_bad {zs : List UInt8} (h : zs.length < 16) : (false || short zs 4 || short (left zs 4) 4 || short (left (left zs 4) 4) 2 || short (left (left (left zs 4) 4) 2) 2 || short (left (left (left (left zs 4) 4) 2) 2) 4) = true := by
  rcases Nat.lt_or_ge zs.length 12 with g | g
  · rw [k3_bad g, Bool.true_or]
  · obtain ⟨e1, e2, e3, e4, e5, e6⟩ := k3_good g
    rw [e6, e5, Bool.false_or]
    exact decide_eq_true (by rw [List.length_drop]; omega)
theorem k1_fin (k f : Nat) (hk : k = 1 ∨ k = 2) (zs : List UInt8) {H : AHeap} (s : Sg) (hp : PFin k (parse false (left (left (left (left (left zs 4) 4) 2) 2) 4)).2 (parse false (left (left (left (left (left zs 4) 4) 2) 2) 4)).1 (false || short zs 4 || short (left zs 4) 4 || short (left (left zs 4) 4) 2 || short (left (left (left zs 4) 4) 2) 2 || short (left (left (left (left zs 4) 4) 2) 2) 4) s)
    (ok : COk H ⟨k, f, num zs 4, num (left zs 4) 4, num (left (left (left (left zs 4) 4) 2) 2) 4, num (left (left zs 4) 4) 2, num (left (left (left zs 4) 4) 2) 2, 0, 0, 0, s.D, s.A, ⟨none, 0, 0⟩, ⟨none, 0, 0⟩, ⟨none, 0, 0⟩⟩ ⟨s.data, s.addrs, [], [], []⟩) :
    finR ⟨k, f, num zs 4, num (left zs 4) 4, num (left (left (left (left zs 4) 4) 2) 2) 4, num (left (left zs 4) 4) 2, num (left (left (left zs 4) 4) 2) 2, 0, 0, 0, s.D, s.A, ⟨none, 0, 0⟩, ⟨none, 0, 0⟩, ⟨none, 0, 0⟩⟩ ⟨s.data, s.addrs, [], [], []⟩ s.bad [] = (rawP k f zs).filter mayP := by
  have hraw : rawP k f zs = if 16 ≤ zs.length then (pgo k (parse false (zs.drop 16)).2 (parse false (zs.drop 16)).1 [] [] 0).map fun x => { PC.z k f with tag := nAt zs 0 4, rwnd := nAt zs 4 4, out := nAt zs 8 2, inn := nAt zs 10 2, tsn := nAt zs 12 4, addrs := x.1, data := x.2 } else none := by
    rcases hk with rfl | rfl <;> rfl
  rcases Nat.lt_or_ge zs.length 16 with g | g
  · rw [k1_bad g] at hp
    have : s.bad = true := by
      cases hb : s.bad
      · exact absurd (hp.1 hb).1 (by simp)
      · rfl
    rw [this, finR_bad, hraw, if_neg (by omega)]
    rfl
  obtain ⟨e1, e2, e3, e4, e5, e6, e7⟩ := k1_good g
  rw [e7, e6] at hp
  rw [hraw, if_pos g]
  cases hb : s.bad
  · obtain ⟨-, hgo⟩ := hp.1 hb
    rw [finR_good ok, hgo]
    simp only [Option.map_some, pcOf, PC.z, List.map_nil, e1, e2, e3, e4, e5]
  · have hgo := (hp.2 hb).resolve_left (by simp)
    rw [finR_bad, hgo]
    rfl
theorem k3_fin (f : Nat) (zs : List UInt8) {H : AHeap} {b b' : Option Addr} {cb cb' : Nat} {ys0 : List UInt8} {bad0 : Bool} {G U : Nat} (hG : num (left (left zs 4) 4) 2 = G) (hU : num (left (left (left zs 4) 4) 2) 2 = U) (hy : left (left (left (left zs 4) 4) 2) 2 = ys0) (hb : (false || short zs 4 || short (left zs 4) 4 || short (left (left zs 4) 4) 2 || short (left (left (left zs 4) 4) 2) 2) = bad0)
    (ok : COk H ⟨3, f, 0, num (left zs 4) 4, num zs 4, 0, 0, 0, 0, 0, ⟨none, 0, 0⟩, ⟨none, 0, 0⟩, ⟨b, min G 65, cb⟩, ⟨b', min U 17, cb'⟩, ⟨none, 0, 0⟩⟩ ⟨[], [], (gapsR (min G 65) ys0 bad0).1, (dupsR (min U 17) (gapsR (min G 65) ys0 bad0).2.1 (gapsR (min G 65) ys0 bad0).2.2).1, []⟩) :
    finR ⟨3, f, 0, num (left zs 4) 4, num zs 4, 0, 0, 0, 0, 0, ⟨none, 0, 0⟩, ⟨none, 0, 0⟩, ⟨b, min G 65, cb⟩, ⟨b', min U 17, cb'⟩, ⟨none, 0, 0⟩⟩ ⟨[], [], (gapsR (min G 65) ys0 bad0).1, (dupsR (min U 17) (gapsR (min G 65) ys0 bad0).2.1 (gapsR (min G 65) ys0 bad0).2.2).1, []⟩ (dupsR (min U 17) (gapsR (min G 65) ys0 bad0).2.1 (gapsR (min G 65) ys0 bad0).2.2).2.2 (dupsR (min U 17) (gapsR (min G 65) ys0 bad0).2.1 (gapsR (min G 65) ys0 bad0).2.2).2.1 = (rawP 3 f zs).filter mayP := by
  rcases Nat.lt_or_ge zs.length 12 with g | g
  · rw [k3_bad g] at hb
    subst hb
    rw [gapsR_true, dupsR_true, finR_bad]
    simp [rawP, show ¬ 12 ≤ zs.length by omega]
  obtain ⟨e1, e2, e3, e4, e5, e6⟩ := k3_good g
  rw [e3] at hG
  rw [e4] at hU
  rw [e5] at hy
  rw [e6] at hb
  have hl : ys0.length = zs.length - 12 := by rw [← hy, List.length_drop]
  have hraw : rawP 3 f zs = if 12 ≤ zs.length ∧ zs.length = 12 + 4 * G + 4 * U then some { PC.z 3 f with tsn := nAt zs 0 4, rwnd := nAt zs 4 4, gaps := gapsAt (zs.drop 12) G, dups := dupsAt (zs.drop (12 + 4 * G)) U } else none := by
    rw [← hG, ← hU]; rfl
  subst hb
  rcases Nat.lt_or_ge 64 G with gG | gG
  · rw [finR_may (may_G (by show 64 < min G 65; omega)), hraw]
    split
    · refine (Option.filter_eq_none_iff.2 fun p hp hm => ?_).symm
      cases hp
      rw [show mayP _ = false from may_G (by simp [ckOf, gapsAt]; omega)] at hm
      cases hm
    · rfl
  have mG : min G 65 = G := by omega
  rw [mG] at ok ⊢
  rcases Nat.lt_or_ge ys0.length (4 * G) with q | q
  · have hbad := gapsR_bad ys0 false G q
    rw [hbad, dupsR_true, finR_bad, hraw, if_neg (by omega)]
    rfl
  rw [gapsR_good ys0 false G q] at ok ⊢
  simp only at ok ⊢
  have hl2 : (ys0.drop (4 * G)).length = ys0.length - 4 * G := List.length_drop
  rcases Nat.lt_or_ge 16 U with gU | gU
  · rw [finR_may (may_U (by show 16 < min U 17; omega)), hraw]
    split
    · refine (Option.filter_eq_none_iff.2 fun p hp hm => ?_).symm
      cases hp
      rw [show mayP _ = false from may_U (by simp [ckOf, dupsAt]; omega)] at hm
      cases hm
    · rfl
  have mU : min U 17 = U := by omega
  rw [mU] at ok ⊢
  rcases Nat.lt_or_ge (ys0.drop (4 * G)).length (4 * U) with r | r
  · rw [dupsR_bad _ false U r, finR_bad, hraw, if_neg (by omega)]
    rfl
  rw [dupsR_good _ false U r] at ok ⊢
  simp only at ok ⊢
  by_cases hq : zs.length = 12 + 4 * G + 4 * U
  · have ed : (ys0.drop (4 * G)).drop (4 * U) = [] := List.drop_eq_nil_of_le (by omega)
    rw [ed, finR_good ok, hraw, if_pos ⟨g, hq⟩]
    congr 1
    simp only [pcOf, PC.z, List.map_nil, e1, e2, ← hy, List.drop_drop]
  · have ed : (ys0.drop (4 * G)).drop (4 * U) ≠ [] := fun e => by
      have := List.length_drop (i := 4 * U) (l := ys0.drop (4 * G))
      rw [e] at this
      simp at this
      omega
    rw [finR_left _ _ _ ed, hraw, if_neg (by omega)]
    rfl
theorem k0_fin (f : Nat) (zs : List UInt8) {H : AHeap} {br10 : Option Addr} {cr10 : Nat} (ok : COk H (⟨0, f, 0, 0, num zs 4, 0, 0, num (left zs 4) 2, num (left (left zs 4) 2) 2, num (left (left (left zs 4) 2) 2) 4, ⟨br10, (left (left (left (left zs 4) 2) 2) 4).length, cr10⟩, ⟨none, 0, 0⟩, ⟨none, 0, 0⟩, ⟨none, 0, 0⟩, ⟨none, 0, 0⟩⟩ : Ck) ⟨left (left (left (left zs 4) 2) 2) 4, [], [], [], []⟩) : finR (⟨0, f, 0, 0, num zs 4, 0, 0, num (left zs 4) 2, num (left (left zs 4) 2) 2, num (left (left (left zs 4) 2) 2) 4, ⟨br10, (left (left (left (left zs 4) 2) 2) 4).length, cr10⟩, ⟨none, 0, 0⟩, ⟨none, 0, 0⟩, ⟨none, 0, 0⟩, ⟨none, 0, 0⟩⟩ : Ck) ⟨left (left (left (left zs 4) 2) 2) 4, [], [], [], []⟩ (false || short zs 4 || short (left zs 4) 2 || short (left (left zs 4) 2) 2 || short (left (left (left zs 4) 2) 2) 4) [] = (rawP 0 f zs).filter mayP := by
  rcases Nat.lt_or_ge zs.length 12 with g | g
  · rw [k0_bad g, finR_bad]
    simp [rawP, show ¬ 12 ≤ zs.length by omega]
  · obtain ⟨e1, e2, e3, e4, e5, e6⟩ := k0_good g
    rw [e6, finR_good ok]
    simp only [rawP, if_pos g, pcOf, PC.z, e1, e2, e3, e4, e5, List.map_nil]
theorem k7_fin (f : Nat) (zs : List UInt8) {H : AHeap} (ok : COk H (⟨7, f, 0, 0, num zs 4, 0, 0, 0, 0, 0, ⟨none, 0, 0⟩, ⟨none, 0, 0⟩, ⟨none, 0, 0⟩, ⟨none, 0, 0⟩, ⟨none, 0, 0⟩⟩ : Ck) ⟨[], [], [], [], []⟩) : finR (⟨7, f, 0, 0, num zs 4, 0, 0, 0, 0, 0, ⟨none, 0, 0⟩, ⟨none, 0, 0⟩, ⟨none, 0, 0⟩, ⟨none, 0, 0⟩, ⟨none, 0, 0⟩⟩ : Ck) ⟨[], [], [], [], []⟩ (false || short zs 4) (left zs 4) = (rawP 7 f zs).filter mayP := by
  rw [Bool.false_or]
  rcases Nat.lt_or_ge zs.length 4 with g | g
  · rw [show short zs 4 = true from decide_eq_true g, finR_bad]
    simp [rawP, show ¬ zs.length = 4 by omega]
  · rw [short_le g, left_le g]
    by_cases g4 : zs.length = 4
    · have ed : zs.drop 4 = [] := List.drop_eq_nil_of_le (by omega)
      rw [ed, finR_good ok]
      simp only [rawP, if_pos g4, pcOf, PC.z, num_le g, List.map_nil, nAt, List.drop_zero]
    · have ed : zs.drop 4 ≠ [] := fun e => by have := List.length_drop (i := 4) (l := zs); rw [e] at this; simp at this; omega
      rw [finR_left _ _ _ ed]
      simp [rawP, g4]
def TakeO (n : Nat) (h' : AHeap) (v : Value) (r : Option PC) : Prop := match r with
  | none => v = .tuple #[(Ck.none 0).v, .int .i64 50]
  | some p => ∃ c d, v = .tuple #[c.v, .int .i64 0] ∧ COk h' c d ∧ CApart n c d ∧ pcOf c d = p
theorem TakeO.r {n : Nat} {h' : AHeap} {v : Value} {r : Option PC} (t : TakeO n h' v r) : TakeR h' v r := by
  cases r with
  | none => exact t
  | some p => obtain ⟨c, d, h1, h2, -, h3⟩ := t; exact ⟨c, d, h1, h2, h3⟩
theorem CApart.mono {n m : Nat} {c : Ck} {d : CD} (a : CApart m c d) (h : n ≤ m) : CApart n c d := by
  obtain ⟨h1, h2, h3, h4, h5, h6⟩ := a
  exact ⟨h1.mono h, h2.mono h, h3.mono h, h4.mono h, h5.mono h, fun x hx => (h6 x hx).mono h⟩
set_option maxHeartbeats 16000000 in
theorem ctake_own (k f : Nat) (a : Option Addr) (cap : Nat) (zs : List UInt8) (hk : k < 65536) (hf : f < 256) (hl : zs.length ≤ 1000000) (h : AHeap) (hz : Rv Try.prog h 1 a zs.length cap (zs.map bv)) : CallS Try.prog [] 32 [tlvV k f a zs.length cap] h fun v h' => TakeO h.n h' v (tkP k f zs) := by
  unfold tkP
  rcases Nat.lt_or_ge 255 k with hk1 | hk1
  · rw [if_pos hk1]
    (refine CallS.of1 Try.func32 rfl Try.ntmps32 Try.results32 rfl ?_)
    (refine Go.run (g:=?_))
    refine Go.fin (.inr rfl) (.cellN (b := h.n + 1) (off := 0) rfl inferInstance (by (first | assumption | exact AHeap.get_push_same _ _ | ((repeat first | exact AHeap.get_push_same _ _ | assumption | refine get_push_lt ?_ | exact AHeap.get_put_same _ (by first | omega | (simp only [AHeap.n_push, AHeap.n_put]; omega)) _ | exact get_put_self (by assumption) | apply get_put_self | refine get_put_other (by first | omega | (simp only [AHeap.n_push, AHeap.n_put]; omega)) ?_ | refine Same.get (by assumption) ?_ | refine Keeps.get (by assumption) ?_ (fun hi => by have hx := Own.out (by assumption) hi; omega)) ; fail_if_success focus skip) | fail)) (by first | exact Nat.le_refl _ | (simp [setL, cellsL]; fail_if_success focus skip) | (simp; omega)) rfl (.tmp rfl .nil)) ?_
    rfl
  rw [if_neg (by omega)]
  have hk8 : k < 256 := by omega
  have hkm : k % 256 = k := Nat.mod_eq_of_lt hk8
  (refine CallS.of1 Try.func32 rfl Try.ntmps32 Try.results32 rfl ?_)
  (iterate 34 (first|refine GoR.end ?_|(refine GoR.gd rfl ?_;first|refine GoR.wanted' rfl rfl rfl rfl (g:=?_)|refine GoR.unwanted' rfl rfl rfl rfl (hd:=rfl) (hN:=rfl) (g:=?_)|refine GoR.unwantedU rfl rfl rfl rfl rfl rfl ?_)|(refine GoR.kk 0 rfl ?_;first|refine GoR.move rfl rfl rfl rfl rfl ?_|refine GoR.assign rfl rfl rfl rfl rfl ?_)|(refine GoR.kk 1 rfl ?_;first|refine GoR.load' rfl rfl rfl rfl rfl (g:=?_)|refine GoR.loadA' rfl rfl rfl rfl rfl (hv:=rfl) (g:=?_)|refine GoR.loadV' rfl rfl rfl rfl rfl (g:=?_)|refine GoR.loadVN' rfl rfl rfl rfl rfl (g:=?_))|(refine GoR.kk 2 rfl ?_;first|refine GoR.store' rfl rfl rfl rfl rfl (hl:=rfl) (h1:=rfl) (h3:=rfl) (g:=?_))|(refine GoR.kk 3 rfl ?_;first|refine GoR.fieldAddr rfl rfl rfl rfl rfl ?_|refine GoR.indexN' rfl rfl rfl rfl rfl rfl (g:=?_)|refine GoR.indexNs' rfl rfl rfl rfl rfl rfl (g:=?_)|refine GoR.indexV' rfl rfl rfl rfl rfl rfl (g:=?_)|refine GoR.indexA' rfl rfl rfl rfl rfl rfl (g:=?_)|refine GoR.fieldV' rfl rfl rfl rfl rfl (g:=?_))|(refine GoR.kk 4 rfl ?_;first|refine GoR.eq rfl rfl rfl rfl rfl rfl ?_|refine GoR.ne rfl rfl rfl rfl rfl rfl ?_|refine GoR.lt rfl rfl rfl rfl rfl rfl ?_|refine GoR.le rfl rfl rfl rfl rfl rfl ?_|refine GoR.gt rfl rfl rfl rfl rfl rfl ?_|refine GoR.ge rfl rfl rfl rfl rfl rfl ?_|refine GoR.addN' rfl rfl rfl rfl rfl rfl (g:=?_)|refine GoR.subN' rfl rfl rfl rfl rfl rfl (g:=?_)|refine GoR.add' rfl rfl rfl rfl rfl rfl (g:=?_)|refine GoR.sub' rfl rfl rfl rfl rfl rfl (g:=?_)|refine GoR.addM' rfl rfl rfl rfl rfl rfl (g:=?_)|refine GoR.subM' rfl rfl rfl rfl rfl rfl (g:=?_)|refine GoR.mulM' rfl rfl rfl rfl rfl rfl (g:=?_)|refine GoR.shrN rfl rfl rfl rfl rfl rfl rfl ?_|refine GoR.structEq rfl rfl rfl rfl rfl rfl (by rfl) (by rfl) ?_|refine GoR.structNe rfl rfl rfl rfl rfl rfl (by rfl) (by rfl) ?_|refine GoR.strEq rfl rfl rfl rfl rfl rfl ?_|refine GoR.strNe rfl rfl rfl rfl rfl rfl ?_|refine GoR.remN' rfl rfl rfl rfl rfl rfl (g:=?_)|refine GoR.quoN' rfl rfl rfl rfl rfl rfl (g:=?_)|refine GoR.shlN' rfl rfl rfl rfl rfl rfl rfl (g:=?_)|refine GoR.orN' rfl rfl rfl rfl rfl rfl (g:=?_))|(refine GoR.kk 5 rfl ?_;first|refine GoR.len rfl rfl rfl rfl rfl ?_|refine GoR.lenStr rfl rfl rfl rfl rfl ?_|refine GoR.capB rfl rfl rfl rfl rfl ?_)|(refine GoR.kk 7 rfl ?_;first|refine GoR.pickE' rfl rfl rfl rfl rfl (hx:=rfl) (hy:=rfl) (g:=?_)|refine GoR.pickN' rfl rfl rfl rfl rfl (hx:=rfl) (hy:=rfl) (g:=?_)|refine GoR.pickB rfl rfl rfl rfl rfl rfl rfl ?_)|(refine GoR.kk 8 rfl ?_;first|refine GoR.boxA rfl rfl rfl rfl rfl ?_|refine GoR.boxS rfl rfl rfl rfl rfl rfl ?_|refine GoR.alloc rfl rfl rfl rfl ?_)|(refine GoR.kk 9 rfl ?_;first|refine GoR.strV' rfl rfl rfl rfl rfl (g:=?_)|refine GoR.conv_u8 rfl rfl rfl rfl rfl ?_|refine GoR.convW' rfl rfl rfl rfl rfl (g:=?_)|refine GoR.conv_u16 rfl rfl rfl rfl rfl ?_|refine GoR.conv_u32 rfl rfl rfl rfl rfl ?_)|(refine GoR.kk 10 rfl ?_;first|refine GoR.build' rfl rfl rfl rfl rfl rfl (g:=?_))|(refine GoR.kk 11 rfl ?_;first|refine GoR.extract rfl rfl rfl rfl rfl rfl ?_|refine GoR.not rfl rfl rfl rfl rfl ?_|refine GoR.nilCheck rfl rfl rfl rfl rfl ?_|refine GoR.nilCheckF rfl rfl rfl rfl rfl ?_|refine GoR.makeFunc rfl rfl rfl rfl rfl rfl ?_)|(refine Go.kk 0 rfl ?_;refine Go.seq ?_)|(refine Go.kk 1 rfl ?_;refine Go.region (by kernel_rfl) rfl ?_)|(refine Go.kk 2 rfl ?_;refine Go.drawnQ rfl (by kernel_rfl) rfl ?_)|(refine Go.kk 3 rfl ?_;first|refine Go.cond_t' rfl (g:=?_)|refine Go.cond_f' rfl (g:=?_))|(refine Go.kk 4 rfl ?_;refine Go.block ?_)|(refine Go.kk 5 rfl ?_;first|refine Go.skip ?_|refine Go.ret ?_|refine Go.exit ?_|refine Go.scope ?_)|refine Go.leave_normal ?_|refine Go.leave_same ?_|refine Go.leave_ret ?_|refine Go.ret_code ?_|refine Go.exit_code ?_|refine Go.leave_other rfl ?_|refine Go.sc_normal ?_|refine Go.sc_ret ?_|refine Go.sc_exit ?_|refine Go.exit_back ?_|refine Go.ret_back ?_))
  simp only [hkm, AHeap.n_push, AHeap.n_put]
  refine GoR.name ?_
  intro h5 e5
  have T5 : TSt h h5 (⟨k, f, 0, 0, 0, 0, 0, 0, 0, 0, ⟨none, 0, 0⟩, ⟨none, 0, 0⟩, ⟨none, 0, 0⟩, ⟨none, 0, 0⟩, ⟨none, 0, 0⟩⟩ : Ck) a cap zs false := by
    have hlt := hz.lt
    have S5 : Same h h5 := by subst e5; exact (((((((Same.refl h).push _).push _).push _).put (by omega) _).push _).push _).put (by omega) _
    refine ⟨S5, by subst e5; exact Nat.le_refl _, ?_, ?_, ?_, ⟨?_, hz.same S5, fun hm => by have := hlt _ hm; omega⟩, hlt⟩
    all_goals
      subst e5
      (first | assumption | exact AHeap.get_push_same _ _ | ((repeat first | exact AHeap.get_push_same _ _ | assumption | refine get_push_lt ?_ | exact AHeap.get_put_same _ (by first | omega | (simp only [AHeap.n_push, AHeap.n_put]; omega)) _ | exact get_put_self (by assumption) | apply get_put_self | refine get_put_other (by first | omega | (simp only [AHeap.n_push, AHeap.n_put]; omega)) ?_ | refine Same.get (by assumption) ?_ | refine Keeps.get (by assumption) ?_ (fun hi => by have hx := Own.out (by assumption) hi; omega)) ; fail_if_success focus skip) | fail)
  clear e5
  have gC5 := T5.chk
  have gP5 := T5.ptr
  have m5 := T5.n
  unfold Ck.cs at gC5
  (iterate 16 (first|refine GoR.end ?_|(refine GoR.gd rfl ?_;first|refine GoR.wanted' rfl rfl rfl rfl (g:=?_)|refine GoR.unwanted' rfl rfl rfl rfl (hd:=rfl) (hN:=rfl) (g:=?_)|refine GoR.unwantedU rfl rfl rfl rfl rfl rfl ?_)|(refine GoR.kk 0 rfl ?_;first|refine GoR.move rfl rfl rfl rfl rfl ?_|refine GoR.assign rfl rfl rfl rfl rfl ?_)|(refine GoR.kk 1 rfl ?_;first|refine GoR.load' rfl rfl rfl rfl rfl (g:=?_)|refine GoR.loadA' rfl rfl rfl rfl rfl (hv:=rfl) (g:=?_)|refine GoR.loadV' rfl rfl rfl rfl rfl (g:=?_)|refine GoR.loadVN' rfl rfl rfl rfl rfl (g:=?_))|(refine GoR.kk 2 rfl ?_;first|refine GoR.store' rfl rfl rfl rfl rfl (hl:=rfl) (h1:=rfl) (h3:=rfl) (g:=?_))|(refine GoR.kk 3 rfl ?_;first|refine GoR.fieldAddr rfl rfl rfl rfl rfl ?_|refine GoR.indexN' rfl rfl rfl rfl rfl rfl (g:=?_)|refine GoR.indexNs' rfl rfl rfl rfl rfl rfl (g:=?_)|refine GoR.indexV' rfl rfl rfl rfl rfl rfl (g:=?_)|refine GoR.indexA' rfl rfl rfl rfl rfl rfl (g:=?_)|refine GoR.fieldV' rfl rfl rfl rfl rfl (g:=?_))|(refine GoR.kk 4 rfl ?_;first|refine GoR.eq rfl rfl rfl rfl rfl rfl ?_|refine GoR.ne rfl rfl rfl rfl rfl rfl ?_|refine GoR.lt rfl rfl rfl rfl rfl rfl ?_|refine GoR.le rfl rfl rfl rfl rfl rfl ?_|refine GoR.gt rfl rfl rfl rfl rfl rfl ?_|refine GoR.ge rfl rfl rfl rfl rfl rfl ?_|refine GoR.addN' rfl rfl rfl rfl rfl rfl (g:=?_)|refine GoR.subN' rfl rfl rfl rfl rfl rfl (g:=?_)|refine GoR.add' rfl rfl rfl rfl rfl rfl (g:=?_)|refine GoR.sub' rfl rfl rfl rfl rfl rfl (g:=?_)|refine GoR.addM' rfl rfl rfl rfl rfl rfl (g:=?_)|refine GoR.subM' rfl rfl rfl rfl rfl rfl (g:=?_)|refine GoR.mulM' rfl rfl rfl rfl rfl rfl (g:=?_)|refine GoR.shrN rfl rfl rfl rfl rfl rfl rfl ?_|refine GoR.structEq rfl rfl rfl rfl rfl rfl (by rfl) (by rfl) ?_|refine GoR.structNe rfl rfl rfl rfl rfl rfl (by rfl) (by rfl) ?_|refine GoR.strEq rfl rfl rfl rfl rfl rfl ?_|refine GoR.strNe rfl rfl rfl rfl rfl rfl ?_|refine GoR.remN' rfl rfl rfl rfl rfl rfl (g:=?_)|refine GoR.quoN' rfl rfl rfl rfl rfl rfl (g:=?_)|refine GoR.shlN' rfl rfl rfl rfl rfl rfl rfl (g:=?_)|refine GoR.orN' rfl rfl rfl rfl rfl rfl (g:=?_))|(refine GoR.kk 5 rfl ?_;first|refine GoR.len rfl rfl rfl rfl rfl ?_|refine GoR.lenStr rfl rfl rfl rfl rfl ?_|refine GoR.capB rfl rfl rfl rfl rfl ?_)|(refine GoR.kk 7 rfl ?_;first|refine GoR.pickE' rfl rfl rfl rfl rfl (hx:=rfl) (hy:=rfl) (g:=?_)|refine GoR.pickN' rfl rfl rfl rfl rfl (hx:=rfl) (hy:=rfl) (g:=?_)|refine GoR.pickB rfl rfl rfl rfl rfl rfl rfl ?_)|(refine GoR.kk 8 rfl ?_;first|refine GoR.boxA rfl rfl rfl rfl rfl ?_|refine GoR.boxS rfl rfl rfl rfl rfl rfl ?_|refine GoR.alloc rfl rfl rfl rfl ?_)|(refine GoR.kk 9 rfl ?_;first|refine GoR.strV' rfl rfl rfl rfl rfl (g:=?_)|refine GoR.conv_u8 rfl rfl rfl rfl rfl ?_|refine GoR.convW' rfl rfl rfl rfl rfl (g:=?_)|refine GoR.conv_u16 rfl rfl rfl rfl rfl ?_|refine GoR.conv_u32 rfl rfl rfl rfl rfl ?_)|(refine GoR.kk 10 rfl ?_;first|refine GoR.build' rfl rfl rfl rfl rfl rfl (g:=?_))|(refine GoR.kk 11 rfl ?_;first|refine GoR.extract rfl rfl rfl rfl rfl rfl ?_|refine GoR.not rfl rfl rfl rfl rfl ?_|refine GoR.nilCheck rfl rfl rfl rfl rfl ?_|refine GoR.nilCheckF rfl rfl rfl rfl rfl ?_|refine GoR.makeFunc rfl rfl rfl rfl rfl rfl ?_)|(refine Go.kk 0 rfl ?_;refine Go.seq ?_)|(refine Go.kk 1 rfl ?_;refine Go.region (by kernel_rfl) rfl ?_)|(refine Go.kk 2 rfl ?_;refine Go.drawnQ rfl (by kernel_rfl) rfl ?_)|(refine Go.kk 3 rfl ?_;first|refine Go.cond_t' rfl (g:=?_)|refine Go.cond_f' rfl (g:=?_))|(refine Go.kk 4 rfl ?_;refine Go.block ?_)|(refine Go.kk 5 rfl ?_;first|refine Go.skip ?_|refine Go.ret ?_|refine Go.exit ?_|refine Go.scope ?_)|refine Go.leave_normal ?_|refine Go.leave_same ?_|refine Go.leave_ret ?_|refine Go.ret_code ?_|refine Go.exit_code ?_|refine Go.leave_other rfl ?_|refine Go.sc_normal ?_|refine Go.sc_ret ?_|refine Go.sc_exit ?_|refine Go.exit_back ?_|refine Go.ret_back ?_))
  refine Go.join1 (α := AHeap × Ck × CD × Option Addr × Nat × List UInt8 × Bool × List Nat) (fun x => [(2, .pointer (some ⟨h.n + 1, 0, none⟩)), (4, .pointer (some ⟨h.n + 2, 0, none⟩)), (5, .pointer (some ⟨h.n + 4, 0, none⟩))]) (fun x => x.2.2.2.2.2.2.2) (fun x => x.1)
    (fun x => TSt h x.1 x.2.1 x.2.2.2.1 x.2.2.2.2.1 x.2.2.2.2.2.1 x.2.2.2.2.2.2.1 ∧ COk x.1 x.2.1 x.2.2.1 ∧ CApart (h.n + 5) x.2.1 x.2.2.1 ∧ DfOk (h.n + 5) x.1 x.2.1 x.2.2.1 x.2.2.2.2.2.2.2 ∧ finR x.2.1 x.2.2.1 x.2.2.2.2.2.2.1 x.2.2.2.2.2.1 = (rawP k f zs).filter mayP) ?_ ?_
  · rcases (show k = 0 ∨ k = 1 ∨ k = 2 ∨ k = 3 ∨ k = 6 ∨ k = 9 ∨ k = 7 ∨ k = 8 ∨ k = 11 ∨ k = 14 ∨ (k ≠ 0 ∧ k ≠ 1 ∧ k ≠ 2 ∧ k ≠ 3 ∧ k ≠ 6 ∧ k ≠ 9 ∧ k ≠ 7 ∧ k ≠ 8 ∧ k ≠ 11 ∧ k ≠ 14) by omega) with hk0 | hk0 | hk0 | hk0 | hk0 | hk0 | hk0 | hk0 | hk0 | hk0 | ⟨k0, k1, k2, k3, k6, k9, k7, k8, k11, k14⟩
    · (refine Go.run (g:=?_))
      refine GoR.callW rfl rfl rfl rfl rfl rfl rfl (((ru32_spec _ _ _ _ _ _ T5.rd hl).argA).mono ?_)
      rintro _ h6 ⟨a6, c6, rfl, r6, o6⟩ kk6
      refine ⟨fun i hi => .inr (by simp at hi; omega), ?_⟩
      have T6 := T5.call kk6 r6 o6
      have gC6 := T6.chk
      unfold Ck.cs at gC6
      try dsimp only at gC6
      have gP6 := T6.ptr
      have m6 := T6.n
      have hl6 := Nat.le_trans (left_len _ 4) hl
      (refine Go.run (g:=?_))
      refine GoR.callW rfl rfl rfl rfl rfl rfl rfl (((ru16_spec _ _ _ _ _ _ T6.rd hl6).argA).mono ?_)
      rintro _ h7 ⟨a7, c7, rfl, r7, o7⟩ kk7
      refine ⟨fun i hi => .inr (by simp at hi; omega), ?_⟩
      have T7 := T6.call kk7 r7 o7
      have gC7 := T7.chk
      unfold Ck.cs at gC7
      try dsimp only at gC7
      have gP7 := T7.ptr
      have m7 := T7.n
      have hl7 := Nat.le_trans (left_len _ 2) hl6
      (refine Go.run (g:=?_))
      refine GoR.callW rfl rfl rfl rfl rfl rfl rfl (((ru16_spec _ _ _ _ _ _ T7.rd hl7).argA).mono ?_)
      rintro _ h8 ⟨a8, c8, rfl, r8, o8⟩ kk8
      refine ⟨fun i hi => .inr (by simp at hi; omega), ?_⟩
      have T8 := T7.call kk8 r8 o8
      have gC8 := T8.chk
      unfold Ck.cs at gC8
      try dsimp only at gC8
      have gP8 := T8.ptr
      have m8 := T8.n
      have hl8 := Nat.le_trans (left_len _ 2) hl7
      (refine Go.run (g:=?_))
      refine GoR.callW rfl rfl rfl rfl rfl rfl rfl (((ru32_spec _ _ _ _ _ _ T8.rd hl8).argA).mono ?_)
      rintro _ h9 ⟨a9, c9, rfl, r9, o9⟩ kk9
      refine ⟨fun i hi => .inr (by simp at hi; omega), ?_⟩
      have T9 := T8.call kk9 r9 o9
      have gC9 := T9.chk
      unfold Ck.cs at gC9
      try dsimp only at gC9
      have gP9 := T9.ptr
      have m9 := T9.n
      have hl9 := Nat.le_trans (left_len _ 4) hl8
      (refine Go.run (g:=?_))
      refine GoR.name ?_
      intro h10 e10
      have T10 := TSt.put_eq (⟨k, f, 0, 0, num zs 4, 0, 0, num (left zs 4) 2, num (left (left zs 4) 2) 2, num (left (left (left zs 4) 2) 2) 4, ⟨none, 0, 0⟩, ⟨none, 0, 0⟩, ⟨none, 0, 0⟩, ⟨none, 0, 0⟩, ⟨none, 0, 0⟩⟩ : Ck) (((T9.put (⟨k, f, 0, 0, num zs 4, 0, 0, 0, 0, 0, ⟨none, 0, 0⟩, ⟨none, 0, 0⟩, ⟨none, 0, 0⟩, ⟨none, 0, 0⟩, ⟨none, 0, 0⟩⟩ : Ck)).put (⟨k, f, 0, 0, num zs 4, 0, 0, num (left zs 4) 2, 0, 0, ⟨none, 0, 0⟩, ⟨none, 0, 0⟩, ⟨none, 0, 0⟩, ⟨none, 0, 0⟩, ⟨none, 0, 0⟩⟩ : Ck)).put (⟨k, f, 0, 0, num zs 4, 0, 0, num (left zs 4) 2, num (left (left zs 4) 2) 2, 0, ⟨none, 0, 0⟩, ⟨none, 0, 0⟩, ⟨none, 0, 0⟩, ⟨none, 0, 0⟩, ⟨none, 0, 0⟩⟩ : Ck)) e10
      clear e10
      have gP10 := T10.ptr
      have m10 := T10.n
      refine GoR.callW rfl rfl rfl rfl rfl rfl rfl (((rrest_spec _ _ _ _ _ _ T10.rd hl9).argA).mono ?_)
      rintro _ hr10 ⟨br10, cr10, rfl, vr10, or10, rr10⟩ kr10
      refine ⟨fun i hi => .inr (by simp at hi; omega), ?_⟩
      have Tr10 := T10.call kr10 rr10 (fun i hi => by simp [blk] at hi)
      have gC10 := Tr10.chk
      unfold Ck.cs at gC10
      try dsimp only at gC10
      have mr10 := Tr10.n
      (refine Go.run (g:=?_))
      refine Go.name ?_
      intro hz10 ez10
      have Tz10 := Tr10.put_eq (⟨k, f, 0, 0, num zs 4, 0, 0, num (left zs 4) 2, num (left (left zs 4) 2) 2, num (left (left (left zs 4) 2) 2) 4, ⟨br10, (left (left (left (left zs 4) 2) 2) 4).length, cr10⟩, ⟨none, 0, 0⟩, ⟨none, 0, 0⟩, ⟨none, 0, 0⟩, ⟨none, 0, 0⟩⟩ : Ck) ez10
      have vz10 := vr10.put_eq ez10 (fun hm => by have := or10 _ hm; omega)
      clear ez10
      have ok10 : COk hz10 (⟨k, f, 0, 0, num zs 4, 0, 0, num (left zs 4) 2, num (left (left zs 4) 2) 2, num (left (left (left zs 4) 2) 2) 4, ⟨br10, (left (left (left (left zs 4) 2) 2) 4).length, cr10⟩, ⟨none, 0, 0⟩, ⟨none, 0, 0⟩, ⟨none, 0, 0⟩, ⟨none, 0, 0⟩⟩ : Ck) ⟨left (left (left (left zs 4) 2) 2) 4, [], [], [], []⟩ := { COk.base hz10 k f hk8 hf with tsn := num_lt4 _, sid := num_lt2 _, ssn := num_lt2 _, ppid := num_lt4 _, dl := rfl, dv := vz10.rv }
      refine Go.joined (hz10, _, _, none, 0, [], _, []) ⟨Tz10, ok10, ⟨or10.mono (by omega), Own.nil _, Own.nil _, Own.nil _, Own.nil _, fun x hx => by cases hx⟩, .inl rfl, ?_⟩ ⟨rfl, rfl, rfl, trivial⟩ rfl rfl
      subst hk0
      exact k0_fin f zs ok10
    · (refine Go.run (g:=?_))
      refine GoR.callW rfl rfl rfl rfl rfl rfl rfl (((ru32_spec _ _ _ _ _ _ T5.rd hl).argA).mono ?_)
      rintro _ h6 ⟨a6, c6, rfl, r6, o6⟩ kk6
      refine ⟨fun i hi => .inr (by simp at hi; omega), ?_⟩
      have T6 := T5.call kk6 r6 o6
      have gC6 := T6.chk
      unfold Ck.cs at gC6
      try dsimp only at gC6
      have gP6 := T6.ptr
      have m6 := T6.n
      have hl6 := Nat.le_trans (left_len _ 4) hl
      (refine Go.run (g:=?_))
      refine GoR.callW rfl rfl rfl rfl rfl rfl rfl (((ru32_spec _ _ _ _ _ _ T6.rd hl6).argA).mono ?_)
      rintro _ h7 ⟨a7, c7, rfl, r7, o7⟩ kk7
      refine ⟨fun i hi => .inr (by simp at hi; omega), ?_⟩
      have T7 := T6.call kk7 r7 o7
      have gC7 := T7.chk
      unfold Ck.cs at gC7
      try dsimp only at gC7
      have gP7 := T7.ptr
      have m7 := T7.n
      have hl7 := Nat.le_trans (left_len _ 4) hl6
      (refine Go.run (g:=?_))
      refine GoR.callW rfl rfl rfl rfl rfl rfl rfl (((ru16_spec _ _ _ _ _ _ T7.rd hl7).argA).mono ?_)
      rintro _ h8 ⟨a8, c8, rfl, r8, o8⟩ kk8
      refine ⟨fun i hi => .inr (by simp at hi; omega), ?_⟩
      have T8 := T7.call kk8 r8 o8
      have gC8 := T8.chk
      unfold Ck.cs at gC8
      try dsimp only at gC8
      have gP8 := T8.ptr
      have m8 := T8.n
      have hl8 := Nat.le_trans (left_len _ 2) hl7
      (refine Go.run (g:=?_))
      refine GoR.callW rfl rfl rfl rfl rfl rfl rfl (((ru16_spec _ _ _ _ _ _ T8.rd hl8).argA).mono ?_)
      rintro _ h9 ⟨a9, c9, rfl, r9, o9⟩ kk9
      refine ⟨fun i hi => .inr (by simp at hi; omega), ?_⟩
      have T9 := T8.call kk9 r9 o9
      have gC9 := T9.chk
      unfold Ck.cs at gC9
      try dsimp only at gC9
      have gP9 := T9.ptr
      have m9 := T9.n
      have hl9 := Nat.le_trans (left_len _ 2) hl8
      (refine Go.run (g:=?_))
      refine GoR.callW rfl rfl rfl rfl rfl rfl rfl (((ru32_spec _ _ _ _ _ _ T9.rd hl9).argA).mono ?_)
      rintro _ h10 ⟨a10, c10, rfl, r10, o10⟩ kk10
      refine ⟨fun i hi => .inr (by simp at hi; omega), ?_⟩
      have T10 := T9.call kk10 r10 o10
      have gC10 := T10.chk
      unfold Ck.cs at gC10
      try dsimp only at gC10
      have gP10 := T10.ptr
      have m10 := T10.n
      have hl10 := Nat.le_trans (left_len _ 4) hl9
      (refine Go.run (g:=?_))
      refine GoR.name ?_
      intro h11 e11
      have T11 := TSt.put_eq (⟨k, f, num zs 4, num (left zs 4) 4, num (left (left (left (left zs 4) 4) 2) 2) 4, num (left (left zs 4) 4) 2, num (left (left (left zs 4) 4) 2) 2, 0, 0, 0, ⟨none, 0, 0⟩, ⟨none, 0, 0⟩, ⟨none, 0, 0⟩, ⟨none, 0, 0⟩, ⟨none, 0, 0⟩⟩ : Ck) ((((T10.put (⟨k, f, num zs 4, 0, 0, 0, 0, 0, 0, 0, ⟨none, 0, 0⟩, ⟨none, 0, 0⟩, ⟨none, 0, 0⟩, ⟨none, 0, 0⟩, ⟨none, 0, 0⟩⟩ : Ck)).put (⟨k, f, num zs 4, num (left zs 4) 4, 0, 0, 0, 0, 0, 0, ⟨none, 0, 0⟩, ⟨none, 0, 0⟩, ⟨none, 0, 0⟩, ⟨none, 0, 0⟩, ⟨none, 0, 0⟩⟩ : Ck)).put (⟨k, f, num zs 4, num (left zs 4) 4, 0, num (left (left zs 4) 4) 2, 0, 0, 0, 0, ⟨none, 0, 0⟩, ⟨none, 0, 0⟩, ⟨none, 0, 0⟩, ⟨none, 0, 0⟩, ⟨none, 0, 0⟩⟩ : Ck)).put (⟨k, f, num zs 4, num (left zs 4) 4, 0, num (left (left zs 4) 4) 2, num (left (left (left zs 4) 4) 2) 2, 0, 0, 0, ⟨none, 0, 0⟩, ⟨none, 0, 0⟩, ⟨none, 0, 0⟩, ⟨none, 0, 0⟩, ⟨none, 0, 0⟩⟩ : Ck)) e11
      clear e11
      have m11 := T11.n
      refine GoR.callW rfl rfl rfl rfl rfl rfl rfl (((rparams_spec _ _ _ (⟨k, f, num zs 4, num (left zs 4) 4, num (left (left (left (left zs 4) 4) 2) 2) 4, num (left (left zs 4) 4) 2, num (left (left (left zs 4) 4) 2) 2, 0, 0, 0, ⟨none, 0, 0⟩, ⟨none, 0, 0⟩, ⟨none, 0, 0⟩, ⟨none, 0, 0⟩, ⟨none, 0, 0⟩⟩ : Ck) rfl rfl _ _ _ _ T11.chk T11.rd (by omega) hl10).argA).mono ?_)
      rintro _ h12 ⟨s, gq12, r12, vA, lA, aA, lD, vD, oA, oD, hp⟩ k12
      refine ⟨fun i hi => .inr (by simp at hi; omega), ?_⟩
      have T12 := T11.params k12 gq12 r12
      have ok12 : COk h12 (⟨k, f, num zs 4, num (left zs 4) 4, num (left (left (left (left zs 4) 4) 2) 2) 4, num (left (left zs 4) 4) 2, num (left (left (left zs 4) 4) 2) 2, 0, 0, 0, s.D, s.A, ⟨none, 0, 0⟩, ⟨none, 0, 0⟩, ⟨none, 0, 0⟩⟩ : Ck) ⟨s.data, s.addrs, [], [], []⟩ := { COk.base h12 k f hk8 hf with tag := num_lt4 _, rwnd := num_lt4 _, out := num_lt2 _, inn := num_lt2 _, tsn := num_lt4 _, dl := lD, dv := vD, al := lA, av := vA.rv, ab := aA }
      (refine Go.run (g:=?_))
      refine Go.joined (h12, _, _, none, 0, [], _, []) ⟨T12, ok12, ⟨oD.mono (by omega), oA.mono (by omega), Own.nil _, Own.nil _, Own.nil _, fun x hx => by cases hx⟩, .inl rfl, ?_⟩ ⟨rfl, rfl, rfl, trivial⟩ rfl rfl
      exact k1_fin k f (by omega) zs s hp ok12
    · (refine Go.run (g:=?_))
      refine GoR.callW rfl rfl rfl rfl rfl rfl rfl (((ru32_spec _ _ _ _ _ _ T5.rd hl).argA).mono ?_)
      rintro _ h6 ⟨a6, c6, rfl, r6, o6⟩ kk6
      refine ⟨fun i hi => .inr (by simp at hi; omega), ?_⟩
      have T6 := T5.call kk6 r6 o6
      have gC6 := T6.chk
      unfold Ck.cs at gC6
      try dsimp only at gC6
      have gP6 := T6.ptr
      have m6 := T6.n
      have hl6 := Nat.le_trans (left_len _ 4) hl
      (refine Go.run (g:=?_))
      refine GoR.callW rfl rfl rfl rfl rfl rfl rfl (((ru32_spec _ _ _ _ _ _ T6.rd hl6).argA).mono ?_)
      rintro _ h7 ⟨a7, c7, rfl, r7, o7⟩ kk7
      refine ⟨fun i hi => .inr (by simp at hi; omega), ?_⟩
      have T7 := T6.call kk7 r7 o7
      have gC7 := T7.chk
      unfold Ck.cs at gC7
      try dsimp only at gC7
      have gP7 := T7.ptr
      have m7 := T7.n
      have hl7 := Nat.le_trans (left_len _ 4) hl6
      (refine Go.run (g:=?_))
      refine GoR.callW rfl rfl rfl rfl rfl rfl rfl (((ru16_spec _ _ _ _ _ _ T7.rd hl7).argA).mono ?_)
      rintro _ h8 ⟨a8, c8, rfl, r8, o8⟩ kk8
      refine ⟨fun i hi => .inr (by simp at hi; omega), ?_⟩
      have T8 := T7.call kk8 r8 o8
      have gC8 := T8.chk
      unfold Ck.cs at gC8
      try dsimp only at gC8
      have gP8 := T8.ptr
      have m8 := T8.n
      have hl8 := Nat.le_trans (left_len _ 2) hl7
      (refine Go.run (g:=?_))
      refine GoR.callW rfl rfl rfl rfl rfl rfl rfl (((ru16_spec _ _ _ _ _ _ T8.rd hl8).argA).mono ?_)
      rintro _ h9 ⟨a9, c9, rfl, r9, o9⟩ kk9
      refine ⟨fun i hi => .inr (by simp at hi; omega), ?_⟩
      have T9 := T8.call kk9 r9 o9
      have gC9 := T9.chk
      unfold Ck.cs at gC9
      try dsimp only at gC9
      have gP9 := T9.ptr
      have m9 := T9.n
      have hl9 := Nat.le_trans (left_len _ 2) hl8
      (refine Go.run (g:=?_))
      refine GoR.callW rfl rfl rfl rfl rfl rfl rfl (((ru32_spec _ _ _ _ _ _ T9.rd hl9).argA).mono ?_)
      rintro _ h10 ⟨a10, c10, rfl, r10, o10⟩ kk10
      refine ⟨fun i hi => .inr (by simp at hi; omega), ?_⟩
      have T10 := T9.call kk10 r10 o10
      have gC10 := T10.chk
      unfold Ck.cs at gC10
      try dsimp only at gC10
      have gP10 := T10.ptr
      have m10 := T10.n
      have hl10 := Nat.le_trans (left_len _ 4) hl9
      (refine Go.run (g:=?_))
      refine GoR.name ?_
      intro h11 e11
      have T11 := TSt.put_eq (⟨k, f, num zs 4, num (left zs 4) 4, num (left (left (left (left zs 4) 4) 2) 2) 4, num (left (left zs 4) 4) 2, num (left (left (left zs 4) 4) 2) 2, 0, 0, 0, ⟨none, 0, 0⟩, ⟨none, 0, 0⟩, ⟨none, 0, 0⟩, ⟨none, 0, 0⟩, ⟨none, 0, 0⟩⟩ : Ck) ((((T10.put (⟨k, f, num zs 4, 0, 0, 0, 0, 0, 0, 0, ⟨none, 0, 0⟩, ⟨none, 0, 0⟩, ⟨none, 0, 0⟩, ⟨none, 0, 0⟩, ⟨none, 0, 0⟩⟩ : Ck)).put (⟨k, f, num zs 4, num (left zs 4) 4, 0, 0, 0, 0, 0, 0, ⟨none, 0, 0⟩, ⟨none, 0, 0⟩, ⟨none, 0, 0⟩, ⟨none, 0, 0⟩, ⟨none, 0, 0⟩⟩ : Ck)).put (⟨k, f, num zs 4, num (left zs 4) 4, 0, num (left (left zs 4) 4) 2, 0, 0, 0, 0, ⟨none, 0, 0⟩, ⟨none, 0, 0⟩, ⟨none, 0, 0⟩, ⟨none, 0, 0⟩, ⟨none, 0, 0⟩⟩ : Ck)).put (⟨k, f, num zs 4, num (left zs 4) 4, 0, num (left (left zs 4) 4) 2, num (left (left (left zs 4) 4) 2) 2, 0, 0, 0, ⟨none, 0, 0⟩, ⟨none, 0, 0⟩, ⟨none, 0, 0⟩, ⟨none, 0, 0⟩, ⟨none, 0, 0⟩⟩ : Ck)) e11
      clear e11
      have m11 := T11.n
      refine GoR.callW rfl rfl rfl rfl rfl rfl rfl (((rparams_spec _ _ _ (⟨k, f, num zs 4, num (left zs 4) 4, num (left (left (left (left zs 4) 4) 2) 2) 4, num (left (left zs 4) 4) 2, num (left (left (left zs 4) 4) 2) 2, 0, 0, 0, ⟨none, 0, 0⟩, ⟨none, 0, 0⟩, ⟨none, 0, 0⟩, ⟨none, 0, 0⟩, ⟨none, 0, 0⟩⟩ : Ck) rfl rfl _ _ _ _ T11.chk T11.rd (by omega) hl10).argA).mono ?_)
      rintro _ h12 ⟨s, gq12, r12, vA, lA, aA, lD, vD, oA, oD, hp⟩ k12
      refine ⟨fun i hi => .inr (by simp at hi; omega), ?_⟩
      have T12 := T11.params k12 gq12 r12
      have ok12 : COk h12 (⟨k, f, num zs 4, num (left zs 4) 4, num (left (left (left (left zs 4) 4) 2) 2) 4, num (left (left zs 4) 4) 2, num (left (left (left zs 4) 4) 2) 2, 0, 0, 0, s.D, s.A, ⟨none, 0, 0⟩, ⟨none, 0, 0⟩, ⟨none, 0, 0⟩⟩ : Ck) ⟨s.data, s.addrs, [], [], []⟩ := { COk.base h12 k f hk8 hf with tag := num_lt4 _, rwnd := num_lt4 _, out := num_lt2 _, inn := num_lt2 _, tsn := num_lt4 _, dl := lD, dv := vD, al := lA, av := vA.rv, ab := aA }
      (refine Go.run (g:=?_))
      refine Go.joined (h12, _, _, none, 0, [], _, []) ⟨T12, ok12, ⟨oD.mono (by omega), oA.mono (by omega), Own.nil _, Own.nil _, Own.nil _, fun x hx => by cases hx⟩, .inl rfl, ?_⟩ ⟨rfl, rfl, rfl, trivial⟩ rfl rfl
      exact k1_fin k f (by omega) zs s hp ok12
    · (refine Go.run (g:=?_))
      refine GoR.callW rfl rfl rfl rfl rfl rfl rfl (((ru32_spec _ _ _ _ _ _ T5.rd hl).argA).mono ?_)
      rintro _ h6 ⟨a6, c6, rfl, r6, o6⟩ kk6
      refine ⟨fun i hi => .inr (by simp at hi; omega), ?_⟩
      have T6 := T5.call kk6 r6 o6
      have gC6 := T6.chk
      unfold Ck.cs at gC6
      try dsimp only at gC6
      have gP6 := T6.ptr
      have m6 := T6.n
      have hl6 := Nat.le_trans (left_len _ 4) hl
      (refine Go.run (g:=?_))
      refine GoR.callW rfl rfl rfl rfl rfl rfl rfl (((ru32_spec _ _ _ _ _ _ T6.rd hl6).argA).mono ?_)
      rintro _ h7 ⟨a7, c7, rfl, r7, o7⟩ kk7
      refine ⟨fun i hi => .inr (by simp at hi; omega), ?_⟩
      have T7 := T6.call kk7 r7 o7
      have gC7 := T7.chk
      unfold Ck.cs at gC7
      try dsimp only at gC7
      have gP7 := T7.ptr
      have m7 := T7.n
      have hl7 := Nat.le_trans (left_len _ 4) hl6
      (refine Go.run (g:=?_))
      refine GoR.name ?_
      intro h8 e8
      have T8 := TSt.put_eq (⟨k, f, 0, num (left zs 4) 4, num zs 4, 0, 0, 0, 0, 0, ⟨none, 0, 0⟩, ⟨none, 0, 0⟩, ⟨none, 0, 0⟩, ⟨none, 0, 0⟩, ⟨none, 0, 0⟩⟩ : Ck) (T7.put (⟨k, f, 0, 0, num zs 4, 0, 0, 0, 0, 0, ⟨none, 0, 0⟩, ⟨none, 0, 0⟩, ⟨none, 0, 0⟩, ⟨none, 0, 0⟩, ⟨none, 0, 0⟩⟩ : Ck)) e8
      clear e8
      have gC8 := T8.chk
      unfold Ck.cs at gC8
      have gP8 := T8.ptr
      have m8 := T8.n
      (refine Go.run (g:=?_))
      refine GoR.callW rfl rfl rfl rfl rfl rfl rfl (((ru16_spec _ _ _ _ _ _ T8.rd hl7).argA).mono ?_)
      rintro _ h9 ⟨a9, c9, rfl, r9, o9⟩ kk9
      refine ⟨fun i hi => .inr (by simp at hi; omega), ?_⟩
      have T9 := T8.call kk9 r9 o9
      have gC9 := T9.chk
      unfold Ck.cs at gC9
      try dsimp only at gC9
      have gP9 := T9.ptr
      have m9 := T9.n
      have hl9 := Nat.le_trans (left_len _ 2) hl7
      (refine Go.run (g:=?_))
      refine GoR.callW rfl rfl rfl rfl rfl rfl rfl (((ru16_spec _ _ _ _ _ _ T9.rd hl9).argA).mono ?_)
      rintro _ h10 ⟨a10, c10, rfl, r10, o10⟩ kk10
      refine ⟨fun i hi => .inr (by simp at hi; omega), ?_⟩
      have T10 := T9.call kk10 r10 o10
      have gC10 := T10.chk
      unfold Ck.cs at gC10
      try dsimp only at gC10
      have gP10 := T10.ptr
      have m10 := T10.n
      have hl10 := Nat.le_trans (left_len _ 2) hl9
      have hG2 := num_lt2 (left (left zs 4) 4)
      have hU2 := num_lt2 (left (left (left zs 4) 4) 2)
      generalize hG : num (left (left zs 4) 4) 2 = G at hG2 ⊢
      generalize hU : num (left (left (left zs 4) 4) 2) 2 = U at hU2 ⊢
      generalize hy : left (left (left (left zs 4) 4) 2) 2 = ys0 at T10 hl10
      generalize hb : (false || short zs 4 || short (left zs 4) 4 || short (left (left zs 4) 4) 2 || short (left (left (left zs 4) 4) 2) 2) = bad0 at T10
      (refine Go.run (g:=?_))
      refine GoR.minI rfl rfl rfl rfl rfl rfl ?_
      rw [show (if (65 : Int) < (G : Int) then (65 : Int) else (G : Int)) = ((min G 65 : Nat) : Int) from by split <;> omega]
      (refine Go.run (g:=?_))
      refine Go.loop (α := Nat × AHeap × Option Addr × Nat × Option Addr × Nat) (fun x => [(86, .int .u16 x.1), (85, .int .u16 (min G 65 : Nat)), (9, .int .u16 U), (7, .func (.func 58) #[.pointer (some ⟨h.n + 3, 0, none⟩)] #[]), (6, .func (.func 57) #[.pointer (some ⟨h.n + 3, 0, none⟩)] #[]), (2, .pointer (some ⟨h.n + 1, 0, none⟩)), (4, .pointer (some ⟨h.n + 2, 0, none⟩)), (5, .pointer (some ⟨h.n + 4, 0, none⟩))]) (fun _ => []) (fun x => x.2.1)
        (fun x => x.1 ≤ min G 65 ∧ TSt h x.2.1 (⟨k, f, 0, num (left zs 4) 4, num zs 4, 0, 0, 0, 0, 0, ⟨none, 0, 0⟩, ⟨none, 0, 0⟩, ⟨x.2.2.2.2.1, x.1, x.2.2.2.2.2⟩, ⟨none, 0, 0⟩, ⟨none, 0, 0⟩⟩ : Ck) x.2.2.1 x.2.2.2.1 (gapsR x.1 ys0 bad0).2.1 (gapsR x.1 ys0 bad0).2.2 ∧ Sv x.2.1 78 2 x.2.2.2.2.1 x.1 x.2.2.2.2.2 (gcs (gapsR x.1 ys0 bad0).1) ∧ Own (h.n + 5) x.2.2.2.2.1) (fun x => min G 65 - x.1) (0, h10, a10, c10, none, 0) ?_ ?_ rfl rfl ?_
      · exact ⟨Nat.zero_le _, T10, .nil, Own.nil _⟩
      · exact ⟨rfl, rfl, rfl, rfl, rfl, rfl, rfl, rfl, trivial⟩
      clear T5 T6 T7 T8 T9 T10 gC5 gC6 gC7 gC8 gC9 gC10 gP5 gP6 gP7 gP8 gP9 gP10 r6 r7 r9 r10
      rintro ⟨i, H, a1, c1, b1, cb1⟩ ⟨hi, T, hsv, hob⟩
      simp only at hi T hsv hob ⊢
      have hlT := Nat.le_trans (gapsR_rest i ys0 bad0) hl10
      have gC := T.chk
      unfold Ck.cs at gC
      try dsimp only at gC
      have gP := T.ptr
      have mT := T.n
      rcases Nat.lt_or_ge i (min G 65) with i0 | i0
      · (refine Go.run (g:=?_))
        refine Go.loud (by kernel_rfl) rfl ?_
        (refine Go.runL (g:=?_))
        refine GoL.call rfl rfl rfl rfl rfl rfl rfl (((ru16_spec _ _ _ _ _ _ T.rd hlT).argA).mono ?_)
        rintro _ h1 ⟨a1, c1, rfl, r1, o1⟩ kk1
        refine ⟨fun i hi => .inr (by simp at hi; omega), ?_⟩
        have T1 := T.call kk1 r1 o1
        have gC1 := T1.chk
        unfold Ck.cs at gC1
        try dsimp only at gC1
        have m1 := T1.n
        have hl1 := Nat.le_trans (left_len _ 2) hlT
        (refine Go.runL (g:=?_))
        refine GoL.call rfl rfl rfl rfl rfl rfl rfl (((ru16_spec _ _ _ _ _ _ T1.rd hl1).argA).mono ?_)
        rintro _ h2 ⟨a2, c2, rfl, r2, o2⟩ kk2
        refine ⟨fun i hi => .inr (by simp at hi; omega), ?_⟩
        have T2 := T1.call kk2 r2 o2
        have gC2 := T2.chk
        unfold Ck.cs at gC2
        try dsimp only at gC2
        have m2 := T2.n
        have hl2 := Nat.le_trans (left_len _ 2) hl1
        have hn1 := num_lt2 (gapsR i ys0 bad0).2.1
        have hn2 := num_lt2 (left (gapsR i ys0 bad0).2.1 2)
        have hsv2 := (hsv.keeps kk1 (fun i hi hm => by simp only [List.mem_singleton] at hm; have := hob _ hi; omega)).keeps kk2 (fun i hi hm => by simp only [List.mem_singleton] at hm; have := hob _ hi; omega)
        (refine Go.runL (g:=?_))
        refine GoL.buildRo (c := [.int .u16 (num (gapsR i ys0 bad0).2.1 2 : Nat), .int .u16 (num (left (gapsR i ys0 bad0).2.1 2) 2 : Nat)]) rfl rfl rfl rfl rfl (by decide) (by rfl) (by rfl) ?_
        intro b8 h8 hb8 rb8 ob8 s8 n8
        have T8 := T2.to s8
        refine GoL.appendV rfl rfl rfl rfl rfl rfl (hsv2.same s8) hb8 (fun i hi => .inr (by have := hob _ hi; omega)) (by omega) (by omega) (by rfl) ?_
        intro b9 c9 h9 rd wr hwr hrd hs9 k9 o9
        have T9 := T8.app k9 hob
        have gC9 := T9.chk
        unfold Ck.cs at gC9
        try dsimp only at gC9
        have m9 := T9.n
        have nk9 := k9.1
        (refine Go.runL (g:=?_))
        refine GoL.store' rfl rfl rfl rfl rfl (hl:=rfl) (h1:=rfl) (h3:=rfl) (g:=?_)
        refine GoL.end_ (hl := by (simp only [List.nil_append, List.cons_append]); repeat (first | exact loudP.nil | refine loudP.none ?_ | refine loudP.new (fun _ hb => absurd hb List.not_mem_nil) ?_ | refine loudP.row (by repeat (first | exact loudRowP.nil | refine loudRowP.none ?_ | refine loudRowP.bef (by decide +kernel) ?_ | refine loudRowP.apart (by first | exact .inl rfl | exact .inr (by simp)) rfl (by intro i hi; simp only [List.mem_singleton] at hi; subst hi; simp; omega) ?_)) ?_)) ?_
        (refine Go.run (g:=?_))
        refine Go.name ?_
        intro h10 e10
        have TT := T9.put_eq (⟨k, f, 0, num (left zs 4) 4, num zs 4, 0, 0, 0, 0, 0, ⟨none, 0, 0⟩, ⟨none, 0, 0⟩, ⟨b9, i + 1, c9⟩, ⟨none, 0, 0⟩, ⟨none, 0, 0⟩⟩ : Ck) e10
        have ob9 : Own (h.n + 5) b9 := hob.app (by omega) o9
        have hs10 := hs9.put_eq e10 (fun hm => by have := ob9 _ hm; omega)
        exact Go.again (i + 1, h10, a2, c2, b9, c9) ⟨by simp only; omega, TT, by simp only [gapsR, gcs_snoc]; exact hs10, ob9⟩ (by simp only; omega) ⟨rfl, rfl, rfl, rfl, rfl, rfl, rfl, rfl, trivial⟩ rfl rfl
      have hie : i = min G 65 := by omega
      subst hie
      have hgl := gapsR_len (min G 65) ys0 bad0
      have hlG := gapsR_rest (min G 65) ys0 bad0
      generalize hys1 : (gapsR (min G 65) ys0 bad0).2.1 = ys1 at T hlT
      generalize hbad1 : (gapsR (min G 65) ys0 bad0).2.2 = bad1 at T
      (refine Go.run (g:=?_))
      refine GoR.minI rfl rfl rfl rfl rfl rfl ?_
      rw [show (if (17 : Int) < (U : Int) then (17 : Int) else (U : Int)) = ((min U 17 : Nat) : Int) from by split <;> omega]
      (refine Go.run (g:=?_))
      refine Go.loop (α := Nat × AHeap × Option Addr × Nat × Option Addr × Nat) (fun x => [(101, .int .u16 x.1), (100, .int .u16 (min U 17 : Nat)), (7, .func (.func 58) #[.pointer (some ⟨h.n + 3, 0, none⟩)] #[]), (6, .func (.func 57) #[.pointer (some ⟨h.n + 3, 0, none⟩)] #[]), (2, .pointer (some ⟨h.n + 1, 0, none⟩)), (4, .pointer (some ⟨h.n + 2, 0, none⟩)), (5, .pointer (some ⟨h.n + 4, 0, none⟩))]) (fun _ => []) (fun x => x.2.1)
        (fun x => x.1 ≤ min U 17 ∧ TSt h x.2.1 (⟨k, f, 0, num (left zs 4) 4, num zs 4, 0, 0, 0, 0, 0, ⟨none, 0, 0⟩, ⟨none, 0, 0⟩, ⟨b1, min G 65, cb1⟩, ⟨x.2.2.2.2.1, x.1, x.2.2.2.2.2⟩, ⟨none, 0, 0⟩⟩ : Ck) x.2.2.1 x.2.2.2.1 (dupsR x.1 ys1 bad1).2.1 (dupsR x.1 ys1 bad1).2.2 ∧ Sv x.2.1 23 1 x.2.2.2.2.1 x.1 x.2.2.2.2.2 (w32s (dupsR x.1 ys1 bad1).1) ∧ Own (h.n + 5) x.2.2.2.2.1 ∧ Sv x.2.1 78 2 b1 (min G 65) cb1 (gcs (gapsR (min G 65) ys0 bad0).1) ∧ ∀ i ∈ blk b1, i ∉ blk x.2.2.2.2.1) (fun x => min U 17 - x.1) (0, H, a1, c1, none, 0) ?_ ?_ rfl rfl ?_
      · exact ⟨Nat.zero_le _, T, .nil, Own.nil _, hsv, fun i _ hm => by simp [blk] at hm⟩
      · exact ⟨rfl, rfl, rfl, rfl, rfl, rfl, rfl, trivial⟩
      clear T hsv gC gP mT
      rintro ⟨i, H, a1, c1, b2, cb2⟩ ⟨hi, T, hsv, hob2, hsvG, hap⟩
      simp only at hi T hsv hob2 hsvG hap ⊢
      have hlU := Nat.le_trans (dupsR_rest i ys1 bad1) hlT
      have gC := T.chk
      unfold Ck.cs at gC
      try dsimp only at gC
      have gP := T.ptr
      have mT := T.n
      rcases Nat.lt_or_ge i (min U 17) with i0 | i0
      · (refine Go.run (g:=?_))
        refine Go.loud (by kernel_rfl) rfl ?_
        (refine Go.runL (g:=?_))
        refine GoL.call rfl rfl rfl rfl rfl rfl rfl (((ru32_spec _ _ _ _ _ _ T.rd hlU).argA).mono ?_)
        rintro _ h2 ⟨a2, c2, rfl, r2, o2⟩ kk2
        refine ⟨fun i hi => .inr (by simp at hi; omega), ?_⟩
        have T2 := T.call kk2 r2 o2
        have gC2 := T2.chk
        unfold Ck.cs at gC2
        try dsimp only at gC2
        have m2 := T2.n
        have hl2 := Nat.le_trans (left_len _ 4) hlU
        have hn1 := num_lt4 (dupsR i ys1 bad1).2.1
        have nr3 : ∀ {b : Option Addr}, Own (h.n + 5) b → ∀ i ∈ blk b, i ∉ [h.n + 3] := fun w i hi hm => by simp only [List.mem_singleton] at hm; have := w _ hi; omega
        have hsv2 := hsv.keeps kk2 (nr3 hob2)
        have hsvG2 := hsvG.keeps kk2 (nr3 hob)
        (refine Go.runL (g:=?_))
        refine GoL.buildRo (c := w32s [num (dupsR i ys1 bad1).2.1 4]) rfl rfl rfl rfl rfl (by decide) (by rfl) (by rfl) ?_
        intro b8 h8 hb8 rb8 ob8 s8 n8
        have T8 := T2.to s8
        refine GoL.appendV rfl rfl rfl rfl rfl rfl (hsv2.same s8) hb8 (fun i hi => .inr (by have := hob2 _ hi; omega)) (by omega) (by omega) (by rfl) ?_
        intro b9 c9 h9 rd wr hwr hrd hs9 k9 o9
        have T9 := T8.app k9 hob2
        have gC9 := T9.chk
        unfold Ck.cs at gC9
        try dsimp only at gC9
        have m9 := T9.n
        have nk9 := k9.1
        have hsvG9 := (hsvG2.same s8).keeps k9 hap
        have hap9 : ∀ i ∈ blk b1, i ∉ blk b9 := fun i hi hm => (o9 i hm).elim (hap i hi) (fun x => by have := (hsvG2.same s8).lt _ hi; omega)
        (refine Go.runL (g:=?_))
        refine GoL.store' rfl rfl rfl rfl rfl (hl:=rfl) (h1:=rfl) (h3:=rfl) (g:=?_)
        refine GoL.end_ (hl := by (simp only [List.nil_append, List.cons_append]); repeat (first | exact loudP.nil | refine loudP.none ?_ | refine loudP.new (fun _ hb => absurd hb List.not_mem_nil) ?_ | refine loudP.row (by repeat (first | exact loudRowP.nil | refine loudRowP.none ?_ | refine loudRowP.bef (by decide +kernel) ?_ | refine loudRowP.apart (by first | exact .inl rfl | exact .inr (by simp)) rfl (by intro i hi; simp only [List.mem_singleton] at hi; subst hi; simp; omega) ?_)) ?_)) ?_
        (refine Go.run (g:=?_))
        refine Go.name ?_
        intro h10 e10
        have TT := T9.put_eq (⟨k, f, 0, num (left zs 4) 4, num zs 4, 0, 0, 0, 0, 0, ⟨none, 0, 0⟩, ⟨none, 0, 0⟩, ⟨b1, min G 65, cb1⟩, ⟨b9, i + 1, c9⟩, ⟨none, 0, 0⟩⟩ : Ck) e10
        have ob9 : Own (h.n + 5) b9 := hob2.app (by omega) o9
        have hs10 := hs9.put_eq e10 (fun hm => by have := ob9 _ hm; omega)
        have hsvG10 := hsvG9.put_eq e10 (fun hm => by have := hob _ hm; omega)
        exact Go.again (i + 1, h10, a2, c2, b9, c9) ⟨by simp only; omega, TT, by simp only [dupsR, w32s, List.map_append]; exact hs10, ob9, hsvG10, hap9⟩ (by simp only; omega) ⟨rfl, rfl, rfl, rfl, rfl, rfl, rfl, trivial⟩ rfl rfl
      have hie : i = min U 17 := by omega
      subst hie
      subst hys1 hbad1
      have okF : COk H (⟨k, f, 0, num (left zs 4) 4, num zs 4, 0, 0, 0, 0, 0, ⟨none, 0, 0⟩, ⟨none, 0, 0⟩, ⟨b1, min G 65, cb1⟩, ⟨b2, min U 17, cb2⟩, ⟨none, 0, 0⟩⟩ : Ck) ⟨[], [], (gapsR (min G 65) ys0 bad0).1, (dupsR (min U 17) (gapsR (min G 65) ys0 bad0).2.1 (gapsR (min G 65) ys0 bad0).2.2).1, []⟩ := { COk.base H k f hk8 hf with tsn := num_lt4 _, rwnd := num_lt4 _, gl := hgl, gv := hsvG.rv, gb := gapsR_lt _ _ _, ul := dupsR_len _ _ _, uv := hsv.rv, ub := dupsR_lt _ _ _ }
      (refine Go.run (g:=?_))
      refine Go.joined (H, _, _, a1, c1, _, _, []) ⟨T, okF, ⟨Own.nil _, Own.nil _, hob, hob2, Own.nil _, fun x hx => by cases hx⟩, .inl rfl, ?_⟩ ⟨rfl, rfl, rfl, trivial⟩ rfl rfl
      subst hk0
      exact k3_fin f zs hG hU hy hb okF
    · (refine Go.run (g:=?_))
      refine GoR.callW rfl rfl rfl rfl rfl rfl rfl (((rrest_spec _ _ _ _ _ _ T5.rd hl).argA).mono ?_)
      rintro _ h6 ⟨br, cr, rfl, vr, orr, rr⟩ kr
      refine ⟨fun i hi => .inr (by simp at hi; omega), ?_⟩
      have T6 := T5.call kr rr (fun i hi => by simp [blk] at hi)
      have m6 := T6.n
      (refine Go.run (g:=?_))
      refine GoR.call rfl rfl rfl rfl rfl rfl rfl (((allCall_spec false br zs.length cr _).argA).mono ?_)
      rintro _ _ ⟨rfl, rfl⟩ -
      (refine Go.run (g:=?_))
      refine Go.name ?_
      intro h7 e7
      have s7 : Same h6 h7 := by subst e7; exact ((Same.refl h6).push _).push _
      have n7 : h7.n = h6.n + 2 := by subst e7; rfl
      have gcb : h7.get h6.n = some (.cells [.bool false] 4) := by subst e7; exact get_push_lt (AHeap.get_push_same _ _)
      have gbb : h7.get (h6.n + 1) = some (.cells [.slice br zs.length cr] 31) := by subst e7; exact AHeap.get_push_same (h6.push _) _
      clear e7
      have T7 := T6.to s7
      have vr7 := vr.same s7
      refine Go.rangeFunc' (wr := [h7.n + 1, h.n + 2, h.n + 3, h7.n]) rfl (by rfl) (by kernel_rfl) ?_
      intro tm ps asg bo HH eps easg ebo eH hN hr
      have Hs : Same h7 HH := by subst eH; exact ((Same.refl h7).push _).push _
      have Hl : HH.get (h7.n + 1) = some (.loop .ready none tm ps asg bo h7.n) := by subst eH; exact AHeap.get_push_same (h7.push _) _
      have Hd : HH.get h7.n = some (.deferred true) := by subst eH; exact get_push_lt (AHeap.get_push_same _ _)
      have Hn : HH.n = h7.n + 2 := by subst eH; rfl
      clear eH
      have TH := T7.to Hs
      have vrH := vr7.same Hs
      have hpl := parse_len (chunk := false) zs
      have hob : ∀ i ∈ blk br, h5.n ≤ i ∧ i < h6.n := fun i hi => ⟨orr i hi, vr.lt i hi⟩
      refine ((all1_spec (l := h7.n + 1) (σ := List CV × Option Addr × Nat) (wrO := fun s => [h.n + 2, h.n + 3, h7.n] ++ blk s.2.1) (inv := fun s i H => KInv h tm ps asg bo (h7.n + 1) h7.n k f false s H ∧ s.1.map (fun x => (x.k, x.z)) = ((parse false zs).1.take i).map (fun x => (x.1, x.2.2)) ∧ s.1.length = i ∧ h7.n + 2 ≤ H.n) (stop := fun s i H => (parse false zs).2 = false ∧ KInv h tm ps asg bo (h7.n + 1) h7.n k f true s H) false (h6.n + 1) h6.n br zs.length cr zs rfl (by omega) _ ([], none, 0) ?Y ?i0 (Hs.get gbb) (Hs.get gcb) vrH.rv ?p1 ?p2 ?p3).args rfl).mono ?_
      case p1 => simp [blk]; omega
      case p2 => simp [blk]; omega
      case p3 => intro i hi; have := hob i hi; simp [blk]; omega
      case i0 => exact ⟨⟨Hl, Hd, TH, .nil, Own.nil _, fun i hi => by simp [blk] at hi, fun x hx => by cases hx⟩, by simp, rfl, by omega⟩
      case Y =>
        refine ⟨?_, ?_, ?_, ?_⟩
        · rintro s i H H' ⟨I, x1, x2, x3⟩ sm
          exact ⟨I.to sm, x1, x2, Nat.le_trans x3 sm.1⟩
        · rintro s i H ⟨I, x1, x2, x3⟩ b hb
          have mI := I.T.n
          simp only [List.mem_cons, List.mem_append, List.not_mem_nil, or_false] at hb
          rcases hb with rfl | (rfl | rfl | rfl) | hb
          · omega
          · omega
          · omega
          · omega
          · exact I.sv.lt _ hb
        · rintro ⟨ts, oa, oc⟩ i H t ⟨I, x1, x2, x3⟩ hit hok hnw hto
          simp only at I x1 x2 hnw ⊢
          have tb := parse_bd (chunk := false) zs t.thing (List.mem_of_getElem? hit)
          simp only [TV.thing] at tb
          refine YieldS.of' I.loop hN hr eps easg ebo rfl (by rfl) rfl (List.mem_cons_self ..) ?_
          (refine Go.run (g:=?_))
          refine Go.name ?_
          intro h8 e8
          have s8 : Same H h8 := by subst e8; exact ((Same.refl H).push _).put (Nat.le_refl _) _
          have n8 : h8.n = H.n + 1 := by subst e8; rfl
          have g8 : h8.get H.n = some (.cells t.cells 61) := by subst e8; exact AHeap.get_put_same _ (by simp) _
          clear e8
          refine Go.body (s8.get I.loop) ?_
          refine Go.name ?_
          intro h9 e9
          have k9 : Keeps [h7.n + 1] h8 h9 := by subst e9; exact (Keeps.rfl _ _).put (by simp) _
          have n9 : h9.n = h8.n := by subst e9; rfl
          have l9 : h9.get (h7.n + 1) = some (.loop .busy none tm ps asg bo h7.n) := by subst e9; exact get_put_self (s8.get I.loop)
          clear e9
          have T9 := (I.T.to s8).kp k9 (fun i hi => by simp only [List.mem_singleton] at hi; omega)
          have gC9 := T9.chk
          unfold Ck.cs at gC9
          try dsimp only at gC9
          have gP9 := T9.ptr
          have gr9 := T9.rd.g
          have m9 := T9.n
          have gt9 := k9.get g8 (by simp; omega)
          have md9 := k9.get (s8.get I.mark) (by simp)
          have sv9 := (I.sv.same s8).keeps k9 (fun i hi hm => by simp only [List.mem_singleton] at hm; exact I.sep i hi (by simp [hm]))
          have cb9 : ∀ x ∈ ts, Rv Try.prog h9 1 x.a x.z.length x.cap (x.z.map bv) := fun x hx => ((I.cb x hx).2.2.1.same s8).keeps k9 (fun i hi hm => by simp only [List.mem_singleton] at hm; exact (I.cb x hx).2.2.2.2.1 i hi (by simp [hm]))
          have ok9 : t.ok h9 := Rv.keeps (Rv.same hok s8) k9 (fun i hi hm => by simp only [List.mem_singleton] at hm; exact hnw _ hi (by simp [hm]))
          have htl : ts.length ≤ zs.length := by have := (List.getElem?_eq_some_iff.1 hit).1; omega
          (refine Go.run (g:=?_))
          refine Go.loud (by kernel_rfl) rfl ?_
          (refine Go.runL (g:=?_))
          refine GoL.store' rfl rfl rfl rfl rfl (hl:=rfl) (h1:=rfl) (h3:=rfl) (g:=?_)
          refine GoL.end_ (hl := by (simp only [List.nil_append, List.cons_append]); repeat (first | exact loudP.nil | refine loudP.none ?_ | refine loudP.new (fun _ hb => absurd hb List.not_mem_nil) ?_ | refine loudP.row (by repeat (first | exact loudRowP.nil | refine loudRowP.none ?_ | refine loudRowP.bef (by decide +kernel) ?_ | refine loudRowP.apart (by first | exact .inl rfl | exact .inr (by simp)) rfl (by intro i hi; simp only [List.mem_singleton] at hi; subst hi; simp; omega) ?_)) ?_)) ?_
          (refine Go.run (g:=?_))
          refine GoR.name ?_
          intro h10 e10
          have T10 : TSt h h10 (⟨k, f, 0, 0, 0, 0, 0, 0, 0, 0, ⟨none, 0, 0⟩, ⟨none, 0, 0⟩, ⟨none, 0, 0⟩, ⟨none, 0, 0⟩, ⟨oa, ts.length, oc⟩⟩ : Ck) none 0 [] false := by
            subst e10
            exact T9.putB false
          have p10 : ∀ {i : Nat} {o : AObj}, i ≠ h.n + 3 → h9.get i = some o → h10.get i = some o := fun hi e => by subst e10; exact get_put_other (fun x => hi x.symm) e
          have r10 : ∀ {a : Option Addr} {n c : Nat} {cs : List Value} {sz : Nat}, Own (h.n + 5) a → Rv Try.prog h9 sz a n c cs → Rv Try.prog h10 sz a n c cs := fun o r => by subst e10; exact r.put (fun hm => by have := o _ hm; omega) _
          have sv10 := sv9.put_eq e10 (fun hm => by have := I.own _ hm; omega)
          have n10 : h10.n = h9.n := by subst e10; rfl
          clear e10
          have gC10 := T10.chk
          unfold Ck.cs at gC10
          try dsimp only at gC10
          have l10 := p10 (by omega) l9
          have md10 := p10 (by omega) md9
          refine GoR.buildRo (c := [.int .u16 t.k, .slice t.a t.z.length t.cap]) rfl rfl rfl rfl rfl (by decide) (by rfl) (by rfl) ?_
          intro b11 h11 hb11 rb11 ob11 s11 n11
          have T11 := T10.to s11
          refine GoR.appendV rfl rfl rfl rfl rfl rfl (sv10.same s11) hb11 (fun i hi => .inl (by simp [hi])) (by omega) (by omega) (by rfl) ?_
          intro b12 c12 h12 hs12 k12 o12
          have m12 := k12.1
          have T12 := T11.app k12 I.own
          have gC12 := T12.chk
          unfold Ck.cs at gC12
          try dsimp only at gC12
          have nob : ∀ i, i ∈ [h7.n + 1, h7.n] → i ∉ blk oa := fun i hi hm => I.sep i hm hi
          have l12 := k12.get (s11.get l10) (nob _ (by simp))
          have md12 := k12.get (s11.get md10) (nob _ (by simp))
          have ob12 : Own (h.n + 5) b12 := I.own.app (by omega) o12
          refine GoR.fieldAddr rfl rfl rfl rfl rfl ?_
          refine GoR.store (off := 0 + 14) (n := 1) (v := .slice b12 (ts.length + 1) c12) (l := [.slice b12 (ts.length + 1) c12]) rfl rfl rfl rfl rfl gC12 rfl rfl (show 15 ≤ 15 from Nat.le_refl _) rfl rfl (.inl (by simp)) ?_
          (refine Go.run (g:=?_))
          refine Go.roundEnd rfl (get_put_other (by omega) l12) ?_
          have sep12 : ∀ i ∈ blk b12, i ∉ [h7.n + 1, h7.n] := fun i hi hm => (o12 i hi).elim (fun x => I.sep i x hm) (fun x => by simp only [List.mem_cons, List.not_mem_nil, or_false] at hm; omega)
          have fin13 : KInv h tm ps asg bo (h7.n + 1) h7.n k f false (ts ++ [⟨t.k, t.a, t.cap, t.z⟩], b12, c12) ((h12.put (h.n + 2) (some (.cells (⟨k, f, 0, 0, 0, 0, 0, 0, 0, 0, ⟨none, 0, 0⟩, ⟨none, 0, 0⟩, ⟨none, 0, 0⟩, ⟨none, 0, 0⟩, ⟨b12, ts.length + 1, c12⟩⟩ : Ck).cs 43))).put (h7.n + 1) (some (.loop .ready none tm ps asg bo h7.n))) := by
            have kq : Keeps [h7.n + 1] (h12.put (h.n + 2) (some (.cells (⟨k, f, 0, 0, 0, 0, 0, 0, 0, 0, ⟨none, 0, 0⟩, ⟨none, 0, 0⟩, ⟨none, 0, 0⟩, ⟨none, 0, 0⟩, ⟨b12, ts.length + 1, c12⟩⟩ : Ck).cs 43))) _ := (Keeps.rfl _ _).put (List.mem_singleton.2 rfl) (some (.loop .ready none tm ps asg bo h7.n))
            have rq : ∀ {a : Option Addr} {n c : Nat} {cs : List Value} {sz : Nat}, Own (h.n + 5) a → (∀ i ∈ blk a, i ∉ [h7.n + 1, h7.n]) → Rv Try.prog h12 sz a n c cs → Rv Try.prog _ sz a n c cs := fun o q r => (r.put (fun hm => by have := o _ hm; omega) _).keeps kq (fun i hi hm => by simp only [List.mem_singleton] at hm; exact q i hi (by simp [hm]))
            refine ⟨AHeap.get_put_same _ (by simp only [AHeap.n_put]; omega) _, get_put_other (by omega) (get_put_other (by omega) md12), ?_, ?_, ob12, sep12, fun x hx => ?_⟩
            · have := (T12.put (⟨k, f, 0, 0, 0, 0, 0, 0, 0, 0, ⟨none, 0, 0⟩, ⟨none, 0, 0⟩, ⟨none, 0, 0⟩, ⟨none, 0, 0⟩, ⟨b12, ts.length + 1, c12⟩⟩ : Ck)).kp kq (fun i hi => by simp only [List.mem_singleton] at hi; omega)
              simpa only [List.length_append, List.length_cons, List.length_nil] using this
            · have := (hs12.put (fun hm => by have := ob12 _ hm; omega) (some (.cells (⟨k, f, 0, 0, 0, 0, 0, 0, 0, 0, ⟨none, 0, 0⟩, ⟨none, 0, 0⟩, ⟨none, 0, 0⟩, ⟨none, 0, 0⟩, ⟨b12, ts.length + 1, c12⟩⟩ : Ck).cs 43))).keeps kq (fun i hi hm => by simp only [List.mem_singleton] at hm; exact sep12 i hi (by simp [hm]))
              simp only [List.length_append, List.length_cons, List.length_nil]
              rw [show ccs (ts ++ [⟨t.k, t.a, t.cap, t.z⟩]) = ccs ts ++ [.int .u16 t.k, .slice t.a t.z.length t.cap] from by simp [ccs, cvC]]
              exact this
            · rcases List.mem_append.1 hx with hx | hx
              · obtain ⟨q1, q2, -, q4, q5, q6⟩ := I.cb x hx
                exact ⟨q1, q2, rq q4 q5 (((r10 q4 (cb9 x hx)).same s11).keeps k12 q6), q4, q5, fun i hi hm => (o12 i hm).elim (q6 i hi) (fun y => by have := ((r10 q4 (cb9 x hx)).same s11).lt i hi; omega)⟩
              · simp only [List.mem_singleton] at hx
                subst hx
                exact ⟨tb.1, by have := tb.2; show t.z.length ≤ _; omega, rq (fun i hi => by have := hto i hi; omega) (fun i hi hm => hnw i hi (by simp only [List.mem_cons, List.mem_append, List.not_mem_nil, or_false] at hm ⊢; omega)) (((r10 (fun i hi => by have := hto i hi; omega) ok9).same s11).keeps k12 (fun i hi hm => hnw i hi (by simp [hm]))), fun i hi => by have := hto i hi; omega, fun i hi hm => hnw i hi (by simp only [List.mem_cons, List.mem_append, List.not_mem_nil, or_false] at hm ⊢; omega), fun i hi hm => (o12 i hm).elim (fun y => hnw i hi (by simp [y])) (fun y => by have := hok.lt i hi; omega)⟩
          refine ⟨(ts ++ [⟨t.k, t.a, t.cap, t.z⟩], b12, c12), fun b hb => ?_, fun _ => ⟨fin13, ?_, by simp [x2], by simp; omega⟩, fun e => by cases e⟩
          · rcases List.mem_append.1 hb with x | x
            · exact .inl (List.mem_append_left _ x)
            · rcases o12 b x with y | y
              · exact .inl (List.mem_append_right _ y)
              · exact .inr (by omega)
          · rw [List.map_append, x1, List.take_add_one, hit, List.map_append]; rfl
        · rintro ⟨ts, oa, oc⟩ H hbad ⟨I, x1, x2, x3⟩
          simp only at I x1 x2 ⊢
          refine YieldS.of' I.loop hN hr eps easg ebo rfl (by rfl) rfl (List.mem_cons_self ..) ?_
          (refine Go.run (g:=?_))
          refine Go.name ?_
          intro h8 e8
          have s8 : Same H h8 := by subst e8; exact ((Same.refl H).push _).put (Nat.le_refl _) _
          have n8 : h8.n = H.n + 1 := by subst e8; rfl
          have g8 : h8.get H.n = some (.cells [.int .u16 (0 : Nat), .int .u8 (0 : Nat), .slice none 0 0] 61) := by subst e8; exact AHeap.get_put_same _ (by simp) _
          clear e8
          refine Go.body (s8.get I.loop) ?_
          refine Go.name ?_
          intro h9 e9
          have k9 : Keeps [h7.n + 1] h8 h9 := by subst e9; exact (Keeps.rfl _ _).put (by simp) _
          have n9 : h9.n = h8.n := by subst e9; rfl
          have l9 : h9.get (h7.n + 1) = some (.loop .busy none tm ps asg bo h7.n) := by subst e9; exact get_put_self (s8.get I.loop)
          clear e9
          have T9 := (I.T.to s8).kp k9 (fun i hi => by simp only [List.mem_singleton] at hi; omega)
          have gC9 := T9.chk
          unfold Ck.cs at gC9
          try dsimp only at gC9
          have gP9 := T9.ptr
          have gr9 := T9.rd.g
          have m9 := T9.n
          have gt9 := k9.get g8 (by simp; omega)
          have md9 := k9.get (s8.get I.mark) (by simp)
          have sv9 := (I.sv.same s8).keeps k9 (fun i hi hm => by simp only [List.mem_singleton] at hm; exact I.sep i hi (by simp [hm]))
          have cb9 : ∀ x ∈ ts, Rv Try.prog h9 1 x.a x.z.length x.cap (x.z.map bv) := fun x hx => ((I.cb x hx).2.2.1.same s8).keeps k9 (fun i hi hm => by simp only [List.mem_singleton] at hm; exact (I.cb x hx).2.2.2.2.1 i hi (by simp [hm]))
          skip
          have htl : ts.length ≤ zs.length := by omega
          (refine Go.run (g:=?_))
          refine Go.loud (by kernel_rfl) rfl ?_
          (refine Go.runL (g:=?_))
          refine GoL.store' rfl rfl rfl rfl rfl (hl:=rfl) (h1:=rfl) (h3:=rfl) (g:=?_)
          refine GoL.end_ (hl := by (simp only [List.nil_append, List.cons_append]); repeat (first | exact loudP.nil | refine loudP.none ?_ | refine loudP.new (fun _ hb => absurd hb List.not_mem_nil) ?_ | refine loudP.row (by repeat (first | exact loudRowP.nil | refine loudRowP.none ?_ | refine loudRowP.bef (by decide +kernel) ?_ | refine loudRowP.apart (by first | exact .inl rfl | exact .inr (by simp)) rfl (by intro i hi; simp only [List.mem_singleton] at hi; subst hi; simp; omega) ?_)) ?_)) ?_
          (refine Go.run (g:=?_))
          refine GoR.name ?_
          intro h10 e10
          have T10 : TSt h h10 (⟨k, f, 0, 0, 0, 0, 0, 0, 0, 0, ⟨none, 0, 0⟩, ⟨none, 0, 0⟩, ⟨none, 0, 0⟩, ⟨none, 0, 0⟩, ⟨oa, ts.length, oc⟩⟩ : Ck) none 0 [] true := by
            subst e10
            exact T9.putB true
          have p10 : ∀ {i : Nat} {o : AObj}, i ≠ h.n + 3 → h9.get i = some o → h10.get i = some o := fun hi e => by subst e10; exact get_put_other (fun x => hi x.symm) e
          have r10 : ∀ {a : Option Addr} {n c : Nat} {cs : List Value} {sz : Nat}, Own (h.n + 5) a → Rv Try.prog h9 sz a n c cs → Rv Try.prog h10 sz a n c cs := fun o r => by subst e10; exact r.put (fun hm => by have := o _ hm; omega) _
          have sv10 := sv9.put_eq e10 (fun hm => by have := I.own _ hm; omega)
          have n10 : h10.n = h9.n := by subst e10; rfl
          clear e10
          have gC10 := T10.chk
          unfold Ck.cs at gC10
          try dsimp only at gC10
          have l10 := p10 (by omega) l9
          have md10 := p10 (by omega) md9
          refine GoR.buildRo (c := [.int .u16 (0 : Nat), .slice none 0 0]) rfl rfl rfl rfl rfl (by decide) (by rfl) (by rfl) ?_
          intro b11 h11 hb11 rb11 ob11 s11 n11
          have T11 := T10.to s11
          refine GoR.appendV rfl rfl rfl rfl rfl rfl (sv10.same s11) hb11 (fun i hi => .inl (by simp [hi])) (by omega) (by omega) (by rfl) ?_
          intro b12 c12 h12 hs12 k12 o12
          have m12 := k12.1
          have T12 := T11.app k12 I.own
          have gC12 := T12.chk
          unfold Ck.cs at gC12
          try dsimp only at gC12
          have nob : ∀ i, i ∈ [h7.n + 1, h7.n] → i ∉ blk oa := fun i hi hm => I.sep i hm hi
          have l12 := k12.get (s11.get l10) (nob _ (by simp))
          have md12 := k12.get (s11.get md10) (nob _ (by simp))
          have ob12 : Own (h.n + 5) b12 := I.own.app (by omega) o12
          refine GoR.fieldAddr rfl rfl rfl rfl rfl ?_
          refine GoR.store (off := 0 + 14) (n := 1) (v := .slice b12 (ts.length + 1) c12) (l := [.slice b12 (ts.length + 1) c12]) rfl rfl rfl rfl rfl gC12 rfl rfl (show 15 ≤ 15 from Nat.le_refl _) rfl rfl (.inl (by simp)) ?_
          (refine Go.run (g:=?_))
          refine Go.roundEnd rfl (get_put_other (by omega) l12) ?_
          have sep12 : ∀ i ∈ blk b12, i ∉ [h7.n + 1, h7.n] := fun i hi hm => (o12 i hi).elim (fun x => I.sep i x hm) (fun x => by simp only [List.mem_cons, List.not_mem_nil, or_false] at hm; omega)
          have fin13 : KInv h tm ps asg bo (h7.n + 1) h7.n k f true (ts ++ [⟨0, none, 0, []⟩], b12, c12) ((h12.put (h.n + 2) (some (.cells (⟨k, f, 0, 0, 0, 0, 0, 0, 0, 0, ⟨none, 0, 0⟩, ⟨none, 0, 0⟩, ⟨none, 0, 0⟩, ⟨none, 0, 0⟩, ⟨b12, ts.length + 1, c12⟩⟩ : Ck).cs 43))).put (h7.n + 1) (some (.loop .ready none tm ps asg bo h7.n))) := by
            have kq : Keeps [h7.n + 1] (h12.put (h.n + 2) (some (.cells (⟨k, f, 0, 0, 0, 0, 0, 0, 0, 0, ⟨none, 0, 0⟩, ⟨none, 0, 0⟩, ⟨none, 0, 0⟩, ⟨none, 0, 0⟩, ⟨b12, ts.length + 1, c12⟩⟩ : Ck).cs 43))) _ := (Keeps.rfl _ _).put (List.mem_singleton.2 rfl) (some (.loop .ready none tm ps asg bo h7.n))
            have rq : ∀ {a : Option Addr} {n c : Nat} {cs : List Value} {sz : Nat}, Own (h.n + 5) a → (∀ i ∈ blk a, i ∉ [h7.n + 1, h7.n]) → Rv Try.prog h12 sz a n c cs → Rv Try.prog _ sz a n c cs := fun o q r => (r.put (fun hm => by have := o _ hm; omega) _).keeps kq (fun i hi hm => by simp only [List.mem_singleton] at hm; exact q i hi (by simp [hm]))
            refine ⟨AHeap.get_put_same _ (by simp only [AHeap.n_put]; omega) _, get_put_other (by omega) (get_put_other (by omega) md12), ?_, ?_, ob12, sep12, fun x hx => ?_⟩
            · have := (T12.put (⟨k, f, 0, 0, 0, 0, 0, 0, 0, 0, ⟨none, 0, 0⟩, ⟨none, 0, 0⟩, ⟨none, 0, 0⟩, ⟨none, 0, 0⟩, ⟨b12, ts.length + 1, c12⟩⟩ : Ck)).kp kq (fun i hi => by simp only [List.mem_singleton] at hi; omega)
              simpa only [List.length_append, List.length_cons, List.length_nil] using this
            · have := (hs12.put (fun hm => by have := ob12 _ hm; omega) (some (.cells (⟨k, f, 0, 0, 0, 0, 0, 0, 0, 0, ⟨none, 0, 0⟩, ⟨none, 0, 0⟩, ⟨none, 0, 0⟩, ⟨none, 0, 0⟩, ⟨b12, ts.length + 1, c12⟩⟩ : Ck).cs 43))).keeps kq (fun i hi hm => by simp only [List.mem_singleton] at hm; exact sep12 i hi (by simp [hm]))
              simp only [List.length_append, List.length_cons, List.length_nil]
              rw [show ccs (ts ++ [⟨0, none, 0, []⟩]) = ccs ts ++ [.int .u16 (0 : Nat), .slice none 0 0] from by simp [ccs, cvC]]
              exact this
            · rcases List.mem_append.1 hx with hx | hx
              · obtain ⟨q1, q2, -, q4, q5, q6⟩ := I.cb x hx
                exact ⟨q1, q2, rq q4 q5 (((r10 q4 (cb9 x hx)).same s11).keeps k12 q6), q4, q5, fun i hi hm => (o12 i hm).elim (q6 i hi) (fun y => by have := ((r10 q4 (cb9 x hx)).same s11).lt i hi; omega)⟩
              · simp only [List.mem_singleton] at hx
                subst hx
                exact ⟨by show 0 < 65536; decide, by show 0 ≤ _; omega, Rv.nil, Own.nil _, fun i hi => by simp [blk] at hi, fun i hi => by simp [blk] at hi⟩
          exact ⟨(ts ++ [⟨0, none, 0, []⟩], b12, c12), by simpa using hbad, fin13⟩
      intro v H3 hres kp
      refine ⟨fun i hi => .inr (by simp only [List.mem_cons, List.mem_append, List.not_mem_nil, or_false, blk] at hi; omega), .inr (by omega), ?_⟩
      have two : ∀ (bad : Bool) (ts : List CV) (oa : Option Addr) (oc : Nat), KInv h tm ps asg bo (h7.n + 1) h7.n k f bad (ts, oa, oc) H3 → ∀ H4, Keeps [h7.n + 1] H3 H4 → COk H4 (⟨k, f, 0, 0, 0, 0, 0, 0, 0, 0, ⟨none, 0, 0⟩, ⟨none, 0, 0⟩, ⟨none, 0, 0⟩, ⟨none, 0, 0⟩, ⟨oa, ts.length, oc⟩⟩ : Ck) ⟨[], [], [], [], ts⟩ ∧ TSt h H4 (⟨k, f, 0, 0, 0, 0, 0, 0, 0, 0, ⟨none, 0, 0⟩, ⟨none, 0, 0⟩, ⟨none, 0, 0⟩, ⟨none, 0, 0⟩, ⟨oa, ts.length, oc⟩⟩ : Ck) none 0 [] bad ∧ CApart (h.n + 5) (⟨k, f, 0, 0, 0, 0, 0, 0, 0, 0, ⟨none, 0, 0⟩, ⟨none, 0, 0⟩, ⟨none, 0, 0⟩, ⟨none, 0, 0⟩, ⟨oa, ts.length, oc⟩⟩ : Ck) ⟨[], [], [], [], ts⟩ ∧ DfOk (h.n + 5) H4 (⟨k, f, 0, 0, 0, 0, 0, 0, 0, 0, ⟨none, 0, 0⟩, ⟨none, 0, 0⟩, ⟨none, 0, 0⟩, ⟨none, 0, 0⟩, ⟨oa, ts.length, oc⟩⟩ : Ck) ⟨[], [], [], [], ts⟩ [h7.n] := fun bad ts oa oc I H4 k4 => by
        have e1 : ∀ {a : Option Addr}, (∀ i ∈ blk a, i ∉ [h7.n + 1, h7.n]) → ∀ i ∈ blk a, i ∉ [h7.n + 1] := fun q i hi hm => q i hi (by simp only [List.mem_singleton] at hm; simp [hm])
        refine ⟨{ COk.base H4 k f hk8 hf with cl := rfl, cv := (I.sv.keeps k4 (e1 I.sep)).rv, cb := fun x hx => ⟨(I.cb x hx).1, (I.cb x hx).2.1, (I.cb x hx).2.2.1.keeps k4 (e1 (I.cb x hx).2.2.2.2.1)⟩ }, I.T.kp k4 (fun i hi => by simp only [List.mem_singleton] at hi; omega), ⟨Own.nil _, Own.nil _, Own.nil _, Own.nil _, I.own, fun x hx => (I.cb x hx).2.2.2.1⟩, .inr ⟨h7.n, rfl, k4.get I.mark (by simp), by omega, by simp [blk], by simp [blk], by simp [blk], by simp [blk], fun hm => I.sep _ hm (by simp), fun x hx hm => (I.cb x hx).2.2.2.2.1 _ hm (by simp)⟩⟩
      rcases hres with ⟨⟨ts, oa, oc⟩, hwell, I, x1, x2, x3⟩ | ⟨⟨ts, oa, oc⟩, i, hill, I⟩
      all_goals
        refine ⟨_, _, _, _, _, _, _, .normal, I.loop, by rfl, rfl, ?_⟩
        refine Go.name ?_
        intro h9 e9
        have k9 : Keeps [h7.n + 1] H3 h9 := by subst e9; exact (Keeps.rfl _ _).put (by simp) _
        clear e9
        obtain ⟨okF, TF, apF, dfF⟩ := two _ _ _ _ I h9 k9
        (refine Go.run (g:=?_))
        refine Go.joined (h9, _, _, none, 0, [], _, [h7.n]) ⟨TF, okF, apF, dfF, ?_⟩ ⟨rfl, rfl, rfl, trivial⟩ rfl rfl
      · rw [List.take_length] at x1
        simp only
        rw [finR_good okF]
        subst hk0
        simp only [rawP, if_pos hwell, pcOf, x1]
        rfl
      · simp only
        rw [finR_bad]
        subst hk0
        simp [rawP, hill]
    · (refine Go.run (g:=?_))
      refine GoR.callW rfl rfl rfl rfl rfl rfl rfl (((rrest_spec _ _ _ _ _ _ T5.rd hl).argA).mono ?_)
      rintro _ h6 ⟨br, cr, rfl, vr, orr, rr⟩ kr
      refine ⟨fun i hi => .inr (by simp at hi; omega), ?_⟩
      have T6 := T5.call kr rr (fun i hi => by simp [blk] at hi)
      have m6 := T6.n
      (refine Go.run (g:=?_))
      refine GoR.call rfl rfl rfl rfl rfl rfl rfl (((allCall_spec false br zs.length cr _).argA).mono ?_)
      rintro _ _ ⟨rfl, rfl⟩ -
      (refine Go.run (g:=?_))
      refine Go.name ?_
      intro h7 e7
      have s7 : Same h6 h7 := by subst e7; exact ((Same.refl h6).push _).push _
      have n7 : h7.n = h6.n + 2 := by subst e7; rfl
      have gcb : h7.get h6.n = some (.cells [.bool false] 4) := by subst e7; exact get_push_lt (AHeap.get_push_same _ _)
      have gbb : h7.get (h6.n + 1) = some (.cells [.slice br zs.length cr] 31) := by subst e7; exact AHeap.get_push_same (h6.push _) _
      clear e7
      have T7 := T6.to s7
      have vr7 := vr.same s7
      refine Go.rangeFunc' (wr := [h7.n + 1, h.n + 2, h.n + 3, h7.n]) rfl (by rfl) (by kernel_rfl) ?_
      intro tm ps asg bo HH eps easg ebo eH hN hr
      have Hs : Same h7 HH := by subst eH; exact ((Same.refl h7).push _).push _
      have Hl : HH.get (h7.n + 1) = some (.loop .ready none tm ps asg bo h7.n) := by subst eH; exact AHeap.get_push_same (h7.push _) _
      have Hd : HH.get h7.n = some (.deferred true) := by subst eH; exact get_push_lt (AHeap.get_push_same _ _)
      have Hn : HH.n = h7.n + 2 := by subst eH; rfl
      clear eH
      have TH := T7.to Hs
      have vrH := vr7.same Hs
      have hpl := parse_len (chunk := false) zs
      have hob : ∀ i ∈ blk br, h5.n ≤ i ∧ i < h6.n := fun i hi => ⟨orr i hi, vr.lt i hi⟩
      refine ((all1_spec (l := h7.n + 1) (σ := List CV × Option Addr × Nat) (wrO := fun s => [h.n + 2, h.n + 3, h7.n] ++ blk s.2.1) (inv := fun s i H => KInv h tm ps asg bo (h7.n + 1) h7.n k f false s H ∧ s.1.map (fun x => (x.k, x.z)) = ((parse false zs).1.take i).map (fun x => (x.1, x.2.2)) ∧ s.1.length = i ∧ h7.n + 2 ≤ H.n) (stop := fun s i H => (parse false zs).2 = false ∧ KInv h tm ps asg bo (h7.n + 1) h7.n k f true s H) false (h6.n + 1) h6.n br zs.length cr zs rfl (by omega) _ ([], none, 0) ?Y ?i0 (Hs.get gbb) (Hs.get gcb) vrH.rv ?p1 ?p2 ?p3).args rfl).mono ?_
      case p1 => simp [blk]; omega
      case p2 => simp [blk]; omega
      case p3 => intro i hi; have := hob i hi; simp [blk]; omega
      case i0 => exact ⟨⟨Hl, Hd, TH, .nil, Own.nil _, fun i hi => by simp [blk] at hi, fun x hx => by cases hx⟩, by simp, rfl, by omega⟩
      case Y =>
        refine ⟨?_, ?_, ?_, ?_⟩
        · rintro s i H H' ⟨I, x1, x2, x3⟩ sm
          exact ⟨I.to sm, x1, x2, Nat.le_trans x3 sm.1⟩
        · rintro s i H ⟨I, x1, x2, x3⟩ b hb
          have mI := I.T.n
          simp only [List.mem_cons, List.mem_append, List.not_mem_nil, or_false] at hb
          rcases hb with rfl | (rfl | rfl | rfl) | hb
          · omega
          · omega
          · omega
          · omega
          · exact I.sv.lt _ hb
        · rintro ⟨ts, oa, oc⟩ i H t ⟨I, x1, x2, x3⟩ hit hok hnw hto
          simp only at I x1 x2 hnw ⊢
          have tb := parse_bd (chunk := false) zs t.thing (List.mem_of_getElem? hit)
          simp only [TV.thing] at tb
          refine YieldS.of' I.loop hN hr eps easg ebo rfl (by rfl) rfl (List.mem_cons_self ..) ?_
          (refine Go.run (g:=?_))
          refine Go.name ?_
          intro h8 e8
          have s8 : Same H h8 := by subst e8; exact ((Same.refl H).push _).put (Nat.le_refl _) _
          have n8 : h8.n = H.n + 1 := by subst e8; rfl
          have g8 : h8.get H.n = some (.cells t.cells 61) := by subst e8; exact AHeap.get_put_same _ (by simp) _
          clear e8
          refine Go.body (s8.get I.loop) ?_
          refine Go.name ?_
          intro h9 e9
          have k9 : Keeps [h7.n + 1] h8 h9 := by subst e9; exact (Keeps.rfl _ _).put (by simp) _
          have n9 : h9.n = h8.n := by subst e9; rfl
          have l9 : h9.get (h7.n + 1) = some (.loop .busy none tm ps asg bo h7.n) := by subst e9; exact get_put_self (s8.get I.loop)
          clear e9
          have T9 := (I.T.to s8).kp k9 (fun i hi => by simp only [List.mem_singleton] at hi; omega)
          have gC9 := T9.chk
          unfold Ck.cs at gC9
          try dsimp only at gC9
          have gP9 := T9.ptr
          have gr9 := T9.rd.g
          have m9 := T9.n
          have gt9 := k9.get g8 (by simp; omega)
          have md9 := k9.get (s8.get I.mark) (by simp)
          have sv9 := (I.sv.same s8).keeps k9 (fun i hi hm => by simp only [List.mem_singleton] at hm; exact I.sep i hi (by simp [hm]))
          have cb9 : ∀ x ∈ ts, Rv Try.prog h9 1 x.a x.z.length x.cap (x.z.map bv) := fun x hx => ((I.cb x hx).2.2.1.same s8).keeps k9 (fun i hi hm => by simp only [List.mem_singleton] at hm; exact (I.cb x hx).2.2.2.2.1 i hi (by simp [hm]))
          have ok9 : t.ok h9 := Rv.keeps (Rv.same hok s8) k9 (fun i hi hm => by simp only [List.mem_singleton] at hm; exact hnw _ hi (by simp [hm]))
          have htl : ts.length ≤ zs.length := by have := (List.getElem?_eq_some_iff.1 hit).1; omega
          (refine Go.run (g:=?_))
          refine Go.loud (by kernel_rfl) rfl ?_
          (refine Go.runL (g:=?_))
          refine GoL.store' rfl rfl rfl rfl rfl (hl:=rfl) (h1:=rfl) (h3:=rfl) (g:=?_)
          refine GoL.end_ (hl := by (simp only [List.nil_append, List.cons_append]); repeat (first | exact loudP.nil | refine loudP.none ?_ | refine loudP.new (fun _ hb => absurd hb List.not_mem_nil) ?_ | refine loudP.row (by repeat (first | exact loudRowP.nil | refine loudRowP.none ?_ | refine loudRowP.bef (by decide +kernel) ?_ | refine loudRowP.apart (by first | exact .inl rfl | exact .inr (by simp)) rfl (by intro i hi; simp only [List.mem_singleton] at hi; subst hi; simp; omega) ?_)) ?_)) ?_
          (refine Go.run (g:=?_))
          refine GoR.name ?_
          intro h10 e10
          have T10 : TSt h h10 (⟨k, f, 0, 0, 0, 0, 0, 0, 0, 0, ⟨none, 0, 0⟩, ⟨none, 0, 0⟩, ⟨none, 0, 0⟩, ⟨none, 0, 0⟩, ⟨oa, ts.length, oc⟩⟩ : Ck) none 0 [] false := by
            subst e10
            exact T9.putB false
          have p10 : ∀ {i : Nat} {o : AObj}, i ≠ h.n + 3 → h9.get i = some o → h10.get i = some o := fun hi e => by subst e10; exact get_put_other (fun x => hi x.symm) e
          have r10 : ∀ {a : Option Addr} {n c : Nat} {cs : List Value} {sz : Nat}, Own (h.n + 5) a → Rv Try.prog h9 sz a n c cs → Rv Try.prog h10 sz a n c cs := fun o r => by subst e10; exact r.put (fun hm => by have := o _ hm; omega) _
          have sv10 := sv9.put_eq e10 (fun hm => by have := I.own _ hm; omega)
          have n10 : h10.n = h9.n := by subst e10; rfl
          clear e10
          have gC10 := T10.chk
          unfold Ck.cs at gC10
          try dsimp only at gC10
          have l10 := p10 (by omega) l9
          have md10 := p10 (by omega) md9
          refine GoR.buildRo (c := [.int .u16 t.k, .slice t.a t.z.length t.cap]) rfl rfl rfl rfl rfl (by decide) (by rfl) (by rfl) ?_
          intro b11 h11 hb11 rb11 ob11 s11 n11
          have T11 := T10.to s11
          refine GoR.appendV rfl rfl rfl rfl rfl rfl (sv10.same s11) hb11 (fun i hi => .inl (by simp [hi])) (by omega) (by omega) (by rfl) ?_
          intro b12 c12 h12 hs12 k12 o12
          have m12 := k12.1
          have T12 := T11.app k12 I.own
          have gC12 := T12.chk
          unfold Ck.cs at gC12
          try dsimp only at gC12
          have nob : ∀ i, i ∈ [h7.n + 1, h7.n] → i ∉ blk oa := fun i hi hm => I.sep i hm hi
          have l12 := k12.get (s11.get l10) (nob _ (by simp))
          have md12 := k12.get (s11.get md10) (nob _ (by simp))
          have ob12 : Own (h.n + 5) b12 := I.own.app (by omega) o12
          refine GoR.fieldAddr rfl rfl rfl rfl rfl ?_
          refine GoR.store (off := 0 + 14) (n := 1) (v := .slice b12 (ts.length + 1) c12) (l := [.slice b12 (ts.length + 1) c12]) rfl rfl rfl rfl rfl gC12 rfl rfl (show 15 ≤ 15 from Nat.le_refl _) rfl rfl (.inl (by simp)) ?_
          (refine Go.run (g:=?_))
          refine Go.roundEnd rfl (get_put_other (by omega) l12) ?_
          have sep12 : ∀ i ∈ blk b12, i ∉ [h7.n + 1, h7.n] := fun i hi hm => (o12 i hi).elim (fun x => I.sep i x hm) (fun x => by simp only [List.mem_cons, List.not_mem_nil, or_false] at hm; omega)
          have fin13 : KInv h tm ps asg bo (h7.n + 1) h7.n k f false (ts ++ [⟨t.k, t.a, t.cap, t.z⟩], b12, c12) ((h12.put (h.n + 2) (some (.cells (⟨k, f, 0, 0, 0, 0, 0, 0, 0, 0, ⟨none, 0, 0⟩, ⟨none, 0, 0⟩, ⟨none, 0, 0⟩, ⟨none, 0, 0⟩, ⟨b12, ts.length + 1, c12⟩⟩ : Ck).cs 43))).put (h7.n + 1) (some (.loop .ready none tm ps asg bo h7.n))) := by
            have kq : Keeps [h7.n + 1] (h12.put (h.n + 2) (some (.cells (⟨k, f, 0, 0, 0, 0, 0, 0, 0, 0, ⟨none, 0, 0⟩, ⟨none, 0, 0⟩, ⟨none, 0, 0⟩, ⟨none, 0, 0⟩, ⟨b12, ts.length + 1, c12⟩⟩ : Ck).cs 43))) _ := (Keeps.rfl _ _).put (List.mem_singleton.2 rfl) (some (.loop .ready none tm ps asg bo h7.n))
            have rq : ∀ {a : Option Addr} {n c : Nat} {cs : List Value} {sz : Nat}, Own (h.n + 5) a → (∀ i ∈ blk a, i ∉ [h7.n + 1, h7.n]) → Rv Try.prog h12 sz a n c cs → Rv Try.prog _ sz a n c cs := fun o q r => (r.put (fun hm => by have := o _ hm; omega) _).keeps kq (fun i hi hm => by simp only [List.mem_singleton] at hm; exact q i hi (by simp [hm]))
            refine ⟨AHeap.get_put_same _ (by simp only [AHeap.n_put]; omega) _, get_put_other (by omega) (get_put_other (by omega) md12), ?_, ?_, ob12, sep12, fun x hx => ?_⟩
            · have := (T12.put (⟨k, f, 0, 0, 0, 0, 0, 0, 0, 0, ⟨none, 0, 0⟩, ⟨none, 0, 0⟩, ⟨none, 0, 0⟩, ⟨none, 0, 0⟩, ⟨b12, ts.length + 1, c12⟩⟩ : Ck)).kp kq (fun i hi => by simp only [List.mem_singleton] at hi; omega)
              simpa only [List.length_append, List.length_cons, List.length_nil] using this
            · have := (hs12.put (fun hm => by have := ob12 _ hm; omega) (some (.cells (⟨k, f, 0, 0, 0, 0, 0, 0, 0, 0, ⟨none, 0, 0⟩, ⟨none, 0, 0⟩, ⟨none, 0, 0⟩, ⟨none, 0, 0⟩, ⟨b12, ts.length + 1, c12⟩⟩ : Ck).cs 43))).keeps kq (fun i hi hm => by simp only [List.mem_singleton] at hm; exact sep12 i hi (by simp [hm]))
              simp only [List.length_append, List.length_cons, List.length_nil]
              rw [show ccs (ts ++ [⟨t.k, t.a, t.cap, t.z⟩]) = ccs ts ++ [.int .u16 t.k, .slice t.a t.z.length t.cap] from by simp [ccs, cvC]]
              exact this
            · rcases List.mem_append.1 hx with hx | hx
              · obtain ⟨q1, q2, -, q4, q5, q6⟩ := I.cb x hx
                exact ⟨q1, q2, rq q4 q5 (((r10 q4 (cb9 x hx)).same s11).keeps k12 q6), q4, q5, fun i hi hm => (o12 i hm).elim (q6 i hi) (fun y => by have := ((r10 q4 (cb9 x hx)).same s11).lt i hi; omega)⟩
              · simp only [List.mem_singleton] at hx
                subst hx
                exact ⟨tb.1, by have := tb.2; show t.z.length ≤ _; omega, rq (fun i hi => by have := hto i hi; omega) (fun i hi hm => hnw i hi (by simp only [List.mem_cons, List.mem_append, List.not_mem_nil, or_false] at hm ⊢; omega)) (((r10 (fun i hi => by have := hto i hi; omega) ok9).same s11).keeps k12 (fun i hi hm => hnw i hi (by simp [hm]))), fun i hi => by have := hto i hi; omega, fun i hi hm => hnw i hi (by simp only [List.mem_cons, List.mem_append, List.not_mem_nil, or_false] at hm ⊢; omega), fun i hi hm => (o12 i hm).elim (fun y => hnw i hi (by simp [y])) (fun y => by have := hok.lt i hi; omega)⟩
          refine ⟨(ts ++ [⟨t.k, t.a, t.cap, t.z⟩], b12, c12), fun b hb => ?_, fun _ => ⟨fin13, ?_, by simp [x2], by simp; omega⟩, fun e => by cases e⟩
          · rcases List.mem_append.1 hb with x | x
            · exact .inl (List.mem_append_left _ x)
            · rcases o12 b x with y | y
              · exact .inl (List.mem_append_right _ y)
              · exact .inr (by omega)
          · rw [List.map_append, x1, List.take_add_one, hit, List.map_append]; rfl
        · rintro ⟨ts, oa, oc⟩ H hbad ⟨I, x1, x2, x3⟩
          simp only at I x1 x2 ⊢
          refine YieldS.of' I.loop hN hr eps easg ebo rfl (by rfl) rfl (List.mem_cons_self ..) ?_
          (refine Go.run (g:=?_))
          refine Go.name ?_
          intro h8 e8
          have s8 : Same H h8 := by subst e8; exact ((Same.refl H).push _).put (Nat.le_refl _) _
          have n8 : h8.n = H.n + 1 := by subst e8; rfl
          have g8 : h8.get H.n = some (.cells [.int .u16 (0 : Nat), .int .u8 (0 : Nat), .slice none 0 0] 61) := by subst e8; exact AHeap.get_put_same _ (by simp) _
          clear e8
          refine Go.body (s8.get I.loop) ?_
          refine Go.name ?_
          intro h9 e9
          have k9 : Keeps [h7.n + 1] h8 h9 := by subst e9; exact (Keeps.rfl _ _).put (by simp) _
          have n9 : h9.n = h8.n := by subst e9; rfl
          have l9 : h9.get (h7.n + 1) = some (.loop .busy none tm ps asg bo h7.n) := by subst e9; exact get_put_self (s8.get I.loop)
          clear e9
          have T9 := (I.T.to s8).kp k9 (fun i hi => by simp only [List.mem_singleton] at hi; omega)
          have gC9 := T9.chk
          unfold Ck.cs at gC9
          try dsimp only at gC9
          have gP9 := T9.ptr
          have gr9 := T9.rd.g
          have m9 := T9.n
          have gt9 := k9.get g8 (by simp; omega)
          have md9 := k9.get (s8.get I.mark) (by simp)
          have sv9 := (I.sv.same s8).keeps k9 (fun i hi hm => by simp only [List.mem_singleton] at hm; exact I.sep i hi (by simp [hm]))
          have cb9 : ∀ x ∈ ts, Rv Try.prog h9 1 x.a x.z.length x.cap (x.z.map bv) := fun x hx => ((I.cb x hx).2.2.1.same s8).keeps k9 (fun i hi hm => by simp only [List.mem_singleton] at hm; exact (I.cb x hx).2.2.2.2.1 i hi (by simp [hm]))
          skip
          have htl : ts.length ≤ zs.length := by omega
          (refine Go.run (g:=?_))
          refine Go.loud (by kernel_rfl) rfl ?_
          (refine Go.runL (g:=?_))
          refine GoL.store' rfl rfl rfl rfl rfl (hl:=rfl) (h1:=rfl) (h3:=rfl) (g:=?_)
          refine GoL.end_ (hl := by (simp only [List.nil_append, List.cons_append]); repeat (first | exact loudP.nil | refine loudP.none ?_ | refine loudP.new (fun _ hb => absurd hb List.not_mem_nil) ?_ | refine loudP.row (by repeat (first | exact loudRowP.nil | refine loudRowP.none ?_ | refine loudRowP.bef (by decide +kernel) ?_ | refine loudRowP.apart (by first | exact .inl rfl | exact .inr (by simp)) rfl (by intro i hi; simp only [List.mem_singleton] at hi; subst hi; simp; omega) ?_)) ?_)) ?_
          (refine Go.run (g:=?_))
          refine GoR.name ?_
          intro h10 e10
          have T10 : TSt h h10 (⟨k, f, 0, 0, 0, 0, 0, 0, 0, 0, ⟨none, 0, 0⟩, ⟨none, 0, 0⟩, ⟨none, 0, 0⟩, ⟨none, 0, 0⟩, ⟨oa, ts.length, oc⟩⟩ : Ck) none 0 [] true := by
            subst e10
            exact T9.putB true
          have p10 : ∀ {i : Nat} {o : AObj}, i ≠ h.n + 3 → h9.get i = some o → h10.get i = some o := fun hi e => by subst e10; exact get_put_other (fun x => hi x.symm) e
          have r10 : ∀ {a : Option Addr} {n c : Nat} {cs : List Value} {sz : Nat}, Own (h.n + 5) a → Rv Try.prog h9 sz a n c cs → Rv Try.prog h10 sz a n c cs := fun o r => by subst e10; exact r.put (fun hm => by have := o _ hm; omega) _
          have sv10 := sv9.put_eq e10 (fun hm => by have := I.own _ hm; omega)
          have n10 : h10.n = h9.n := by subst e10; rfl
          clear e10
          have gC10 := T10.chk
          unfold Ck.cs at gC10
          try dsimp only at gC10
          have l10 := p10 (by omega) l9
          have md10 := p10 (by omega) md9
          refine GoR.buildRo (c := [.int .u16 (0 : Nat), .slice none 0 0]) rfl rfl rfl rfl rfl (by decide) (by rfl) (by rfl) ?_
          intro b11 h11 hb11 rb11 ob11 s11 n11
          have T11 := T10.to s11
          refine GoR.appendV rfl rfl rfl rfl rfl rfl (sv10.same s11) hb11 (fun i hi => .inl (by simp [hi])) (by omega) (by omega) (by rfl) ?_
          intro b12 c12 h12 hs12 k12 o12
          have m12 := k12.1
          have T12 := T11.app k12 I.own
          have gC12 := T12.chk
          unfold Ck.cs at gC12
          try dsimp only at gC12
          have nob : ∀ i, i ∈ [h7.n + 1, h7.n] → i ∉ blk oa := fun i hi hm => I.sep i hm hi
          have l12 := k12.get (s11.get l10) (nob _ (by simp))
          have md12 := k12.get (s11.get md10) (nob _ (by simp))
          have ob12 : Own (h.n + 5) b12 := I.own.app (by omega) o12
          refine GoR.fieldAddr rfl rfl rfl rfl rfl ?_
          refine GoR.store (off := 0 + 14) (n := 1) (v := .slice b12 (ts.length + 1) c12) (l := [.slice b12 (ts.length + 1) c12]) rfl rfl rfl rfl rfl gC12 rfl rfl (show 15 ≤ 15 from Nat.le_refl _) rfl rfl (.inl (by simp)) ?_
          (refine Go.run (g:=?_))
          refine Go.roundEnd rfl (get_put_other (by omega) l12) ?_
          have sep12 : ∀ i ∈ blk b12, i ∉ [h7.n + 1, h7.n] := fun i hi hm => (o12 i hi).elim (fun x => I.sep i x hm) (fun x => by simp only [List.mem_cons, List.not_mem_nil, or_false] at hm; omega)
          have fin13 : KInv h tm ps asg bo (h7.n + 1) h7.n k f true (ts ++ [⟨0, none, 0, []⟩], b12, c12) ((h12.put (h.n + 2) (some (.cells (⟨k, f, 0, 0, 0, 0, 0, 0, 0, 0, ⟨none, 0, 0⟩, ⟨none, 0, 0⟩, ⟨none, 0, 0⟩, ⟨none, 0, 0⟩, ⟨b12, ts.length + 1, c12⟩⟩ : Ck).cs 43))).put (h7.n + 1) (some (.loop .ready none tm ps asg bo h7.n))) := by
            have kq : Keeps [h7.n + 1] (h12.put (h.n + 2) (some (.cells (⟨k, f, 0, 0, 0, 0, 0, 0, 0, 0, ⟨none, 0, 0⟩, ⟨none, 0, 0⟩, ⟨none, 0, 0⟩, ⟨none, 0, 0⟩, ⟨b12, ts.length + 1, c12⟩⟩ : Ck).cs 43))) _ := (Keeps.rfl _ _).put (List.mem_singleton.2 rfl) (some (.loop .ready none tm ps asg bo h7.n))
            have rq : ∀ {a : Option Addr} {n c : Nat} {cs : List Value} {sz : Nat}, Own (h.n + 5) a → (∀ i ∈ blk a, i ∉ [h7.n + 1, h7.n]) → Rv Try.prog h12 sz a n c cs → Rv Try.prog _ sz a n c cs := fun o q r => (r.put (fun hm => by have := o _ hm; omega) _).keeps kq (fun i hi hm => by simp only [List.mem_singleton] at hm; exact q i hi (by simp [hm]))
            refine ⟨AHeap.get_put_same _ (by simp only [AHeap.n_put]; omega) _, get_put_other (by omega) (get_put_other (by omega) md12), ?_, ?_, ob12, sep12, fun x hx => ?_⟩
            · have := (T12.put (⟨k, f, 0, 0, 0, 0, 0, 0, 0, 0, ⟨none, 0, 0⟩, ⟨none, 0, 0⟩, ⟨none, 0, 0⟩, ⟨none, 0, 0⟩, ⟨b12, ts.length + 1, c12⟩⟩ : Ck)).kp kq (fun i hi => by simp only [List.mem_singleton] at hi; omega)
              simpa only [List.length_append, List.length_cons, List.length_nil] using this
            · have := (hs12.put (fun hm => by have := ob12 _ hm; omega) (some (.cells (⟨k, f, 0, 0, 0, 0, 0, 0, 0, 0, ⟨none, 0, 0⟩, ⟨none, 0, 0⟩, ⟨none, 0, 0⟩, ⟨none, 0, 0⟩, ⟨b12, ts.length + 1, c12⟩⟩ : Ck).cs 43))).keeps kq (fun i hi hm => by simp only [List.mem_singleton] at hm; exact sep12 i hi (by simp [hm]))
              simp only [List.length_append, List.length_cons, List.length_nil]
              rw [show ccs (ts ++ [⟨0, none, 0, []⟩]) = ccs ts ++ [.int .u16 (0 : Nat), .slice none 0 0] from by simp [ccs, cvC]]
              exact this
            · rcases List.mem_append.1 hx with hx | hx
              · obtain ⟨q1, q2, -, q4, q5, q6⟩ := I.cb x hx
                exact ⟨q1, q2, rq q4 q5 (((r10 q4 (cb9 x hx)).same s11).keeps k12 q6), q4, q5, fun i hi hm => (o12 i hm).elim (q6 i hi) (fun y => by have := ((r10 q4 (cb9 x hx)).same s11).lt i hi; omega)⟩
              · simp only [List.mem_singleton] at hx
                subst hx
                exact ⟨by show 0 < 65536; decide, by show 0 ≤ _; omega, Rv.nil, Own.nil _, fun i hi => by simp [blk] at hi, fun i hi => by simp [blk] at hi⟩
          exact ⟨(ts ++ [⟨0, none, 0, []⟩], b12, c12), by simpa using hbad, fin13⟩
      intro v H3 hres kp
      refine ⟨fun i hi => .inr (by simp only [List.mem_cons, List.mem_append, List.not_mem_nil, or_false, blk] at hi; omega), .inr (by omega), ?_⟩
      have two : ∀ (bad : Bool) (ts : List CV) (oa : Option Addr) (oc : Nat), KInv h tm ps asg bo (h7.n + 1) h7.n k f bad (ts, oa, oc) H3 → ∀ H4, Keeps [h7.n + 1] H3 H4 → COk H4 (⟨k, f, 0, 0, 0, 0, 0, 0, 0, 0, ⟨none, 0, 0⟩, ⟨none, 0, 0⟩, ⟨none, 0, 0⟩, ⟨none, 0, 0⟩, ⟨oa, ts.length, oc⟩⟩ : Ck) ⟨[], [], [], [], ts⟩ ∧ TSt h H4 (⟨k, f, 0, 0, 0, 0, 0, 0, 0, 0, ⟨none, 0, 0⟩, ⟨none, 0, 0⟩, ⟨none, 0, 0⟩, ⟨none, 0, 0⟩, ⟨oa, ts.length, oc⟩⟩ : Ck) none 0 [] bad ∧ CApart (h.n + 5) (⟨k, f, 0, 0, 0, 0, 0, 0, 0, 0, ⟨none, 0, 0⟩, ⟨none, 0, 0⟩, ⟨none, 0, 0⟩, ⟨none, 0, 0⟩, ⟨oa, ts.length, oc⟩⟩ : Ck) ⟨[], [], [], [], ts⟩ ∧ DfOk (h.n + 5) H4 (⟨k, f, 0, 0, 0, 0, 0, 0, 0, 0, ⟨none, 0, 0⟩, ⟨none, 0, 0⟩, ⟨none, 0, 0⟩, ⟨none, 0, 0⟩, ⟨oa, ts.length, oc⟩⟩ : Ck) ⟨[], [], [], [], ts⟩ [h7.n] := fun bad ts oa oc I H4 k4 => by
        have e1 : ∀ {a : Option Addr}, (∀ i ∈ blk a, i ∉ [h7.n + 1, h7.n]) → ∀ i ∈ blk a, i ∉ [h7.n + 1] := fun q i hi hm => q i hi (by simp only [List.mem_singleton] at hm; simp [hm])
        refine ⟨{ COk.base H4 k f hk8 hf with cl := rfl, cv := (I.sv.keeps k4 (e1 I.sep)).rv, cb := fun x hx => ⟨(I.cb x hx).1, (I.cb x hx).2.1, (I.cb x hx).2.2.1.keeps k4 (e1 (I.cb x hx).2.2.2.2.1)⟩ }, I.T.kp k4 (fun i hi => by simp only [List.mem_singleton] at hi; omega), ⟨Own.nil _, Own.nil _, Own.nil _, Own.nil _, I.own, fun x hx => (I.cb x hx).2.2.2.1⟩, .inr ⟨h7.n, rfl, k4.get I.mark (by simp), by omega, by simp [blk], by simp [blk], by simp [blk], by simp [blk], fun hm => I.sep _ hm (by simp), fun x hx hm => (I.cb x hx).2.2.2.2.1 _ hm (by simp)⟩⟩
      rcases hres with ⟨⟨ts, oa, oc⟩, hwell, I, x1, x2, x3⟩ | ⟨⟨ts, oa, oc⟩, i, hill, I⟩
      all_goals
        refine ⟨_, _, _, _, _, _, _, .normal, I.loop, by rfl, rfl, ?_⟩
        refine Go.name ?_
        intro h9 e9
        have k9 : Keeps [h7.n + 1] H3 h9 := by subst e9; exact (Keeps.rfl _ _).put (by simp) _
        clear e9
        obtain ⟨okF, TF, apF, dfF⟩ := two _ _ _ _ I h9 k9
        (refine Go.run (g:=?_))
        refine Go.joined (h9, _, _, none, 0, [], _, [h7.n]) ⟨TF, okF, apF, dfF, ?_⟩ ⟨rfl, rfl, rfl, trivial⟩ rfl rfl
      · rw [List.take_length] at x1
        simp only
        rw [finR_good okF]
        subst hk0
        simp only [rawP, if_pos hwell, pcOf, x1]
        rfl
      · simp only
        rw [finR_bad]
        subst hk0
        simp [rawP, hill]
    · (refine Go.run (g:=?_))
      refine GoR.callW rfl rfl rfl rfl rfl rfl rfl (((ru32_spec _ _ _ _ _ _ T5.rd hl).argA).mono ?_)
      rintro _ h6 ⟨a6, c6, rfl, r6, o6⟩ kk6
      refine ⟨fun i hi => .inr (by simp at hi; omega), ?_⟩
      have T6 := T5.call kk6 r6 o6
      have gC6 := T6.chk
      unfold Ck.cs at gC6
      try dsimp only at gC6
      have gP6 := T6.ptr
      have m6 := T6.n
      have hl6 := Nat.le_trans (left_len _ 4) hl
      (refine Go.run (g:=?_))
      refine Go.name ?_
      intro h7 e7
      have T7 := T6.put_eq (⟨k, f, 0, 0, num zs 4, 0, 0, 0, 0, 0, ⟨none, 0, 0⟩, ⟨none, 0, 0⟩, ⟨none, 0, 0⟩, ⟨none, 0, 0⟩, ⟨none, 0, 0⟩⟩ : Ck) e7
      clear e7
      have ok7 : COk h7 (⟨k, f, 0, 0, num zs 4, 0, 0, 0, 0, 0, ⟨none, 0, 0⟩, ⟨none, 0, 0⟩, ⟨none, 0, 0⟩, ⟨none, 0, 0⟩, ⟨none, 0, 0⟩⟩ : Ck) ⟨[], [], [], [], []⟩ := { COk.base h7 k f hk8 hf with tsn := num_lt4 _ }
      refine Go.joined (h7, _, _, _, _, _, _, []) ⟨T7, ok7, ⟨Own.nil _, Own.nil _, Own.nil _, Own.nil _, Own.nil _, fun x hx => by cases hx⟩, .inl rfl, ?_⟩ ⟨rfl, rfl, rfl, trivial⟩ rfl rfl
      subst hk0
      exact k7_fin f zs ok7
    · (refine Go.run (g:=?_))
      have ok5 : COk h5 (⟨k, f, 0, 0, 0, 0, 0, 0, 0, 0, ⟨none, 0, 0⟩, ⟨none, 0, 0⟩, ⟨none, 0, 0⟩, ⟨none, 0, 0⟩, ⟨none, 0, 0⟩⟩ : Ck) ⟨[], [], [], [], []⟩ := COk.base h5 k f hk8 hf
      refine Go.joined (h5, _, _, _, _, _, _, []) ⟨T5, ok5, ⟨Own.nil _, Own.nil _, Own.nil _, Own.nil _, Own.nil _, fun x hx => by cases hx⟩, .inl rfl, ?_⟩ ⟨rfl, rfl, rfl, trivial⟩ rfl rfl
      cases zs with
      | nil =>
        rw [finR_good ok5]
        subst hk0
        rfl
      | cons z l =>
        rw [finR_left _ _ _ (by simp)]
        subst hk0
        simp [rawP]
    · (refine Go.run (g:=?_))
      have ok5 : COk h5 (⟨k, f, 0, 0, 0, 0, 0, 0, 0, 0, ⟨none, 0, 0⟩, ⟨none, 0, 0⟩, ⟨none, 0, 0⟩, ⟨none, 0, 0⟩, ⟨none, 0, 0⟩⟩ : Ck) ⟨[], [], [], [], []⟩ := COk.base h5 k f hk8 hf
      refine Go.joined (h5, _, _, _, _, _, _, []) ⟨T5, ok5, ⟨Own.nil _, Own.nil _, Own.nil _, Own.nil _, Own.nil _, fun x hx => by cases hx⟩, .inl rfl, ?_⟩ ⟨rfl, rfl, rfl, trivial⟩ rfl rfl
      cases zs with
      | nil =>
        rw [finR_good ok5]
        subst hk0
        rfl
      | cons z l =>
        rw [finR_left _ _ _ (by simp)]
        subst hk0
        simp [rawP]
    · (refine Go.run (g:=?_))
      have ok5 : COk h5 (⟨k, f, 0, 0, 0, 0, 0, 0, 0, 0, ⟨none, 0, 0⟩, ⟨none, 0, 0⟩, ⟨none, 0, 0⟩, ⟨none, 0, 0⟩, ⟨none, 0, 0⟩⟩ : Ck) ⟨[], [], [], [], []⟩ := COk.base h5 k f hk8 hf
      refine Go.joined (h5, _, _, _, _, _, _, []) ⟨T5, ok5, ⟨Own.nil _, Own.nil _, Own.nil _, Own.nil _, Own.nil _, fun x hx => by cases hx⟩, .inl rfl, ?_⟩ ⟨rfl, rfl, rfl, trivial⟩ rfl rfl
      cases zs with
      | nil =>
        rw [finR_good ok5]
        subst hk0
        rfl
      | cons z l =>
        rw [finR_left _ _ _ (by simp)]
        subst hk0
        simp [rawP]
    · (refine Go.run (g:=?_))
      refine GoR.name ?_
      intro h10 e10
      have T10 := T5.to (by subst e10; exact Same.refl _)
      clear e10
      have gP10 := T10.ptr
      have m10 := T10.n
      refine GoR.callW rfl rfl rfl rfl rfl rfl rfl (((rrest_spec _ _ _ _ _ _ T10.rd hl).argA).mono ?_)
      rintro _ hr10 ⟨br10, cr10, rfl, vr10, or10, rr10⟩ kr10
      refine ⟨fun i hi => .inr (by simp at hi; omega), ?_⟩
      have Tr10 := T10.call kr10 rr10 (fun i hi => by simp [blk] at hi)
      have gC10 := Tr10.chk
      unfold Ck.cs at gC10
      try dsimp only at gC10
      have mr10 := Tr10.n
      (refine Go.run (g:=?_))
      refine Go.name ?_
      intro hz10 ez10
      have Tz10 := Tr10.put_eq (⟨k, f, 0, 0, 0, 0, 0, 0, 0, 0, ⟨br10, zs.length, cr10⟩, ⟨none, 0, 0⟩, ⟨none, 0, 0⟩, ⟨none, 0, 0⟩, ⟨none, 0, 0⟩⟩ : Ck) ez10
      have vz10 := vr10.put_eq ez10 (fun hm => by have := or10 _ hm; omega)
      clear ez10
      have ok10 : COk hz10 (⟨k, f, 0, 0, 0, 0, 0, 0, 0, 0, ⟨br10, zs.length, cr10⟩, ⟨none, 0, 0⟩, ⟨none, 0, 0⟩, ⟨none, 0, 0⟩, ⟨none, 0, 0⟩⟩ : Ck) ⟨zs, [], [], [], []⟩ := { COk.base hz10 k f hk8 hf with dl := rfl, dv := vz10.rv }
      refine Go.joined (hz10, _, _, none, 0, [], _, []) ⟨Tz10, ok10, ⟨or10.mono (by omega), Own.nil _, Own.nil _, Own.nil _, Own.nil _, fun x hx => by cases hx⟩, .inl rfl, ?_⟩ ⟨rfl, rfl, rfl, trivial⟩ rfl rfl
      rw [finR_good ok10, show rawP k f zs = some { PC.z k f with data := zs } from by unfold rawP; split <;> first | rfl | omega | contradiction]
      rfl
  rintro ⟨H, c, d, a', cap', ys, bad, df⟩ ⟨T, ok, hap, hdf, hfin⟩
  simp only at T ok hap hdf hfin ⊢
  have gC := T.chk
  have gP := T.ptr
  have gr := T.rd.g
  have gR := T.res
  have mH := T.n
  unfold Ck.cs Ck.none Sl.nil at gR
  unfold Ck.cs at gC
  rw [← hfin]
  rcases hdf with rfl | ⟨dd, rfl, hdd, hdn, hcn⟩
  · cases bad
    case true =>
      rw [finR_bad]
      (refine Go.run (g:=?_))
      refine Go.fin (.inr rfl) (.cellN (b := h.n + 1) (off := 0) rfl inferInstance (by (first | assumption | exact AHeap.get_push_same _ _ | ((repeat first | exact AHeap.get_push_same _ _ | assumption | refine get_push_lt ?_ | exact AHeap.get_put_same _ (by first | omega | (simp only [AHeap.n_push, AHeap.n_put]; omega)) _ | exact get_put_self (by assumption) | apply get_put_self | refine get_put_other (by first | omega | (simp only [AHeap.n_push, AHeap.n_put]; omega)) ?_ | refine Same.get (by assumption) ?_ | refine Keeps.get (by assumption) ?_ (fun hi => by have hx := Own.out (by assumption) hi; omega)) ; fail_if_success focus skip) | fail)) (by first | exact Nat.le_refl _ | (simp [setL, cellsL]; fail_if_success focus skip) | (simp; omega)) rfl (.tmp rfl .nil)) ?_
      rfl
    cases ys with
    | cons y ys =>
      rw [finR_left _ _ _ (by simp)]
      have hpos : (0 : Int) < ((y :: ys).length : Int) := by simp only [List.length_cons]; omega
      generalize (y :: ys).length = ny at *
      (refine Go.run (g:=?_))
      refine Go.fin (.inr rfl) (.cellN (b := h.n + 1) (off := 0) rfl inferInstance (by (first | assumption | exact AHeap.get_push_same _ _ | ((repeat first | exact AHeap.get_push_same _ _ | assumption | refine get_push_lt ?_ | exact AHeap.get_put_same _ (by first | omega | (simp only [AHeap.n_push, AHeap.n_put]; omega)) _ | exact get_put_self (by assumption) | apply get_put_self | refine get_put_other (by first | omega | (simp only [AHeap.n_push, AHeap.n_put]; omega)) ?_ | refine Same.get (by assumption) ?_ | refine Keeps.get (by assumption) ?_ (fun hi => by have hx := Own.out (by assumption) hi; omega)) ; fail_if_success focus skip) | fail)) (by first | exact Nat.le_refl _ | (simp [setL, cellsL]; fail_if_success focus skip) | (simp; omega)) rfl (.tmp rfl .nil)) ?_
      rfl
    | nil =>
      have hmy := may_spec c ok.f d.gaps ok.gl ok.gb H ok.gv
      cases hm : may c d.gaps
      all_goals rw [hm] at hmy
      · rw [show finR c d false [] = none from by simp [finR, hm]]
        (refine Go.run (g:=?_))
        refine GoR.call rfl rfl rfl rfl rfl rfl rfl (((hmy).argA).mono ?_)
        rintro _ h8 rfl s8
        (have nn := (s8).1; try simp only [AHeap.n_push, AHeap.n_put] at nn)
        have gR8 := s8.get gR
        (refine Go.run (g:=?_))
        refine Go.fin (.inr rfl) (.cellN (b := h.n + 1) (off := 0) rfl inferInstance (by (first | assumption | exact AHeap.get_push_same _ _ | ((repeat first | exact AHeap.get_push_same _ _ | assumption | refine get_push_lt ?_ | exact AHeap.get_put_same _ (by first | omega | (simp only [AHeap.n_push, AHeap.n_put]; omega)) _ | exact get_put_self (by assumption) | apply get_put_self | refine get_put_other (by first | omega | (simp only [AHeap.n_push, AHeap.n_put]; omega)) ?_ | refine Same.get (by assumption) ?_ | refine Keeps.get (by assumption) ?_ (fun hi => by have hx := Own.out (by assumption) hi; omega)) ; fail_if_success focus skip) | fail)) (by first | exact Nat.le_refl _ | (simp [setL, cellsL]; fail_if_success focus skip) | (simp; omega)) rfl (.tmp rfl .nil)) ?_
        rfl
      · rw [show finR c d false [] = some (pcOf c d) from by simp [finR, hm]]
        (refine Go.run (g:=?_))
        refine GoR.call rfl rfl rfl rfl rfl rfl rfl (((hmy).argA).mono ?_)
        rintro _ h8 rfl s8
        (have nn := (s8).1; try simp only [AHeap.n_push, AHeap.n_put] at nn)
        have gR8 := s8.get gR
        have gC8 := s8.get gC
        (refine Go.run (g:=?_))
        refine Go.fin (.inr rfl) (.cellN (b := h.n + 1) (off := 0) rfl inferInstance (by (first | assumption | exact AHeap.get_push_same _ _ | ((repeat first | exact AHeap.get_push_same _ _ | assumption | refine get_push_lt ?_ | exact AHeap.get_put_same _ (by first | omega | (simp only [AHeap.n_push, AHeap.n_put]; omega)) _ | exact get_put_self (by assumption) | apply get_put_self | refine get_put_other (by first | omega | (simp only [AHeap.n_push, AHeap.n_put]; omega)) ?_ | refine Same.get (by assumption) ?_ | refine Keeps.get (by assumption) ?_ (fun hi => by have hx := Own.out (by assumption) hi; omega)) ; fail_if_success focus skip) | fail)) (by first | exact Nat.le_refl _ | (simp [setL, cellsL]; fail_if_success focus skip) | (simp; omega)) rfl (.tmp rfl .nil)) ?_
        exact ⟨c, d, rfl, (ok.same s8).put hap (by omega) _, hap.mono (by omega), rfl⟩
  · cases bad
    case true =>
      rw [finR_bad]
      (refine Go.run (g:=?_))
      refine Go.fin_marks (.inr rfl) (by intro d hd; simp only [List.mem_singleton] at hd; omega) (takeAll_one (by (first | assumption | exact AHeap.get_push_same _ _ | ((repeat first | exact AHeap.get_push_same _ _ | assumption | refine get_push_lt ?_ | exact AHeap.get_put_same _ (by first | omega | (simp only [AHeap.n_push, AHeap.n_put]; omega)) _ | exact get_put_self (by assumption) | apply get_put_self | refine get_put_other (by first | omega | (simp only [AHeap.n_push, AHeap.n_put]; omega)) ?_ | refine Same.get (by assumption) ?_ | refine Keeps.get (by assumption) ?_ (fun hi => by have hx := Own.out (by assumption) hi; omega)) ; fail_if_success focus skip) | fail))) (.cellN (b := h.n + 1) (off := 0) rfl inferInstance (by (first | assumption | exact AHeap.get_push_same _ _ | ((repeat first | exact AHeap.get_push_same _ _ | assumption | refine get_push_lt ?_ | exact AHeap.get_put_same _ (by first | omega | (simp only [AHeap.n_push, AHeap.n_put]; omega)) _ | exact get_put_self (by assumption) | apply get_put_self | refine get_put_other (by first | omega | (simp only [AHeap.n_push, AHeap.n_put]; omega)) ?_ | refine Same.get (by assumption) ?_ | refine Keeps.get (by assumption) ?_ (fun hi => by have hx := Own.out (by assumption) hi; omega)) ; fail_if_success focus skip) | fail)) (by first | exact Nat.le_refl _ | (simp [setL, cellsL]; fail_if_success focus skip) | (simp; omega)) rfl (.tmp rfl .nil)) ?_
      rfl
    cases ys with
    | cons y ys =>
      rw [finR_left _ _ _ (by simp)]
      have hpos : (0 : Int) < ((y :: ys).length : Int) := by simp only [List.length_cons]; omega
      generalize (y :: ys).length = ny at *
      (refine Go.run (g:=?_))
      refine Go.fin_marks (.inr rfl) (by intro d hd; simp only [List.mem_singleton] at hd; omega) (takeAll_one (by (first | assumption | exact AHeap.get_push_same _ _ | ((repeat first | exact AHeap.get_push_same _ _ | assumption | refine get_push_lt ?_ | exact AHeap.get_put_same _ (by first | omega | (simp only [AHeap.n_push, AHeap.n_put]; omega)) _ | exact get_put_self (by assumption) | apply get_put_self | refine get_put_other (by first | omega | (simp only [AHeap.n_push, AHeap.n_put]; omega)) ?_ | refine Same.get (by assumption) ?_ | refine Keeps.get (by assumption) ?_ (fun hi => by have hx := Own.out (by assumption) hi; omega)) ; fail_if_success focus skip) | fail))) (.cellN (b := h.n + 1) (off := 0) rfl inferInstance (by (first | assumption | exact AHeap.get_push_same _ _ | ((repeat first | exact AHeap.get_push_same _ _ | assumption | refine get_push_lt ?_ | exact AHeap.get_put_same _ (by first | omega | (simp only [AHeap.n_push, AHeap.n_put]; omega)) _ | exact get_put_self (by assumption) | apply get_put_self | refine get_put_other (by first | omega | (simp only [AHeap.n_push, AHeap.n_put]; omega)) ?_ | refine Same.get (by assumption) ?_ | refine Keeps.get (by assumption) ?_ (fun hi => by have hx := Own.out (by assumption) hi; omega)) ; fail_if_success focus skip) | fail)) (by first | exact Nat.le_refl _ | (simp [setL, cellsL]; fail_if_success focus skip) | (simp; omega)) rfl (.tmp rfl .nil)) ?_
      rfl
    | nil =>
      have hmy := may_spec c ok.f d.gaps ok.gl ok.gb H ok.gv
      cases hm : may c d.gaps
      all_goals rw [hm] at hmy
      · rw [show finR c d false [] = none from by simp [finR, hm]]
        (refine Go.run (g:=?_))
        refine GoR.call rfl rfl rfl rfl rfl rfl rfl (((hmy).argA).mono ?_)
        rintro _ h8 rfl s8
        (have nn := (s8).1; try simp only [AHeap.n_push, AHeap.n_put] at nn)
        have gR8 := s8.get gR
        have hdd := s8.get hdd
        (refine Go.run (g:=?_))
        refine Go.fin_marks (.inr rfl) (by intro d hd; simp only [List.mem_singleton] at hd; omega) (takeAll_one (by (first | assumption | exact AHeap.get_push_same _ _ | ((repeat first | exact AHeap.get_push_same _ _ | assumption | refine get_push_lt ?_ | exact AHeap.get_put_same _ (by first | omega | (simp only [AHeap.n_push, AHeap.n_put]; omega)) _ | exact get_put_self (by assumption) | apply get_put_self | refine get_put_other (by first | omega | (simp only [AHeap.n_push, AHeap.n_put]; omega)) ?_ | refine Same.get (by assumption) ?_ | refine Keeps.get (by assumption) ?_ (fun hi => by have hx := Own.out (by assumption) hi; omega)) ; fail_if_success focus skip) | fail))) (.cellN (b := h.n + 1) (off := 0) rfl inferInstance (by (first | assumption | exact AHeap.get_push_same _ _ | ((repeat first | exact AHeap.get_push_same _ _ | assumption | refine get_push_lt ?_ | exact AHeap.get_put_same _ (by first | omega | (simp only [AHeap.n_push, AHeap.n_put]; omega)) _ | exact get_put_self (by assumption) | apply get_put_self | refine get_put_other (by first | omega | (simp only [AHeap.n_push, AHeap.n_put]; omega)) ?_ | refine Same.get (by assumption) ?_ | refine Keeps.get (by assumption) ?_ (fun hi => by have hx := Own.out (by assumption) hi; omega)) ; fail_if_success focus skip) | fail)) (by first | exact Nat.le_refl _ | (simp [setL, cellsL]; fail_if_success focus skip) | (simp; omega)) rfl (.tmp rfl .nil)) ?_
        rfl
      · rw [show finR c d false [] = some (pcOf c d) from by simp [finR, hm]]
        (refine Go.run (g:=?_))
        refine GoR.call rfl rfl rfl rfl rfl rfl rfl (((hmy).argA).mono ?_)
        rintro _ h8 rfl s8
        (have nn := (s8).1; try simp only [AHeap.n_push, AHeap.n_put] at nn)
        have gR8 := s8.get gR
        have gC8 := s8.get gC
        have hdd := s8.get hdd
        (refine Go.run (g:=?_))
        refine Go.fin_marks (.inr rfl) (by intro d hd; simp only [List.mem_singleton] at hd; omega) (takeAll_one (by (first | assumption | exact AHeap.get_push_same _ _ | ((repeat first | exact AHeap.get_push_same _ _ | assumption | refine get_push_lt ?_ | exact AHeap.get_put_same _ (by first | omega | (simp only [AHeap.n_push, AHeap.n_put]; omega)) _ | exact get_put_self (by assumption) | apply get_put_self | refine get_put_other (by first | omega | (simp only [AHeap.n_push, AHeap.n_put]; omega)) ?_ | refine Same.get (by assumption) ?_ | refine Keeps.get (by assumption) ?_ (fun hi => by have hx := Own.out (by assumption) hi; omega)) ; fail_if_success focus skip) | fail))) (.cellN (b := h.n + 1) (off := 0) rfl inferInstance (by (first | assumption | exact AHeap.get_push_same _ _ | ((repeat first | exact AHeap.get_push_same _ _ | assumption | refine get_push_lt ?_ | exact AHeap.get_put_same _ (by first | omega | (simp only [AHeap.n_push, AHeap.n_put]; omega)) _ | exact get_put_self (by assumption) | apply get_put_self | refine get_put_other (by first | omega | (simp only [AHeap.n_push, AHeap.n_put]; omega)) ?_ | refine Same.get (by assumption) ?_ | refine Keeps.get (by assumption) ?_ (fun hi => by have hx := Own.out (by assumption) hi; omega)) ; fail_if_success focus skip) | fail)) (by first | exact Nat.le_refl _ | (simp [setL, cellsL]; fail_if_success focus skip) | (simp; omega)) rfl (.tmp rfl .nil)) ?_
        exact ⟨c, d, rfl, ((ok.same s8).put hap (by omega) _).putN hcn _, hap.mono (by omega), rfl⟩
end Go.Proofs.Ytjpegoigipbmiaa
namespace Go.Proofs.Ytjpegoigipbmiaa
set_option maxRecDepth 100000
attribute [local irreducible] Go GoR GoL
def pcs (l : List CP) : List PC := l.map fun x => pcOf x.1 x.2
def endsB (k : Nat) : Bool := !kn k && decide (k < 128)
def goP : List Thing → Bool → List PC → Except Nat (List PC)
  | [], well, acc => if well then .ok acc else .error 40
  | x :: l, well, acc => if endsB x.1 = true then .ok acc else match tkP x.1 x.2.1 x.2.2 with
    | none => .error 50
    | some p => goP l well (acc ++ [p])
def pmayK (g : Nat) (ks : List Nat) : Bool := decide (0 < ks.length) && (decide (ks.length ≤ 1) || !ks.any aloneB) && (ks.any startB == decide (g = 0))
theorem pmay_k (g : Nat) (l : List CP) : pmay g l = pmayK g ((pcs l).map (·.k)) := by
  unfold pmay pmayK anyA anyS pcs
  simp only [List.length_map, List.map_map, List.any_map]
  rfl
abbrev PR := Nat × Nat × Nat × List PC
def htk (zs : List UInt8) : Except Nat (Nat × Nat × Nat) :=
  if 1500 < zs.length then .error 3
  else if zs.length < 12 then .error 30
  else if zs.length % 4 ≠ 0 then .error 32
  else if beNum ((zs.drop 8).take 4) ≠ headSum zs then .error 31
  else .ok (beNum (zs.take 2), beNum ((zs.drop 2).take 2), beNum ((zs.drop 4).take 4))
def take6 (zs : List UInt8) : Except Nat PR := match htk zs with
  | .error e => .error e
  | .ok (f, t, g) => match goP (parse true (zs.drop 12)).1 (parse true (zs.drop 12)).2 [] with
    | .error e => .error e
    | .ok l => if pmayK g (l.map (·.k)) = true then .ok (f, t, g, l) else .error 60
theorem htk_err {zs : List UInt8} {e : Nat} (h : htk zs = .error e) : e ≠ 0 := by
  unfold htk at h
  split at h
  · cases h; decide
  split at h
  · cases h; decide
  split at h
  · cases h; decide
  split at h
  · cases h; decide
  · cases h
theorem htk_ok {zs : List UInt8} {f t g : Nat} (h : htk zs = .ok (f, t, g)) : 12 ≤ zs.length ∧ zs.length ≤ 1500 ∧ zs.length % 4 = 0 ∧ beNum ((zs.drop 8).take 4) = headSum zs ∧ f = beNum (zs.take 2) ∧ t = beNum ((zs.drop 2).take 2) ∧ g = beNum ((zs.drop 4).take 4) ∧ f < 65536 ∧ t < 65536 ∧ g < 4294967296 := by
  unfold htk at h
  split at h
  · cases h
  split at h
  · cases h
  split at h
  · cases h
  split at h
  · cases h
  · rename_i h1 h2 h3 h4
    cases h
    refine ⟨by omega, by omega, by omega, Decidable.of_not_not h4, rfl, rfl, rfl, ?_, ?_, ?_⟩
    · exact beNum_lt_of (k := 2) (by simp; omega) rfl
    · exact beNum_lt_of (k := 2) (by simp; omega) rfl
    · exact beNum_lt_of (k := 4) (by simp; omega) rfl
abbrev zPk : List Value := [.int .u16 (0 : Nat), .int .u16 (0 : Nat), .int .u32 (0 : Nat), .slice none 0 0]
abbrev pkC (f t g : Nat) (a : Option Addr) (n cap : Nat) : List Value := [.int .u16 f, .int .u16 t, .int .u32 g, .slice a n cap]
def TakeP (h' : AHeap) (v : Value) (r : Except Nat PR) : Prop := match r with
  | .error e => v = .tuple #[pkV 0 0 0 none 0 0, .int .i64 e]
  | .ok (f, t, g, pl) => ∃ a n cap l, v = .tuple #[pkV f t g a n cap, .int .i64 0] ∧ KS h' a n cap l ∧ pcs l = pl
structure KRow (n0 : Nat) (h : AHeap) (a : Option Addr) (cap : Nat) (l : List CP) : Prop where
  sv : Sv h 43 15 a l.length cap (kcs l)
  own : Own n0 a
  ok : ∀ x ∈ l, COk h x.1 x.2
  apart : ∀ x ∈ l, ∀ i ∈ blk a, CNot i x.1 x.2
  ownv : ∀ x ∈ l, CApart n0 x.1 x.2
theorem KRow.nil (n0 : Nat) (h : AHeap) : KRow n0 h none 0 [] := ⟨.nil, Own.nil _, (fun t ht => by cases ht), (fun t ht => by cases ht), fun t ht => by cases ht⟩
theorem KRow.same {n0 : Nat} {h h' : AHeap} {a : Option Addr} {cap : Nat} {l : List CP} (k : KRow n0 h a cap l) (s : Same h h') : KRow n0 h' a cap l := ⟨k.sv.same s, k.own, fun x hx => (k.ok x hx).same s, k.apart, k.ownv⟩
theorem KRow.ks {n0 : Nat} {h : AHeap} {a : Option Addr} {cap : Nat} {l : List CP} (k : KRow n0 h a cap l) : KS h a l.length cap l := ⟨rfl, k.sv.rv, k.ok⟩
theorem COk.keeps {wr : List Nat} {H H' : AHeap} {c : Ck} {d : CD} (ok : COk H c d) (kp : Keeps wr H H') (hn : ∀ i ∈ wr, CNot i c d) : COk H' c d := by
  have q : ∀ {a : Option Addr}, (∀ i ∈ wr, i ∉ blk a) → ∀ i ∈ blk a, i ∉ wr := fun w i hi hm => w i hm hi
  exact { ok with dv := ok.dv.keeps kp (q fun i hi => (hn i hi).1), av := ok.av.keeps kp (q fun i hi => (hn i hi).2.1), gv := ok.gv.keeps kp (q fun i hi => (hn i hi).2.2.1), uv := ok.uv.keeps kp (q fun i hi => (hn i hi).2.2.2.1), cv := ok.cv.keeps kp (q fun i hi => (hn i hi).2.2.2.2.1), cb := fun x hx => ⟨(ok.cb x hx).1, (ok.cb x hx).2.1, (ok.cb x hx).2.2.keeps kp (q fun i hi => (hn i hi).2.2.2.2.2 x hx)⟩ }
theorem CApart.cnot {n i : Nat} {c : Ck} {d : CD} (ap : CApart n c d) (hi : i < n) : CNot i c d := by
  obtain ⟨h1, h2, h3, h4, h5, h6⟩ := ap
  have q : ∀ {a : Option Addr}, Own n a → i ∉ blk a := fun w hm => by have := w _ hm; omega
  exact ⟨q h1, q h2, q h3, q h4, q h5, fun x hx => q (h6 x hx)⟩
theorem KRow.keeps {n0 : Nat} {h h' : AHeap} {a : Option Addr} {cap : Nat} {l : List CP} {wr : List Nat} (k : KRow n0 h a cap l) (kp : Keeps wr h h') (hn : ∀ i ∈ wr, i < n0 ∨ (i ∉ blk a ∧ ∀ x ∈ l, CNot i x.1 x.2)) : KRow n0 h' a cap l :=
  ⟨k.sv.keeps kp (fun i hi hm => (hn i hm).elim (fun x => by have := k.own i hi; omega) (fun x => x.1 hi)), k.own, fun x hx => (k.ok x hx).keeps kp (fun i hi => (hn i hi).elim (fun y => (k.ownv x hx).cnot y) (fun y => y.2 x hx)), k.apart, k.ownv⟩
theorem COk.lt {H : AHeap} {c : Ck} {d : CD} (ok : COk H c d) {i : Nat} (hi : H.n ≤ i) : CNot i c d :=
  ⟨fun hm => by have := ok.dv.lt i hm; omega, fun hm => by have := ok.av.lt i hm; omega, fun hm => by have := ok.gv.lt i hm; omega, fun hm => by have := ok.uv.lt i hm; omega, fun hm => by have := ok.cv.lt i hm; omega, fun x hx hm => by have := (ok.cb x hx).2.2.lt i hm; omega⟩
theorem kcs_snoc (l : List CP) (x : CP) : kcs (l ++ [x]) = kcs l ++ x.1.cs := by simp [kcs]
theorem KRow.snoc {n0 : Nat} {h₁ h₂ : AHeap} {a a₂ : Option Addr} {cap cap₂ : Nat} {l : List CP} {c : Ck} {d : CD} (k : KRow n0 h₁ a cap l) (hn : n0 ≤ h₁.n) (hc : COk h₁ c d) (hca : ∀ i ∈ blk a, CNot i c d) (hco : CApart n0 c d) (sv : Sv h₂ 43 15 a₂ (l.length + 1) cap₂ (kcs l ++ c.cs)) (kp : Keeps (blk a) h₁ h₂) (hb : ∀ i ∈ blk a₂, i ∈ blk a ∨ h₁.n ≤ i) : KRow n0 h₂ a₂ cap₂ (l ++ [(c, d)]) := by
  have all : ∀ x ∈ l ++ [(c, d)], COk h₁ x.1 x.2 ∧ ∀ i ∈ blk a, CNot i x.1 x.2 := fun x hx => by
    rcases List.mem_append.1 hx with hx | hx
    · exact ⟨k.ok x hx, k.apart x hx⟩
    · simp only [List.mem_singleton] at hx; subst hx; exact ⟨hc, hca⟩
  refine ⟨by rw [kcs_snoc, List.length_append]; exact sv, fun i hi => (hb i hi).elim (k.own i) (fun x => by omega), fun x hx => ?_, fun x hx i hi => ?_, fun x hx => ?_⟩
  · exact (all x hx).1.keeps kp (all x hx).2
  · exact (hb i hi).elim (fun y => (all x hx).2 i y) (fun y => (all x hx).1.lt y)
  · rcases List.mem_append.1 hx with hx | hx
    · exact k.ownv x hx
    · simp only [List.mem_singleton] at hx; subst hx; exact hco
theorem ends_spec (k : Nat) (hk : k < 256) (h : AHeap) : CallS Try.prog [] 31 [.int .u8 k] h fun v h' => v = .bool (endsB k) := by
  (refine CallS.of1 Try.func31 rfl Try.ntmps31 Try.results31 rfl ?_)
  (refine Go.run (g:=?_))
  refine GoR.call rfl rfl rfl rfl rfl rfl rfl (((kknown_spec k _).argA).mono ?_)
  rintro _ h1 ⟨rfl, rfl⟩ s1
  cases hkn : kn k
  · (refine Go.run (g:=?_))
    refine GoR.call rfl rfl rfl rfl rfl rfl rfl (((skips_spec k hk _).argA).mono ?_)
    rintro _ h2 ⟨rfl, rfl⟩ s2
    rw [hkn]
    (refine Go.run (g:=?_))
    (first|refine Go.finT (by first|exact .inr rfl|exact .inl rfl) rfl ?_|refine Go.fin1 (by first|exact .inr rfl|exact .inl rfl) rfl (hq:=?_))
    simp only [retV, endsB, hkn]
    by_cases c : 128 ≤ k
    · simp [c] <;> omega
    · simp [c] <;> omega
  · (refine Go.run (g:=?_))
    (first|refine Go.finT (by first|exact .inr rfl|exact .inl rfl) rfl ?_|refine Go.fin1 (by first|exact .inr rfl|exact .inl rfl) rfl (hq:=?_))
    simp [retV, endsB, hkn]
theorem thing_kind (z : List UInt8) : (thing true z).1 < 256 ∧ (thing true z).2.1 < 256 := by
  have h : ∀ l : List UInt8, beNum (l.take 1) < 256 := fun l => by
    have := beNum_lt_of (l := l.take 1) (k := 1) (by simp; omega) rfl
    omega
  exact ⟨h _, h _⟩
theorem parse_kind : ∀ (n : Nat) (z : List UInt8), z.length ≤ n → ∀ x ∈ (parse true z).1, x.1 < 256 ∧ x.2.1 < 256 ∧ x.2.2.length ≤ z.length := by
  intro n
  induction n with
  | zero =>
    intro z hz x hx
    obtain rfl : z = [] := List.eq_nil_of_length_eq_zero (by omega)
    rw [parse_nil] at hx; cases hx
  | succ n ih =>
    intro z hz x hx
    by_cases h0 : z = []
    · rw [h0, parse_nil] at hx; cases hx
    by_cases hW : Whole z
    · rw [parse_some hW] at hx
      have hu := up4_le (tN z)
      have h2 := hW.2.1
      rcases List.mem_cons.1 hx with rfl | hx
      · obtain ⟨h1, h2⟩ := thing_kind z
        exact ⟨h1, h2, by simp only [thing, List.length_take, List.length_drop]; omega⟩
      · obtain ⟨h1, h2, h3⟩ := ih _ (by rw [List.length_drop]; omega) x hx
        exact ⟨h1, h2, by rw [List.length_drop] at h3; omega⟩
    · rw [parse_none h0 hW] at hx; cases hx
end Go.Proofs.Ytjpegoigipbmiaa
namespace Go.Proofs.Ytjpegoigipbmiaa
set_option maxRecDepth 100000
attribute [local irreducible] Go GoR GoL
instance seqGap (a b a' b' : Int) : SEq Try.prog 78 [.int .u16 a, .int .u16 b] [.int .u16 a', .int .u16 b'] (a == a' && (b == b' && true)) := ⟨by kernel_rfl⟩
set_option maxHeartbeats 16000000 in
theorem same5_spec (c c' : Ck) (d d' : CD) (h : AHeap) (ok : COk h c d) (ok' : COk h c' d') (e : pcOf c d = pcOf c' d') (hA : c.A.n ≤ 1000000000) (hG : c.G.n ≤ 1000000000) (hU : c.U.n ≤ 1000000000) (hb : c.C.n ≤ 1000000000) : CallS Try.prog [] 37 [c.v, c'.v] h fun v h' => v = .bool true := by
  simp only [pcOf, PC.mk.injEq] at e
  obtain ⟨e1, e2, e3, e4, e5, e6, e7, e8, e9, e10, e11, e12, e13, e14, e15⟩ := e
  unfold Ck.v
  (refine CallS.of2 Try.func37 rfl Try.ntmps37 Try.results37 rfl ?_)
  (iterate 4 (first|(refine Go.kk 0 rfl ?_;refine Go.seq ?_)|(refine Go.kk 1 rfl ?_;refine Go.region (by kernel_rfl) rfl ?_)|(refine GoR.kk 0 rfl ?_;first|refine GoR.move rfl rfl rfl rfl rfl ?_|refine GoR.assign rfl rfl rfl rfl rfl ?_)|(refine GoR.kk 8 rfl ?_;first|refine GoR.boxA rfl rfl rfl rfl rfl ?_|refine GoR.boxS rfl rfl rfl rfl rfl rfl ?_|refine GoR.alloc rfl rfl rfl rfl ?_)|refine GoR.end ?_))
  simp only [AHeap.n_push, AHeap.n_put]
  refine GoR.name ?_
  intro h3 e0
  have S3 : Same h h3 := by subst e0; exact ((Same.refl h).push _).push _
  have G0 : h3.get h.n = some (.cells c.cs 43) := by subst e0; (first | assumption | exact AHeap.get_push_same _ _ | ((repeat first | exact AHeap.get_push_same _ _ | assumption | refine get_push_lt ?_ | exact AHeap.get_put_same _ (by first | omega | (simp only [AHeap.n_push, AHeap.n_put]; omega)) _ | exact get_put_self (by assumption) | apply get_put_self | refine get_put_other (by first | omega | (simp only [AHeap.n_push, AHeap.n_put]; omega)) ?_ | refine Same.get (by assumption) ?_ | refine Keeps.get (by assumption) ?_ (fun hi => by have hx := Own.out (by assumption) hi; omega)) ; fail_if_success focus skip) | fail)
  have G1 : h3.get (h.n + 1) = some (.cells c'.cs 43) := by subst e0; (first | assumption | exact AHeap.get_push_same _ _ | ((repeat first | exact AHeap.get_push_same _ _ | assumption | refine get_push_lt ?_ | exact AHeap.get_put_same _ (by first | omega | (simp only [AHeap.n_push, AHeap.n_put]; omega)) _ | exact get_put_self (by assumption) | apply get_put_self | refine get_put_other (by first | omega | (simp only [AHeap.n_push, AHeap.n_put]; omega)) ?_ | refine Same.get (by assumption) ?_ | refine Keeps.get (by assumption) ?_ (fun hi => by have hx := Own.out (by assumption) hi; omega)) ; fail_if_success focus skip) | fail)
  have n3 : h3.n = h.n + 2 := by subst e0; rfl
  clear e0
  unfold Ck.cs at G0 G1
  have o := ok.same S3
  have o' := ok'.same S3
  have dv := o.dv
  have dv' := o'.dv
  rw [← e11] at dv'
  have l1 := ok.al
  have l1' := ok'.al
  have l2 := ok.gl
  have l2' := ok'.gl
  have l3 := ok.ul
  have l3' := ok'.ul
  have l4 := ok.cl
  have l4' := ok'.cl
  have l0 := ok.dl
  have l0' := ok'.dl
  have l5 : d.causes.length = d'.causes.length := by have := congrArg List.length e15; simpa using this
  rw [← e11] at l0'
  rw [← e12] at l1'
  rw [← e13] at l2'
  rw [← e14] at l3'
  have av := o.av
  have av' := o'.av
  rw [← e12] at av'
  have gv := o.gv
  have gv' := o'.gv
  rw [← e13] at gv'
  have uv := o.uv
  have uv' := o'.uv
  rw [← e14] at uv'
  have cv := o.cv
  have cv' := o'.cv
  have q1 : c'.A.n = c.A.n := by omega
  have q2 : c'.G.n = c.G.n := by omega
  have q3 : c'.U.n = c.U.n := by omega
  have q4 : c'.C.n = c.C.n := by omega
  have q0 : c'.D.n = c.D.n := by omega
  rw [q0] at dv' G1
  rw [q1] at av' G1
  rw [q2] at gv' G1
  rw [q3] at uv' G1
  rw [q4] at cv' G1
  rw [← e1, ← e2, ← e3, ← e4, ← e5, ← e6, ← e7, ← e8, ← e9, ← e10] at G1
  (refine Go.run (g:=?_))
  refine Go.loop (α := Nat) (fun i => [(5, .int .i64 i), (2, .pointer (some ⟨h.n, 0, none⟩)), (3, .pointer (some ⟨h.n + 1, 0, none⟩))]) (fun _ => []) (fun _ => h3) (fun i => i ≤ c.A.n) (fun i => c.A.n - i) 0 (Nat.zero_le _) ⟨rfl, rfl, rfl, trivial⟩ rfl rfl ?_
  rintro i hi
  rcases Nat.lt_or_ge i (c.A.n) with i0 | i0
  · have i1 : i < d.addrs.length := by omega
    have c0 := w32s_get i1
    have hbe : i < (w32s d.addrs).length := by rw [w32s_len]; exact i1
    generalize d.addrs[i] = x at *
    (refine Go.run (g:=?_))
    exact Go.again (i + 1) i0 (by omega) ⟨rfl, rfl, rfl, trivial⟩ rfl rfl
  have hie : i = c.A.n := by omega
  subst hie
  (refine Go.run (g:=?_))
  refine Go.loop (α := Nat) (fun i => [(6, .int .i64 i), (2, .pointer (some ⟨h.n, 0, none⟩)), (3, .pointer (some ⟨h.n + 1, 0, none⟩))]) (fun _ => []) (fun _ => h3) (fun i => i ≤ c.G.n) (fun i => c.G.n - i) 0 (Nat.zero_le _) ⟨rfl, rfl, rfl, trivial⟩ rfl rfl ?_
  rintro i hi
  rcases Nat.lt_or_ge i (c.G.n) with i0 | i0
  · have i1 : i < d.gaps.length := by omega
    have c0 := gcs_get i1
    have hbe : i * 2 + 2 ≤ (gcs d.gaps).length := by rw [gcs_len]; omega
    generalize d.gaps[i].1 = x at *
    generalize d.gaps[i].2 = y at *
    (refine Go.run (g:=?_))
    rw [show (!(((x : Int) == (x : Int)) && (((y : Int) == (y : Int)) && true))) = false from by simp]
    (refine Go.run (g:=?_))
    exact Go.again (i + 1) i0 (by omega) ⟨rfl, rfl, rfl, trivial⟩ rfl rfl
  have hie : i = c.G.n := by omega
  subst hie
  (refine Go.run (g:=?_))
  refine Go.loop (α := Nat) (fun i => [(7, .int .i64 i), (2, .pointer (some ⟨h.n, 0, none⟩)), (3, .pointer (some ⟨h.n + 1, 0, none⟩))]) (fun _ => []) (fun _ => h3) (fun i => i ≤ c.U.n) (fun i => c.U.n - i) 0 (Nat.zero_le _) ⟨rfl, rfl, rfl, trivial⟩ rfl rfl ?_
  rintro i hi
  rcases Nat.lt_or_ge i (c.U.n) with i0 | i0
  · have i1 : i < d.dups.length := by omega
    have c0 := w32s_get i1
    have hbe : i < (w32s d.dups).length := by rw [w32s_len]; exact i1
    generalize d.dups[i] = x at *
    (refine Go.run (g:=?_))
    exact Go.again (i + 1) i0 (by omega) ⟨rfl, rfl, rfl, trivial⟩ rfl rfl
  have hie : i = c.U.n := by omega
  subst hie
  (refine Go.run (g:=?_))
  refine Go.loop (α := Nat) (fun i => [(8, .int .i64 i), (2, .pointer (some ⟨h.n, 0, none⟩)), (3, .pointer (some ⟨h.n + 1, 0, none⟩))]) (fun _ => []) (fun _ => h3) (fun i => i ≤ c.C.n) (fun i => c.C.n - i) 0 (Nat.zero_le _) ⟨rfl, rfl, rfl, trivial⟩ rfl rfl ?_
  rintro i hi
  rcases Nat.lt_or_ge i (c.C.n) with i0 | i0
  · have i1 : i < d.causes.length := by omega
    have i2 : i < d'.causes.length := by omega
    have c0 := ccs_0 i1
    have c1 := ccs_1 i1
    have c0' := ccs_0 i2
    have c1' := ccs_1 i2
    have hbe : i * 2 < (ccs d.causes).length := by rw [ccs_len]; omega
    have hbe' : i * 2 < (ccs d'.causes).length := by rw [ccs_len]; omega
    have ee := congrArg (fun l : List (Nat × List UInt8) => l[i]?) e15
    simp only [List.getElem?_map, List.getElem?_eq_getElem i1, List.getElem?_eq_getElem i2, Option.map_some, Option.some.injEq, Prod.mk.injEq] at ee
    obtain ⟨ek, ez⟩ := ee
    obtain ⟨-, -, vz⟩ := o.cb _ (List.getElem_mem i1)
    obtain ⟨-, -, vz'⟩ := o'.cb _ (List.getElem_mem i2)
    rw [← ek] at c0'
    rw [← ez] at c1' vz'
    generalize d.causes[i].k = xk at *
    generalize d.causes[i].z = xz at *
    generalize d.causes[i].a = xa at *
    generalize d.causes[i].cap = xc at *
    generalize d'.causes[i].a = ya at *
    generalize d'.causes[i].cap = yc at *
    (refine Go.run (g:=?_))
    exact Go.again (i + 1) i0 (by omega) ⟨rfl, rfl, rfl, trivial⟩ rfl rfl
  have hie : i = c.C.n := by omega
  subst hie
  (refine Go.run (g:=?_))
  (first|refine Go.finT (by first|exact .inr rfl|exact .inl rfl) rfl ?_|refine Go.fin1 (by first|exact .inr rfl|exact .inl rfl) rfl (hq:=?_))
  rfl
end Go.Proofs.Ytjpegoigipbmiaa
namespace Go.Proofs.Ytjpegoigipbmiaa
open Go.RowKit
set_option maxRecDepth 100000
instance seqHead (a b c a' b' c' : Int) : SEq Try.prog 25 [.int .u16 a, .int .u16 b, .int .u32 c] [.int .u16 a', .int .u16 b', .int .u32 c'] (a == a' && (b == b' && (c == c' && true))) := ⟨by kernel_rfl⟩
end Go.Proofs.Ytjpegoigipbmiaa
namespace Go.Proofs.Ytjpegoigipbmiaa
set_option maxRecDepth 100000
attribute [local irreducible] Go GoR GoL
def SB (c : Ck) : Prop := c.A.n ≤ 1000000000 ∧ c.G.n ≤ 1000000000 ∧ c.U.n ≤ 1000000000 ∧ c.C.n ≤ 1000000000
theorem pcs_len (l : List CP) : (pcs l).length = l.length := by simp [pcs]
theorem pcs_get {l l' : List CP} (e : pcs l = pcs l') {i : Nat} (h : i < l.length) (h' : i < l'.length) : pcOf l[i].1 l[i].2 = pcOf l'[i].1 l'[i].2 := by
  have e1 : (pcs l)[i]? = some (pcOf l[i].1 l[i].2) := by simp [pcs, h]
  have e2 : (pcs l')[i]? = some (pcOf l'[i].1 l'[i].2) := by simp [pcs, h']
  rw [e, e2] at e1
  exact (Option.some.inj e1).symm
set_option maxHeartbeats 8000000 in
theorem same6_spec (f t g : Nat) (a a' : Option Addr) (n cap n' cap' : Nat) (l l' : List CP) (h : AHeap) (k : KS h a n cap l) (k' : KS h a' n' cap' l') (e : pcs l = pcs l') (hn : n ≤ 1000000000) (hb : ∀ x ∈ l, SB x.1) : CallS Try.prog [] 16 [pkV f t g a n cap, pkV f t g a' n' cap'] h fun v h' => v = .bool true := by
  have en : n' = n := by rw [← k.len, ← k'.len, ← pcs_len, ← pcs_len, e]
  subst en
  (refine CallS.of2 Try.func16 rfl Try.ntmps16 Try.results16 rfl ?_)
  (iterate 5 (first|(refine Go.kk 0 rfl ?_;refine Go.seq ?_)|(refine Go.kk 1 rfl ?_;refine Go.region (by kernel_rfl) rfl ?_)|(refine GoR.kk 0 rfl ?_;first|refine GoR.move rfl rfl rfl rfl rfl ?_|refine GoR.assign rfl rfl rfl rfl rfl ?_)|(refine GoR.kk 8 rfl ?_;first|refine GoR.boxA rfl rfl rfl rfl rfl ?_|refine GoR.boxS rfl rfl rfl rfl rfl rfl ?_|refine GoR.alloc rfl rfl rfl rfl ?_)|refine GoR.end ?_))
  refine GoR.name ?_
  intro h3 e3
  have G0 : h3.get h.n = some (.cells [.int .u16 f, .int .u16 t, .int .u32 g, .slice a n' cap] 28) := by subst e3; exact get_push_lt (AHeap.get_push_same _ _)
  have G1 : h3.get (h.n + 1) = some (.cells [.int .u16 f, .int .u16 t, .int .u32 g, .slice a' n' cap'] 28) := by subst e3; exact AHeap.get_push_same (h.push _) _
  have n3 : h3.n = h.n + 2 := by subst e3; rfl
  have S3 : Same h h3 := by subst e3; exact ((Same.refl h).push _).push _
  clear e3
  (refine Go.run (g:=?_))
  refine Go.loop (α := Nat × AHeap) (fun x => [(5, .int .i64 x.1), (3, .pointer (some ⟨h.n + 1, 0, none⟩)), (2, .pointer (some ⟨h.n, 0, none⟩))]) (fun _ => []) (fun x => x.2) (fun x => Same h3 x.2 ∧ x.1 ≤ n') (fun x => n' - x.1) (0, h3) ⟨Same.refl _, Nat.zero_le _⟩ ⟨rfl, rfl, rfl, trivial⟩ rfl rfl ?_
  rintro ⟨i, h4⟩ ⟨s4, hi⟩
  simp only at s4 hi ⊢
  have k4 := (k.same S3).same s4
  have k4' := (k'.same S3).same s4
  have g04 := s4.get G0
  have g14 := s4.get G1
  rcases Nat.lt_or_ge i n' with i0 | i0
  · have i1 : i < l.length := by rw [k.len]; exact i0
    have i1' : i < l'.length := by rw [k'.len]; exact i0
    have c0 := kcs_get i1
    have c0' := kcs_get i1'
    have hbe : i * 15 + 15 ≤ (kcs l).length := by rw [kcs_len]; omega
    have hbe' : i * 15 + 15 ≤ (kcs l').length := by rw [kcs_len]; omega
    have hA4 := k4.rv
    have hA4' := k4'.rv
    have hp := pcs_get e i1 i1'
    have hm : l[i] ∈ l := List.getElem_mem i1
    have hm' : l'[i] ∈ l' := List.getElem_mem i1'
    generalize l[i] = x at *
    generalize l'[i] = x' at *
    obtain ⟨c, d⟩ := x
    obtain ⟨c', d'⟩ := x'
    obtain ⟨b1, b2, b3, b4⟩ := hb _ hm
    simp only at c0 c0' hp b1 b2 b3 b4
    unfold Ck.cs at c0 c0'
    (refine Go.run (g:=?_))
    refine GoR.call rfl rfl rfl rfl rfl rfl rfl (((same5_spec c c' d d' _ (k4.ok _ hm) (k4'.ok _ hm') hp b1 b2 b3 b4).argA).mono ?_)
    rintro _ h5 rfl s5
    (refine Go.run (g:=?_))
    exact Go.again (i + 1, h5) ⟨s4.trans s5, by simp only; omega⟩ (by simp only; omega) ⟨rfl, rfl, rfl, trivial⟩ rfl rfl
  · (refine Go.run (g:=?_))
    (first|refine Go.finT (by first|exact .inr rfl|exact .inl rfl) rfl ?_|refine Go.fin1 (by first|exact .inr rfl|exact .inl rfl) rfl (hq:=?_))
    rfl
end Go.Proofs.Ytjpegoigipbmiaa
namespace Go.Proofs.Ytjpegoigipbmiaa
set_option maxRecDepth 100000
def Puts (chunk : Bool) (x : Thing) : Prop := x.1 < 65536 ∧ x.2.1 < 256 ∧ (chunk = true → x.1 ≤ 255) ∧ (chunk = false → x.2.1 = 0) ∧ x.2.2.length ≤ 65531
def tb (chunk : Bool) (x : Thing) : List UInt8 := tlvB chunk x.1 x.2.1 x.2.2
theorem tb_len (chunk : Bool) (x : Thing) : (tb chunk x).length = up4 (x.2.2.length + 4) := tlvB_length _ _ _ _
def hd4 (chunk : Bool) (x : Thing) : List UInt8 := (if chunk then [UInt8.ofNat x.1, UInt8.ofNat x.2.1] else [UInt8.ofNat (x.1 / 256), UInt8.ofNat x.1]) ++ [UInt8.ofNat ((4 + x.2.2.length) / 256), UInt8.ofNat (4 + x.2.2.length)]
theorem hd4_len (chunk : Bool) (x : Thing) : (hd4 chunk x).length = 4 := by cases chunk <;> rfl
theorem tb_eq (chunk : Bool) (x : Thing) : tb chunk x = hd4 chunk x ++ (x.2.2 ++ List.replicate (up4 (x.2.2.length + 4) - 4 - x.2.2.length) 0) := by
  simp only [tb, tlvB, hd4, up4, List.append_assoc]
theorem tb_N {chunk : Bool} {x : Thing} (h : Puts chunk x) (r : List UInt8) : tN (tb chunk x ++ r) = x.2.2.length + 4 := by
  have e : ((tb chunk x ++ r).drop 2).take 2 = [UInt8.ofNat ((4 + x.2.2.length) / 256), UInt8.ofNat (4 + x.2.2.length)] := by
    rw [tb_eq]; cases chunk <;> simp [hd4]
  have hl := h.2.2.2.2
  rw [tN, e, beNum_two]
  simp only [UInt8.toNat_ofNat']
  omega
theorem tb_whole {chunk : Bool} {x : Thing} (h : Puts chunk x) (r : List UInt8) : Whole (tb chunk x ++ r) := by
  have hu := up4_le (x.2.2.length + 4)
  refine ⟨by rw [List.length_append, tb_len]; omega, by rw [tb_N h]; omega, by rw [tb_N h, List.length_append, tb_len]; omega, ?_⟩
  rw [tb_N h]
  have e : ((tb chunk x ++ r).drop (x.2.2.length + 4)).take (up4 (x.2.2.length + 4) - (x.2.2.length + 4)) = List.replicate (up4 (x.2.2.length + 4) - 4 - x.2.2.length) 0 := by
    rw [tb_eq, ← List.append_assoc, List.append_assoc, ← List.append_assoc, List.append_assoc, List.drop_left' (by rw [List.length_append, hd4_len]; omega), List.take_left' (by rw [List.length_replicate]; omega)]
  rw [e]
  simp
theorem tb_thing {chunk : Bool} {x : Thing} (h : Puts chunk x) (r : List UInt8) : thing chunk (tb chunk x ++ r) = x := by
  obtain ⟨k, f, z⟩ := x
  obtain ⟨h1, h2, h3, h4, h5⟩ := h
  simp only at h1 h2 h3 h4 h5
  have hN := tb_N (chunk := chunk) (x := (k, f, z)) ⟨h1, h2, h3, h4, h5⟩ r
  have hv : ((tb chunk (k, f, z) ++ r).drop 4).take (tN (tb chunk (k, f, z) ++ r) - 4) = z := by
    rw [hN, tb_eq, List.append_assoc, List.drop_left' (hd4_len _ _), List.append_assoc]
    exact List.take_left' (by simp)
  cases chunk with
  | false =>
    have e : (tb false (k, f, z) ++ r).take 2 = [UInt8.ofNat (k / 256), UInt8.ofNat k] := by rw [tb_eq]; simp [hd4]
    have := h4 rfl
    subst this
    simp only [thing, hv, e, beNum_two, UInt8.toNat_ofNat', Bool.false_eq_true, if_false]
    congr 1
    omega
  | true =>
    have e : (tb true (k, f, z) ++ r).take 1 = [UInt8.ofNat k] := by rw [tb_eq]; simp [hd4]
    have e2 : ((tb true (k, f, z) ++ r).drop 1).take 1 = [UInt8.ofNat f] := by rw [tb_eq]; simp [hd4]
    have := h3 rfl
    simp only [thing, hv, e, e2, beNum_one, UInt8.toNat_ofNat', if_true]
    congr 1
    · omega
    · congr 1
      omega
theorem parse_tb {chunk : Bool} {x : Thing} (h : Puts chunk x) (r : List UInt8) : parse chunk (tb chunk x ++ r) = (x :: (parse chunk r).1, (parse chunk r).2) := by
  have e : (tb chunk x ++ r).drop (up4 (tN (tb chunk x ++ r))) = r := by
    rw [tb_N h]; exact List.drop_left' (tb_len _ _)
  rw [parse_some (tb_whole h r), tb_thing h r, e]
def tbs (chunk : Bool) (xs : List Thing) : List UInt8 := (xs.map (tb chunk)).flatten
theorem parse_tbs {chunk : Bool} (xs : List Thing) (h : ∀ x ∈ xs, Puts chunk x) (r : List UInt8) : parse chunk (tbs chunk xs ++ r) = (xs ++ (parse chunk r).1, (parse chunk r).2) := by
  induction xs with
  | nil => simp [tbs]
  | cons x xs ih =>
    have ih' := ih fun y hy => h y (by simp [hy])
    have e : tbs chunk (x :: xs) ++ r = tb chunk x ++ (tbs chunk xs ++ r) := by simp [tbs]
    rw [e, parse_tb (h x (by simp)), ih']
    rfl
theorem thing_puts {chunk : Bool} {z : List UInt8} (h : Whole z) : Puts chunk (thing chunk z) := by
  have hN : tN z < 65536 := beNum_lt_of (k := 2) (by simp; omega) rfl
  have hb := thing_bounds (chunk := chunk) (z := z)
  refine ⟨hb.1, hb.2, fun e => ?_, fun e => ?_, by rw [thing_len h]; omega⟩
  · subst e
    have : beNum (z.take 1) < 256 := beNum_lt_of (k := 1) (by simp; omega) rfl
    simp [thing]; omega
  · subst e; rfl
theorem tb_thing_eq {chunk : Bool} {z : List UInt8} (h : Whole z) : tb chunk (thing chunk z) = z.take (up4 (tN z)) := by
  have hl := thing_len (chunk := chunk) h
  have hu := up4_le (tN z)
  obtain ⟨h1, h2, h3, h4⟩ := h
  have e4 : (thing chunk z).2.2.length + 4 = tN z := by rw [hl]; omega
  have hd : hd4 chunk (thing chunk z) = z.take 4 := by
    have t2 : (z.drop 2).take 2 = beB 2 (tN z) := (beB_beNum_n (by simp; omega)).symm
    have e : z.take 4 = z.take 2 ++ (z.drop 2).take 2 := by rw [← List.take_add]
    rw [e, t2, beB2]
    unfold hd4
    rw [Nat.add_comm 4, e4]
    congr 1
    cases chunk with
    | false =>
      simp only [thing, Bool.false_eq_true, if_false]
      rw [← beB2, beB_beNum_n (by simp; omega)]
    | true =>
      have a0 := take_two (z := z) (i := 0) (by omega)
      have a1 := take_one (z := z) (i := 0) (by omega)
      have a2 := take_one (z := z) (i := 1) (by omega)
      rw [List.drop_zero] at a0 a1
      simp only [thing, if_true, a0, a1, a2, beNum_one]
      simp
  have hv : (thing chunk z).2.2 = (z.drop 4).take (tN z - 4) := rfl
  have hp : List.replicate (up4 ((thing chunk z).2.2.length + 4) - 4 - (thing chunk z).2.2.length) (0 : UInt8) = (z.drop (tN z)).take (up4 (tN z) - tN z) := by
    rw [e4, hl]
    symm
    apply List.eq_replicate_iff.2
    refine ⟨by simp; omega, fun b hb => ?_⟩
    have := List.all_eq_true.1 h4 b hb
    simpa using this
  rw [tb_eq, hd, hp, hv]
  have s1 : z.take (up4 (tN z)) = z.take 4 ++ (z.drop 4).take (up4 (tN z) - 4) := by
    rw [← List.take_add]; congr 1; omega
  have s2 : (z.drop 4).take (up4 (tN z) - 4) = (z.drop 4).take (tN z - 4) ++ ((z.drop 4).drop (tN z - 4)).take (up4 (tN z) - tN z) := by
    rw [← List.take_add]; congr 1; omega
  rw [s1, s2, List.drop_drop]
  congr 4
  omega
theorem tbs_parse {chunk : Bool} : ∀ (z : List UInt8), (parse chunk z).2 = true → tbs chunk (parse chunk z).1 = z ∧ ∀ x ∈ (parse chunk z).1, Puts chunk x := by
  intro z
  induction hn : z.length using Nat.strongRecOn generalizing z with
  | _ n ih =>
    intro hw
    by_cases h0 : z = []
    · subst h0; rw [parse_nil]; exact ⟨rfl, fun x hx => by cases hx⟩
    · by_cases h : Whole z
      · rw [parse_some h] at hw ⊢
        have hu := up4_le (tN z)
        have h2 := h.2.1
        have h1 := h.1
        obtain ⟨i1, i2⟩ := ih (z.drop (up4 (tN z))).length (by simp; omega) (z.drop (up4 (tN z))) rfl hw
        refine ⟨?_, fun x hx => ?_⟩
        · show tb chunk (thing chunk z) ++ tbs chunk _ = z
          rw [i1, tb_thing_eq h]
          exact List.take_append_drop _ _
        · rcases List.mem_cons.1 hx with rfl | hx
          · exact thing_puts h
          · exact i2 x hx
      · rw [parse_none h0 h] at hw; cases hw
end Go.Proofs.Ytjpegoigipbmiaa
namespace Go.Proofs.Ytjpegoigipbmiaa
theorem nAt_skip {a b : List UInt8} {m at_ n : Nat} (h : a.length = m) : nAt (a ++ b) (m + at_) n = nAt b at_ n := by
  unfold nAt
  rw [← h, ← List.drop_drop, List.drop_left]
theorem nAt_here {n x : Nat} {b : List UInt8} (h : x < 256 ^ n) : nAt (beB n x ++ b) 0 n = x := by
  unfold nAt
  rw [List.drop_zero, List.take_left' (beB_length n x), beNum_beB n x h]
theorem nAt_go {m k at_ n x : Nat} {b : List UInt8} (e : at_ = m + k) : nAt (beB m x ++ b) at_ n = nAt b k n := by
  subst e; exact nAt_skip (beB_length m x)
theorem drop_go {m k n x : Nat} {b : List UInt8} (e : n = m + k) : (beB m x ++ b).drop n = b.drop k := by
  subst e; rw [← List.drop_drop, List.drop_left' (beB_length m x)]
theorem drop_split {z : List UInt8} {i n : Nat} (h : i + n ≤ z.length) : z.drop i = beB n (nAt z i n) ++ z.drop (i + n) := by
  unfold nAt
  rw [beB_beNum_n (by simp; omega), ← List.drop_drop, List.take_append_drop]
theorem may_clean {c : Ck} {gs : List (Nat × Nat)} (h : may c gs = true) : MayF c := by
  unfold may at h
  rw [Bool.and_eq_true] at h
  exact of_decide_eq_true h.1
theorem gapsAt_by (gs : List (Nat × Nat)) (hb : ∀ x ∈ gs, x.1 < 65536 ∧ x.2 < 65536) (r : List UInt8) : gapsAt (gapsBy gs ++ r) gs.length = gs := by
  induction gs with
  | nil => rfl
  | cons g gs ih =>
    have e : gapsBy (g :: gs) ++ r = beB 2 g.1 ++ (beB 2 g.2 ++ (gapsBy gs ++ r)) := by simp [gapsBy]
    have hg := hb g (by simp)
    have ih' := ih fun x hx => hb x (by simp [hx])
    unfold gapsAt at ih' ⊢
    rw [e, List.length_cons, List.range_succ_eq_map, List.map_cons, List.map_map]
    congr 1
    · rw [nAt_here (by omega), nAt_go (k := 0) (by omega), nAt_here (by omega)]
theorem dupsAt_by (l : List Nat) (hb : ∀ x ∈ l, x < 4294967296) (r : List UInt8) : dupsAt (be4s l ++ r) l.length = l := by
  induction l with
  | nil => rfl
  | cons g l ih =>
    have e : be4s (g :: l) ++ r = beB 4 g ++ (be4s l ++ r) := by simp [be4s]
    have hg := hb g (by simp)
    have ih' := ih fun x hx => hb x (by simp [hx])
    unfold dupsAt at ih' ⊢
    rw [e, List.length_cons, List.range_succ_eq_map, List.map_cons, List.map_map]
    congr 1
    · rw [nAt_here (by omega)]
theorem pgo_addrs (kind : Nat) (well : Bool) (l : List Nat) (hb : ∀ x ∈ l, x < 4294967296) (rest : List Thing) (A : List Nat) (D : List UInt8) (n : Nat) (h : A.length + l.length ≤ 3) : pgo kind well (l.map (fun a => ((5, 0, beB 4 a) : Thing)) ++ rest) A D n = pgo kind well rest (A ++ l) D n := by
  induction l generalizing A with
  | nil => simp
  | cons a l ih =>
    have ha := hb a (by simp)
    simp only [List.length_cons] at h
    simp only [List.map_cons, List.cons_append, pgo, if_true]
    rw [if_pos ⟨beB_length 4 a, by omega⟩, beNum_beB 4 a (by omega), ih (fun x hx => hb x (by simp [hx])) (A ++ [a]) (by simp; omega)]
    simp
theorem addrs_tbs (l : List Nat) : addrsB l = tbs false (l.map fun a => ((5, 0, beB 4 a) : Thing)) := by
  unfold addrsB tbs
  rw [List.map_map]; rfl
theorem addrs_puts (l : List Nat) : ∀ x ∈ l.map (fun a => ((5, 0, beB 4 a) : Thing)), Puts false x := by
  intro x hx
  obtain ⟨a, -, rfl⟩ := List.mem_map.1 hx
  exact ⟨(by simp), (by simp), (by simp), fun _ => rfl, by simp [beB_length]⟩
theorem causes_tbs (l : List CV) (h : allShort l = true) : causesB l = tbs false (l.map fun x => ((x.k, 0, x.z) : Thing)) := by
  unfold causesB tbs
  rw [List.map_map]
  congr 1
  refine List.map_congr_left fun x hx => ?_
  have := of_decide_eq_true (List.all_eq_true.1 h x hx)
  simp only [pB, if_pos this, Function.comp, tb]
theorem causes_puts (l : List CV) (h : allShort l = true) (hk : ∀ x ∈ l, x.k < 65536) : ∀ x ∈ l.map (fun x => ((x.k, 0, x.z) : Thing)), Puts false x := by
  intro x hx
  obtain ⟨a, ha, rfl⟩ := List.mem_map.1 hx
  exact ⟨hk a ha, (by simp), (by simp), fun _ => rfl, of_decide_eq_true (List.all_eq_true.1 h a ha)⟩
theorem head16 (a b c d e : Nat) (r : List UInt8) (h1 : a < 4294967296) (h2 : b < 4294967296) (h3 : c < 65536) (h4 : d < 65536) (h5 : e < 4294967296) : nAt (beB 4 a ++ (beB 4 b ++ (beB 2 c ++ (beB 2 d ++ (beB 4 e ++ r))))) 0 4 = a ∧ nAt (beB 4 a ++ (beB 4 b ++ (beB 2 c ++ (beB 2 d ++ (beB 4 e ++ r))))) 4 4 = b ∧ nAt (beB 4 a ++ (beB 4 b ++ (beB 2 c ++ (beB 2 d ++ (beB 4 e ++ r))))) 8 2 = c ∧ nAt (beB 4 a ++ (beB 4 b ++ (beB 2 c ++ (beB 2 d ++ (beB 4 e ++ r))))) 10 2 = d ∧ nAt (beB 4 a ++ (beB 4 b ++ (beB 2 c ++ (beB 2 d ++ (beB 4 e ++ r))))) 12 4 = e ∧ (beB 4 a ++ (beB 4 b ++ (beB 2 c ++ (beB 2 d ++ (beB 4 e ++ r))))).drop 16 = r ∧ 16 ≤ (beB 4 a ++ (beB 4 b ++ (beB 2 c ++ (beB 2 d ++ (beB 4 e ++ r))))).length := by
  refine ⟨nAt_here (by omega), ?_, ?_, ?_, ?_, ?_, by simp only [List.length_append, beB_length]; omega⟩
  · rw [nAt_go (k := 0) (by omega), nAt_here (by omega)]
  · rw [nAt_go (k := 4) (by omega), nAt_go (k := 0) (by omega), nAt_here (by omega)]
  · rw [nAt_go (k := 6) (by omega), nAt_go (k := 2) (by omega), nAt_go (k := 0) (by omega), nAt_here (by omega)]
  · rw [nAt_go (k := 8) (by omega), nAt_go (k := 4) (by omega), nAt_go (k := 2) (by omega), nAt_go (k := 0) (by omega), nAt_here (by omega)]
  · rw [drop_go (k := 12) (by omega), drop_go (k := 8) (by omega), drop_go (k := 6) (by omega), drop_go (k := 4) (by omega), drop_go (k := 0) (by omega), List.drop_zero]
theorem head12 (a b c d : Nat) (r : List UInt8) (h1 : a < 4294967296) (h2 : b < 65536) (h3 : c < 65536) (h4 : d < 4294967296) : nAt (beB 4 a ++ (beB 2 b ++ (beB 2 c ++ (beB 4 d ++ r)))) 0 4 = a ∧ nAt (beB 4 a ++ (beB 2 b ++ (beB 2 c ++ (beB 4 d ++ r)))) 4 2 = b ∧ nAt (beB 4 a ++ (beB 2 b ++ (beB 2 c ++ (beB 4 d ++ r)))) 6 2 = c ∧ nAt (beB 4 a ++ (beB 2 b ++ (beB 2 c ++ (beB 4 d ++ r)))) 8 4 = d ∧ (beB 4 a ++ (beB 2 b ++ (beB 2 c ++ (beB 4 d ++ r)))).drop 12 = r ∧ 12 ≤ (beB 4 a ++ (beB 2 b ++ (beB 2 c ++ (beB 4 d ++ r)))).length := by
  refine ⟨nAt_here (by omega), ?_, ?_, ?_, ?_, by simp only [List.length_append, beB_length]; omega⟩
  · rw [nAt_go (k := 0) (by omega), nAt_here (by omega)]
  · rw [nAt_go (k := 2) (by omega), nAt_go (k := 0) (by omega), nAt_here (by omega)]
  · rw [nAt_go (k := 4) (by omega), nAt_go (k := 2) (by omega), nAt_go (k := 0) (by omega), nAt_here (by omega)]
  · rw [drop_go (k := 8) (by omega), drop_go (k := 6) (by omega), drop_go (k := 4) (by omega), drop_go (k := 0) (by omega), List.drop_zero]
theorem raw_put {H : AHeap} {c : Ck} {d : CD} {x : List UInt8} (ok : COk H c d) (hm : may c d.gaps = true) (hx : cval c d = some x) : rawP c.k c.f x = some (pcOf c d) := by
  obtain ⟨hs, m1, m2, m3, m4⟩ := may_clean hm
  have l1 := ok.dl
  have l2 := ok.al
  have l3 := ok.gl
  have l4 := ok.ul
  have l5 := ok.cl
  have t1 := ok.tag
  have t2 := ok.rwnd
  have t3 := ok.tsn
  have t4 := ok.out
  have t5 := ok.inn
  have t6 := ok.sid
  have t7 := ok.ssn
  have t8 := ok.ppid
  have b1 := ok.ab
  have b2 := ok.gb
  have b3 := ok.ub
  have b4 : ∀ x ∈ d.causes, x.k < 65536 := fun x hx => (ok.cb x hx).1
  clear ok hm
  obtain ⟨k, f, tag, rwnd, tsn, out, inn, sid, ssn, ppid, ⟨_, Dn, _⟩, ⟨_, An, _⟩, ⟨_, Gn, _⟩, ⟨_, Un, _⟩, ⟨_, Cn, _⟩⟩ := c
  obtain ⟨data, addrs, gaps, dups, causes⟩ := d
  simp only at *
  subst l1 l2 l3 l4 l5
  unfold cl at hs
  simp only at hs
  unfold cval initB at hx
  simp only at hx
  split at hs <;> simp only [SameB, Ck.none, Sl.nil, true_and, and_true, List.length_eq_zero_iff] at hs
  · obtain ⟨-, rfl, rfl, rfl, rfl, rfl, rfl, rfl, rfl⟩ := hs
    cases hx
    simp only [rawP, List.append_assoc]
    obtain ⟨a1, a2, a3, a4, a5, a6⟩ := head12 tsn sid ssn ppid data t3 t6 t7 t8
    rw [if_pos a6, a1, a2, a3, a4, a5]
    rfl
  · obtain ⟨rfl, rfl, rfl, rfl, rfl, rfl, rfl, rfl⟩ := hs
    cases hx
    have hp := parse_tbs (addrs.map fun a => ((5, 0, beB 4 a) : Thing)) (addrs_puts addrs) []
    rw [List.append_nil, ← addrs_tbs, parse_nil] at hp
    have hg := pgo_addrs 1 true addrs b1 [] [] [] 0 (by simpa using m1)
    simp only [rawP, List.append_assoc]
    obtain ⟨a1, a2, a3, a4, a5, a6, a7⟩ := head16 tag rwnd out inn tsn (addrsB addrs) t1 t2 t4 t5 t3
    rw [if_pos a7, a1, a2, a3, a4, a5, a6, hp]
    simp only [hg, pgo, if_true, List.nil_append, Option.map_some]
    rfl
  · obtain ⟨rfl, rfl, rfl, rfl, rfl, rfl, rfl⟩ := hs
    simp only at hx
    split at hx
    case isFalse => cases hx
    rename_i hd
    cases hx
    have hp := parse_tbs (addrs.map (fun a => ((5, 0, beB 4 a) : Thing)) ++ [(7, 0, data)]) (fun x hx => by
      rcases List.mem_append.1 hx with hx | hx
      · exact addrs_puts addrs x hx
      · simp only [List.mem_singleton] at hx; subst hx; exact ⟨(by simp), (by simp), (by simp), fun _ => rfl, hd⟩) []
    have e : tbs false (addrs.map (fun a => ((5, 0, beB 4 a) : Thing)) ++ [(7, 0, data)]) = addrsB addrs ++ pB 7 data := by
      rw [addrs_tbs]; simp [tbs, tb, pB, hd]
    rw [List.append_nil, e, parse_nil] at hp
    have hne : data.length ≠ 0 := by omega
    have hg := pgo_addrs 2 true addrs b1 [(7, 0, data)] [] [] 0 (by simpa using m1)
    simp only [rawP, List.append_assoc]
    obtain ⟨a1, a2, a3, a4, a5, a6, a7⟩ := head16 tag rwnd out inn tsn (addrsB addrs ++ pB 7 data) t1 t2 t4 t5 t3
    rw [if_pos a7, a1, a2, a3, a4, a5, a6, hp]
    simp [hg, pgo, hne, pcOf, PC.z]
  · obtain ⟨rfl, rfl, rfl, rfl, rfl, rfl, rfl, rfl, rfl, rfl⟩ := hs
    cases hx
    simp only [rawP, List.append_assoc]
    have e1 : nAt (beB 4 tsn ++ (beB 4 rwnd ++ (beB 2 gaps.length ++ (beB 2 dups.length ++ (gapsBy gaps ++ be4s dups))))) 8 2 = gaps.length := by
      rw [nAt_go (k := 4) (by omega), nAt_go (k := 0) (by omega), nAt_here (by omega)]
    have e2 : nAt (beB 4 tsn ++ (beB 4 rwnd ++ (beB 2 gaps.length ++ (beB 2 dups.length ++ (gapsBy gaps ++ be4s dups))))) 10 2 = dups.length := by
      rw [nAt_go (k := 6) (by omega), nAt_go (k := 2) (by omega), nAt_go (k := 0) (by omega), nAt_here (by omega)]
    rw [e1, e2, if_pos (by simp only [List.length_append, beB_length, gapsBy_len, be4s_len]; omega), nAt_here (by omega), nAt_go (k := 0) (by omega), nAt_here (by omega)]
    rw [drop_go (k := 8) (by omega), drop_go (k := 4) (by omega), drop_go (k := 2) (by omega), drop_go (k := 0) (by omega), List.drop_zero, gapsAt_by gaps b2]
    rw [drop_go (k := 8 + 4 * gaps.length) (by omega), drop_go (k := 4 + 4 * gaps.length) (by omega), drop_go (k := 2 + 4 * gaps.length) (by omega), drop_go (k := 4 * gaps.length) (by omega), List.drop_left' (by rw [gapsBy_len]; omega)]
    have := dupsAt_by dups b3 []
    rw [List.append_nil] at this
    rw [this]
    rfl
  · obtain ⟨rfl, rfl, rfl, rfl, rfl, rfl, rfl, rfl, rfl, rfl, rfl, rfl, rfl⟩ := hs
    cases hx; rfl
  · obtain ⟨rfl, rfl, rfl, rfl, rfl, rfl, rfl, rfl, rfl, rfl, rfl, rfl, rfl⟩ := hs
    cases hx; rfl
  · obtain ⟨rfl, rfl, rfl, rfl, rfl, rfl, rfl, rfl, rfl, rfl, rfl, rfl, rfl⟩ := hs
    cases hx; rfl
  · obtain ⟨-, rfl, rfl, rfl, rfl, rfl, rfl, rfl, rfl, rfl, rfl, rfl, rfl⟩ := hs
    simp only at hx
    split at hx
    case isFalse => cases hx
    rename_i hd
    cases hx
    have hp := parse_tbs (causes.map fun x => ((x.k, 0, x.z) : Thing)) (causes_puts causes hd b4) []
    rw [List.append_nil, ← causes_tbs causes hd, parse_nil, List.append_nil] at hp
    simp only [rawP, hp, if_true, List.map_map]
    rfl
  · obtain ⟨rfl, rfl, rfl, rfl, rfl, rfl, rfl, rfl, rfl, rfl, rfl, rfl, rfl⟩ := hs
    simp only at hx
    split at hx
    case isFalse => cases hx
    rename_i hd
    cases hx
    have hp := parse_tbs (causes.map fun x => ((x.k, 0, x.z) : Thing)) (causes_puts causes hd b4) []
    rw [List.append_nil, ← causes_tbs causes hd, parse_nil, List.append_nil] at hp
    simp only [rawP, hp, if_true, List.map_map]
    rfl
  · obtain ⟨rfl, rfl, rfl, rfl, rfl, rfl, rfl, rfl, rfl, rfl, rfl, rfl, rfl⟩ := hs
    cases hx
    have := nAt_here (n := 4) (x := tsn) (b := []) (by omega)
    rw [List.append_nil] at this
    simp only [rawP, beB_length, if_true, this]
    rfl
  · obtain ⟨-, rfl, rfl, rfl, rfl, rfl, rfl, rfl, rfl, rfl, rfl, rfl, rfl, rfl⟩ := hs
    cases hx; rfl
  · obtain ⟨rfl, rfl, rfl, rfl, rfl, rfl, rfl, rfl, rfl, rfl, rfl, rfl, rfl, rfl⟩ := hs
    cases hx; rfl
  · obtain ⟨rfl, rfl, rfl, rfl, rfl, rfl, rfl, rfl, rfl, rfl, rfl, rfl, rfl, rfl⟩ := hs
    cases hx; rfl
  · rename_i g0 g1 g2 g3 g4 g5 g10 g6 g9 g7 g14 g8 g11
    obtain ⟨rfl, rfl, rfl, rfl, rfl, rfl, rfl, rfl, rfl, rfl, rfl, rfl⟩ := hs
    have e1 : some data = some x := by
      rw [← hx]; split <;> first | rfl | omega | contradiction
    cases e1
    unfold rawP
    split <;> first | rfl | omega | contradiction
theorem tk_put {H : AHeap} {c : Ck} {d : CD} {x : List UInt8} (ok : COk H c d) (hm : may c d.gaps = true) (hx : cval c d = some x) : tkP c.k c.f x = some (pcOf c d) := by
  have hk := ok.k
  unfold tkP
  rw [if_neg (by omega), raw_put ok hm hx, Option.filter_some, mayP_of ok, hm, if_pos rfl]
theorem gapsBy_at (z : List UInt8) (n : Nat) (h : 4 * n ≤ z.length) : gapsBy (gapsAt z n) = z.take (4 * n) := by
  induction n with
  | zero => rfl
  | succ n ih =>
    have e : gapsAt z (n + 1) = gapsAt z n ++ [(nAt z (4 * n) 2, nAt z (4 * n + 2) 2)] := by simp [gapsAt, List.range_succ]
    have e2 : gapsBy (gapsAt z n ++ [(nAt z (4 * n) 2, nAt z (4 * n + 2) 2)]) = gapsBy (gapsAt z n) ++ (beB 2 (nAt z (4 * n) 2) ++ beB 2 (nAt z (4 * n + 2) 2)) := by simp [gapsBy]
    rw [e, e2, ih (by omega), show 4 * (n + 1) = 4 * n + (2 + 2) from by omega, List.take_add, List.take_add]
    unfold nAt
    rw [beB_beNum_n (by simp; omega), beB_beNum_n (by simp; omega), List.drop_drop]
theorem be4s_at (z : List UInt8) (n : Nat) (h : 4 * n ≤ z.length) : be4s (dupsAt z n) = z.take (4 * n) := by
  induction n with
  | zero => rfl
  | succ n ih =>
    have e : dupsAt z (n + 1) = dupsAt z n ++ [nAt z (4 * n) 4] := by simp [dupsAt, List.range_succ]
    have e2 : be4s (dupsAt z n ++ [nAt z (4 * n) 4]) = be4s (dupsAt z n) ++ beB 4 (nAt z (4 * n) 4) := by simp [be4s]
    rw [e, e2, ih (by omega), show 4 * (n + 1) = 4 * n + 4 from by omega, List.take_add]
    unfold nAt
    rw [beB_beNum_n (by simp; omega)]
theorem causes_eq (l : List CV) (xs : List Thing) (e : l.map (fun x => (x.k, x.z)) = xs.map (fun x => (x.1, x.2.2))) (h : ∀ x ∈ xs, Puts false x) : allShort l = true ∧ causesB l = tbs false xs := by
  induction l generalizing xs with
  | nil => cases xs with
    | nil => exact ⟨rfl, rfl⟩
    | cons y ys => cases e
  | cons x l ih => cases xs with
    | nil => cases e
    | cons y ys =>
      simp only [List.map_cons, List.cons.injEq, Prod.mk.injEq] at e
      obtain ⟨⟨e1, e2⟩, e3⟩ := e
      obtain ⟨i1, i2⟩ := ih ys e3 fun z hz => h z (by simp [hz])
      obtain ⟨p1, p2, p3, p4, p5⟩ := h y (by simp)
      have hx : x.z.length ≤ 65531 := by rw [e2]; exact p5
      refine ⟨by simp only [allShort, List.all_cons, Bool.and_eq_true] at i1 ⊢; exact ⟨decide_eq_true hx, i1⟩, ?_⟩
      have : causesB (x :: l) = pB x.k x.z ++ causesB l := by simp [causesB]
      rw [this, i2, pB, if_pos hx, e1, e2]
      have p4 := p4 rfl
      simp [tbs, tb, p4]
theorem put_tk {H : AHeap} {c : Ck} {d : CD} {k f : Nat} {z : List UInt8} (ok : COk H c d) (h : tkP k f z = some (pcOf c d)) : c.k = k ∧ c.f = f ∧ k ≤ 255 ∧ may c d.gaps = true ∧ (k ≠ 1 → k ≠ 2 → cval c d = some z) := by
  unfold tkP at h
  split at h
  · cases h
  rename_i hk
  obtain ⟨h1, h2⟩ := Option.filter_eq_some_iff.1 h
  rw [mayP_of ok] at h2
  have l3 := ok.gl
  have l4 := ok.ul
  clear ok h
  obtain ⟨k', f', tag, rwnd, tsn, out, inn, sid, ssn, ppid, ⟨_, Dn, _⟩, ⟨_, An, _⟩, ⟨_, Gn, _⟩, ⟨_, Un, _⟩, ⟨_, Cn, _⟩⟩ := c
  obtain ⟨data, addrs, gaps, dups, causes⟩ := d
  simp only at *
  subst l3 l4
  unfold rawP pcOf PC.z at h1
  simp only at h1
  split at h1
  · split at h1
    case isFalse => cases h1
    rename_i g
    simp only [Option.some.injEq, PC.mk.injEq] at h1
    obtain ⟨rfl, rfl, -, -, rfl, -, -, rfl, rfl, rfl, rfl, -⟩ := h1
    refine ⟨rfl, rfl, by omega, h2, fun _ _ => ?_⟩
    simp only [cval, List.append_assoc]
    rw [← drop_split (i := 8) (by omega), ← drop_split (i := 6) (by omega), ← drop_split (i := 4) (by omega), ← drop_split (i := 0) (by omega), List.drop_zero]
  · split at h1
    case isFalse => cases h1
    simp only [Option.map_eq_some_iff, PC.mk.injEq] at h1
    obtain ⟨y, -, rfl, rfl, -⟩ := h1
    exact ⟨rfl, rfl, by omega, h2, fun x => absurd rfl x⟩
  · split at h1
    case isFalse => cases h1
    simp only [Option.map_eq_some_iff, PC.mk.injEq] at h1
    obtain ⟨y, -, rfl, rfl, -⟩ := h1
    exact ⟨rfl, rfl, by omega, h2, fun _ x => absurd rfl x⟩
  · split at h1
    case isFalse => cases h1
    rename_i g
    simp only [Option.some.injEq, PC.mk.injEq] at h1
    obtain ⟨rfl, rfl, -, rfl, rfl, -, -, -, -, -, -, -, rfl, rfl, -⟩ := h1
    refine ⟨rfl, rfl, by omega, h2, fun _ _ => ?_⟩
    obtain ⟨g1, g2⟩ := g
    have a1 : (gapsAt (z.drop 12) (nAt z 8 2)).length = nAt z 8 2 := by simp [gapsAt]
    have a2 : (dupsAt (z.drop (12 + 4 * nAt z 8 2)) (nAt z 10 2)).length = nAt z 10 2 := by simp [dupsAt]
    simp only [cval, List.append_assoc, a1, a2]
    rw [gapsBy_at _ _ (by simp; omega), be4s_at _ _ (by simp; omega)]
    have e : (z.drop 12).take (4 * nAt z 8 2) ++ (z.drop (12 + 4 * nAt z 8 2)).take (4 * nAt z 10 2) = z.drop 12 := by
      rw [List.take_of_length_le (l := z.drop (12 + 4 * nAt z 8 2)) (by simp; omega), ← List.drop_drop, List.take_append_drop]
    rw [e, ← drop_split (i := 10) (by omega), ← drop_split (i := 8) (by omega), ← drop_split (i := 4) (by omega), ← drop_split (i := 0) (by omega), List.drop_zero]
  · split at h1
    case isFalse => cases h1
    rename_i g
    simp only [Option.some.injEq, PC.mk.injEq] at h1
    obtain ⟨rfl, rfl, -, -, -, -, -, -, -, -, -, -, -, -, e⟩ := h1
    refine ⟨rfl, rfl, by omega, h2, fun _ _ => ?_⟩
    obtain ⟨t1, t2⟩ := tbs_parse z g
    obtain ⟨q1, q2⟩ := causes_eq causes _ e.symm t2
    simp only [cval, q1, if_true, q2, t1]
  · split at h1
    case isFalse => cases h1
    rename_i g
    simp only [Option.some.injEq, PC.mk.injEq] at h1
    obtain ⟨rfl, rfl, -, -, -, -, -, -, -, -, -, -, -, -, e⟩ := h1
    refine ⟨rfl, rfl, by omega, h2, fun _ _ => ?_⟩
    obtain ⟨t1, t2⟩ := tbs_parse z g
    obtain ⟨q1, q2⟩ := causes_eq causes _ e.symm t2
    simp only [cval, q1, if_true, q2, t1]
  · split at h1
    case isFalse => cases h1
    rename_i g
    simp only [Option.some.injEq, PC.mk.injEq] at h1
    obtain ⟨rfl, rfl, -, -, rfl, -⟩ := h1
    refine ⟨rfl, rfl, by omega, h2, fun _ _ => ?_⟩
    have e := drop_split (z := z) (i := 0) (n := 4) (by omega)
    rw [List.drop_zero, List.drop_of_length_le (by omega), List.append_nil] at e
    simp only [cval]
    rw [← e]
  · split at h1
    case isFalse => cases h1
    rename_i g
    simp only [Option.some.injEq, PC.mk.injEq] at h1
    obtain ⟨rfl, rfl, -, -, -, -, -, -, -, -, rfl, -⟩ := h1
    refine ⟨rfl, rfl, by omega, h2, fun _ _ => ?_⟩
    rw [List.eq_nil_of_length_eq_zero g]; rfl
  · split at h1
    case isFalse => cases h1
    rename_i g
    simp only [Option.some.injEq, PC.mk.injEq] at h1
    obtain ⟨rfl, rfl, -, -, -, -, -, -, -, -, rfl, -⟩ := h1
    refine ⟨rfl, rfl, by omega, h2, fun _ _ => ?_⟩
    rw [List.eq_nil_of_length_eq_zero g]; rfl
  · split at h1
    case isFalse => cases h1
    rename_i g
    simp only [Option.some.injEq, PC.mk.injEq] at h1
    obtain ⟨rfl, rfl, -, -, -, -, -, -, -, -, rfl, -⟩ := h1
    refine ⟨rfl, rfl, by omega, h2, fun _ _ => ?_⟩
    rw [List.eq_nil_of_length_eq_zero g]; rfl
  · simp only [Option.some.injEq, PC.mk.injEq] at h1
    obtain ⟨rfl, rfl, -, -, -, -, -, -, -, -, rfl, -⟩ := h1
    refine ⟨rfl, rfl, by omega, h2, fun _ _ => ?_⟩
    unfold cval
    split <;> first | rfl | contradiction | omega
theorem parse_small {chunk : Bool} : ∀ (z : List UInt8), ∀ x ∈ (parse chunk z).1, x.2.2.length ≤ z.length := by
  intro z
  induction hn : z.length using Nat.strongRecOn generalizing z with
  | _ n ih =>
    intro x hx
    by_cases h0 : z = []
    · subst h0; rw [parse_nil] at hx; cases hx
    · by_cases h : Whole z
      · rw [parse_some h] at hx
        have hu := up4_le (tN z)
        have h2 := h.2.1
        have h3 := h.2.2.1
        have h1 := h.1
        rcases List.mem_cons.1 hx with rfl | hx
        · rw [thing_len h]; omega
        · have := ih (z.drop (up4 (tN z))).length (by simp; omega) (z.drop (up4 (tN z))) rfl x hx
          simp at this; omega
      · rw [parse_none h0 h] at hx; cases hx
theorem pgo_small (kind : Nat) (well : Bool) (N : Nat) (l : List Thing) (hl : ∀ x ∈ l, x.2.2.length ≤ N) (A : List Nat) (D : List UInt8) (hD : D.length ≤ N) (n : Nat) (r : List Nat × List UInt8) (h : pgo kind well l A D n = some r) : r.2.length ≤ N := by
  induction l generalizing A D n with
  | nil =>
    simp only [pgo] at h
    split at h
    · cases h; exact hD
    · cases h
  | cons x l ih =>
    obtain ⟨k, f, z⟩ := x
    have hz : z.length ≤ N := hl (k, f, z) (by simp)
    have ih' := ih fun x hx => hl x (by simp [hx])
    simp only [pgo] at h
    split at h
    · split at h
      · exact ih' _ _ hD _ h
      · cases h
    · split at h
      · split at h
        · cases h
        · exact ih' _ _ hz _ h
      · split at h
        · cases h; exact hD
        · exact ih' _ _ hD _ h
theorem tk_bounds {H : AHeap} {c : Ck} {d : CD} {k f : Nat} {z : List UInt8} (ok : COk H c d) (h : tkP k f z = some (pcOf c d)) : c.D.n ≤ z.length ∧ c.A.n ≤ 3 ∧ c.G.n ≤ 64 ∧ c.U.n ≤ 16 ∧ c.C.n ≤ z.length := by
  obtain ⟨-, -, -, hm, -⟩ := put_tk ok h
  obtain ⟨hs, m1, m2, m3, m4⟩ := may_clean hm
  unfold tkP at h
  split at h
  · cases h
  obtain ⟨h1, -⟩ := Option.filter_eq_some_iff.1 h
  have hpl := parse_len (chunk := false) z
  have key : d.data.length ≤ z.length ∧ (d.causes.map fun x => (x.k, x.z)).length ≤ z.length := by
    unfold rawP pcOf PC.z at h1
    split at h1
    all_goals (try split at h1)
    all_goals (first | (cases h1; done) | skip)
    all_goals (first | (simp only [Option.some.injEq, PC.mk.injEq] at h1; obtain ⟨-, -, -, -, -, -, -, -, -, -, e1, -, -, -, e2⟩ := h1; rw [← e1, ← e2]; simp; done) | (simp only [Option.some.injEq, PC.mk.injEq] at h1; obtain ⟨-, -, -, -, -, -, -, -, -, -, e1, -, -, -, e2⟩ := h1; rw [← e1, ← e2]; simp; omega) | skip)
    all_goals
      simp only [Option.map_eq_some_iff, PC.mk.injEq] at h1
      obtain ⟨r, hr, -, -, -, -, -, -, -, -, -, -, e1, -, -, -, e2⟩ := h1
      rw [← e1, ← e2]
      exact ⟨pgo_small _ _ z.length _ (fun x hx => Nat.le_trans (parse_small _ x hx) (by simp)) [] [] (Nat.zero_le _) 0 r hr, Nat.zero_le _⟩
  rw [ok.dl, List.length_map, ok.cl] at key
  exact ⟨key.1, m1, m2, m3, key.2⟩
end Go.Proofs.Ytjpegoigipbmiaa
namespace Go.Proofs.Ytjpegoigipbmiaa
theorem goP_mem {its : List Thing} {wl : Bool} {acc pl : List PC} (h : goP its wl acc = .ok pl) : ∀ p ∈ pl, p ∈ acc ∨ ∃ x ∈ its, tkP x.1 x.2.1 x.2.2 = some p := by
  induction its generalizing acc with
  | nil =>
    simp only [goP] at h
    split at h
    · cases h; exact fun p hp => .inl hp
    · cases h
  | cons x its ih =>
    simp only [goP] at h
    split at h
    · cases h; exact fun p hp => .inl hp
    · split at h
      · cases h
      · rename_i q hq
        intro p hp
        rcases ih h p hp with hp | ⟨y, hy, e⟩
        · rcases List.mem_append.1 hp with hp | hp
          · exact .inl hp
          · simp only [List.mem_singleton] at hp; subst hp
            exact .inr ⟨x, List.mem_cons_self .., hq⟩
        · exact .inr ⟨y, List.mem_cons_of_mem _ hy, e⟩
theorem take6_ok {zs : List UInt8} {f t g : Nat} {pl : List PC} (h : take6 zs = .ok (f, t, g, pl)) : htk zs = .ok (f, t, g) ∧ goP (parse true (zs.drop 12)).1 (parse true (zs.drop 12)).2 [] = .ok pl ∧ pmayK g (pl.map (·.k)) = true := by
  unfold take6 at h
  split at h
  · cases h
  · rename_i f' t' g' he
    split at h
    · cases h
    · rename_i l hl
      split at h
      · rename_i hm
        cases h
        exact ⟨he, hl, hm⟩
      · cases h
theorem take6_mem {zs : List UInt8} {f t g : Nat} {pl : List PC} (h : take6 zs = .ok (f, t, g, pl)) : ∀ p ∈ pl, ∃ k fl z, tkP k fl z = some p ∧ z.length ≤ zs.length ∧ k < 256 ∧ fl < 256 := by
  obtain ⟨-, h2, -⟩ := take6_ok h
  intro p hp
  rcases goP_mem h2 p hp with hp | ⟨x, hx, e⟩
  · cases hp
  · obtain ⟨h3, h4, h5⟩ := parse_kind _ _ (Nat.le_refl _) x hx
    rw [List.length_drop] at h5
    exact ⟨_, _, _, e, by omega, h3, h4⟩
theorem take6_sb {zs : List UInt8} {f t g : Nat} {pl : List PC} (h : take6 zs = .ok (f, t, g, pl)) (hl : zs.length ≤ 1000000) {H : AHeap} {l : List CP} (ho : ∀ x ∈ l, COk H x.1 x.2) (e : pcs l = pl) : ∀ x ∈ l, SB x.1 ∧ x.1.D.n ≤ 1000000 ∧ x.1.C.n ≤ 1000000 := by
  intro x hx
  obtain ⟨k, fl, z, ht, hz, -⟩ := take6_mem h (pcOf x.1 x.2) (by rw [← e]; exact List.mem_map_of_mem hx)
  obtain ⟨b1, b2, b3, b4, b5⟩ := tk_bounds (ho x hx) ht
  exact ⟨⟨by omega, by omega, by omega, by omega⟩, by omega, by omega⟩
end Go.Proofs.Ytjpegoigipbmiaa
namespace Go.Proofs.Ytjpegoigipbmiaa
set_option maxRecDepth 100000
attribute [local irreducible] Go GoR GoL
set_option maxHeartbeats 4000000 in
theorem headTake_err (a : Option Addr) (n cap : Nat) (hn : n ≤ 1000000) (h : AHeap) (x : Nat) (hx : 1500 < n ∧ x = 3 ∨ n < 12 ∧ x = 30 ∨ 12 ≤ n ∧ n ≤ 1500 ∧ n % 4 ≠ 0 ∧ x = 32) : CallS Try.prog [] 29 [.slice a n cap] h fun v h' => v = .tuple #[hdV 0 0 0, .slice none 0 0, .int .i64 x] := by
  rcases hx with ⟨g1, rfl⟩ | ⟨g1, rfl⟩ | ⟨g1, g2, g3, rfl⟩
  all_goals
    (refine CallS.of1 Try.func29 rfl Try.ntmps29 Try.results29 rfl ?_)
    (refine Go.run (g:=?_))
    (refine Go.fin (by first|exact .inr rfl|exact .inl rfl) (.cellN rfl inferInstance (by (first | assumption | exact AHeap.get_push_same _ _ | ((repeat first | exact AHeap.get_push_same _ _ | assumption | refine get_push_lt ?_ | exact AHeap.get_put_same _ (by first | omega | (simp only [AHeap.n_push, AHeap.n_put]; omega)) _ | exact get_put_self (by assumption) | apply get_put_self | refine get_put_other (by first | omega | (simp only [AHeap.n_push, AHeap.n_put]; omega)) ?_ | refine Same.get (by assumption) ?_ | refine Keeps.get (by assumption) ?_ (fun hi => by have hx := Own.out (by assumption) hi; omega)) ; fail_if_success focus skip) | fail)) (by first | exact Nat.le_refl _ | (simp [setL, cellsL]; fail_if_success focus skip) | (simp; omega)) rfl (.tmp rfl (.tmp rfl .nil))) ?_)
    rfl
set_option maxHeartbeats 4000000 in
theorem headTake_sum (a : Option Addr) (n cap : Nat) (zs : List UInt8) (hlen : zs.length = n) (h12 : 12 ≤ n) (hn : n ≤ 1500) (h4 : n % 4 = 0) (h : AHeap) (hz : Rv Try.prog h 1 a n cap (zs.map bv)) (hne : beNum ((zs.drop 8).take 4) ≠ headSum zs) : CallS Try.prog [] 29 [.slice a n cap] h fun v h' => v = .tuple #[hdV 0 0 0, .slice none 0 0, .int .i64 (31 : Nat)] := by
  (refine CallS.of1 Try.func29 rfl Try.ntmps29 Try.results29 rfl ?_)
  (refine Go.run (g:=?_))
  have hz1 := hz.push (.cells [.int .u16 (0 : Nat), .int .u16 (0 : Nat), .int .u32 (0 : Nat)] 25)
  refine GoR.bLH (l := 8) (r := 12) rfl rfl rfl rfl rfl rfl rfl hz1 (by omega) (by omega) ?_
  intro a1 hz2 _
  (refine Go.run (g:=?_))
  refine GoR.call rfl rfl rfl rfl rfl rfl rfl (((number_n a1 (cap - 8) ((zs.drop 8).take 4) 4 (by simp; omega) (by omega) _ hz2).argA).mono ?_)
  rintro _ h1 rfl s1
  (refine Go.run (g:=?_))
  have hz3 := hz1.same s1
  have hsum := sum_spec a cap zs (by omega) (by omega) _ (by rw [hlen]; exact hz3)
  rw [hlen] at hsum
  refine GoR.call rfl rfl rfl rfl rfl rfl rfl (((hsum).argA).mono ?_)
  rintro _ h2 rfl s2
  have G2 : h2.get h.n = some (.cells [.int .u16 (0 : Nat), .int .u16 (0 : Nat), .int .u32 (0 : Nat)] 25) := Same.get s2 (Same.get s1 (AHeap.get_push_same _ _))
  (refine Go.run (g:=?_))
  (refine Go.fin (by first|exact .inr rfl|exact .inl rfl) (.cellN rfl inferInstance (by (first | assumption | exact AHeap.get_push_same _ _ | ((repeat first | exact AHeap.get_push_same _ _ | assumption | refine get_push_lt ?_ | exact AHeap.get_put_same _ (by first | omega | (simp only [AHeap.n_push, AHeap.n_put]; omega)) _ | exact get_put_self (by assumption) | apply get_put_self | refine get_put_other (by first | omega | (simp only [AHeap.n_push, AHeap.n_put]; omega)) ?_ | refine Same.get (by assumption) ?_ | refine Keeps.get (by assumption) ?_ (fun hi => by have hx := Own.out (by assumption) hi; omega)) ; fail_if_success focus skip) | fail)) (by first | exact Nat.le_refl _ | (simp [setL, cellsL]; fail_if_success focus skip) | (simp; omega)) rfl (.tmp rfl (.tmp rfl .nil))) ?_)
  rfl
set_option maxHeartbeats 4000000 in
theorem headTake_ok (a : Option Addr) (n cap : Nat) (zs : List UInt8) (hlen : zs.length = n) (h12 : 12 ≤ n) (hn : n ≤ 1500) (h4 : n % 4 = 0) (h : AHeap) (hz : Rv Try.prog h 1 a n cap (zs.map bv)) (hne : beNum ((zs.drop 8).take 4) = headSum zs) : CallS Try.prog [] 29 [.slice a n cap] h fun v h' => ∃ b c, v = .tuple #[hdV (beNum (zs.take 2)) (beNum ((zs.drop 2).take 2)) (beNum ((zs.drop 4).take 4)), .slice b (n - 12) c, .int .i64 (0 : Nat)] ∧ Sv h' 5 1 b (n - 12) c ((zs.drop 12).map bv) ∧ Own h.n b := by
  (refine CallS.of1 Try.func29 rfl Try.ntmps29 Try.results29 rfl ?_)
  (refine Go.run (g:=?_))
  have hz1 := hz.push (.cells [.int .u16 (0 : Nat), .int .u16 (0 : Nat), .int .u32 (0 : Nat)] 25)
  refine GoR.bLH (l := 8) (r := 12) rfl rfl rfl rfl rfl rfl rfl hz1 (by omega) (by omega) ?_
  intro a1 hz2 _
  (refine Go.run (g:=?_))
  refine GoR.call rfl rfl rfl rfl rfl rfl rfl (((number_n a1 (cap - 8) ((zs.drop 8).take 4) 4 (by simp; omega) (by omega) _ hz2).argA).mono ?_)
  rintro _ h1 rfl s1
  (refine Go.run (g:=?_))
  have hz3 := hz1.same s1
  have hsum := sum_spec a cap zs (by omega) (by omega) _ (by rw [hlen]; exact hz3)
  rw [hlen] at hsum
  refine GoR.call rfl rfl rfl rfl rfl rfl rfl (((hsum).argA).mono ?_)
  rintro _ h2 rfl s2
  have hz4 := hz3.same s2
  rw [hne]
  (refine Go.run (g:=?_))
  have hlt : ∀ i ∈ blk a, i < h.n := hz.lt
  have n1 := s1.1
  have n2 := s2.1
  simp only [AHeap.n_push] at n1
  have G2 : h2.get h.n = some (.cells [.int .u16 (0 : Nat), .int .u16 (0 : Nat), .int .u32 (0 : Nat)] 25) := Same.get s2 (Same.get s1 (AHeap.get_push_same _ _))
  clear hz2 hz3 hsum hz1
  refine Go.loud (by kernel_rfl) rfl ?_
  (refine Go.runL (g:=?_))
  refine GoL.bHi (r := 2) rfl rfl rfl rfl rfl rfl hz4 (by omega) ?_
  intro a3 hz5 _
  (refine Go.runL (g:=?_))
  refine GoL.callS rfl rfl rfl rfl rfl rfl rfl (((number_n a3 cap (zs.take 2) 2 (by simp; omega) (by omega) _ hz5).argA).mono ?_)
  rintro _ h3 rfl s3
  (refine Go.runL (g:=?_))
  have hz6 := hz4.same s3
  refine GoL.bLH (l := 2) (r := 4) rfl rfl rfl rfl rfl rfl rfl hz6 (by omega) (by omega) ?_
  intro a4 hz7 _
  (refine Go.runL (g:=?_))
  refine GoL.callS rfl rfl rfl rfl rfl rfl rfl (((number_n a4 (cap - 2) ((zs.drop 2).take 2) 2 (by simp; omega) (by omega) _ hz7).argA).mono ?_)
  rintro _ h4 rfl s4
  (refine Go.runL (g:=?_))
  have hz8 := hz6.same s4
  refine GoL.bLH (l := 4) (r := 8) rfl rfl rfl rfl rfl rfl rfl hz8 (by omega) (by omega) ?_
  intro a5 hz9 _
  (refine Go.runL (g:=?_))
  refine GoL.callS rfl rfl rfl rfl rfl rfl rfl (((number_n a5 (cap - 4) ((zs.drop 4).take 4) 4 (by simp; omega) (by omega) _ hz9).argA).mono ?_)
  rintro _ h5 rfl s5
  (refine Go.runL (g:=?_))
  have hz10 := hz8.same s5
  refine GoL.bLo (l := 12) rfl rfl rfl rfl rfl rfl hz10 (by omega) ?_
  intro a6 hz11 hb6
  (refine Go.runL (g:=?_))
  have e6 : ((zs.drop 12).take (n - 12)) = zs.drop 12 := List.take_of_length_le (by simp; omega)
  rw [e6] at hz11
  refine GoL.callR (blk a) rfl rfl rfl rfl rfl rfl rfl (((clone_n a6 (cap - 12) (zs.drop 12) (n - 12) (by simp; omega) (by omega) _ (hz11.restr (blk a) hb6)).args rfl).mono ?_)
  rintro _ h6 ⟨b6, c6, rfl, hs6, ob6⟩ h7 nw
  rw [restr_n] at ob6
  have m3 := s3.1
  have m4 := s4.1
  have m5 := s5.1
  have m7 := nw.same.1
  have G7 : h7.get h.n = some (.cells [.int .u16 (0 : Nat), .int .u16 (0 : Nat), .int .u32 (0 : Nat)] 25) := Same.get nw.same (Same.get s5 (Same.get s4 (Same.get s3 G2)))
  have hs7 := nw.sv hs6 ob6
  (refine Go.runL (g:=?_))
  refine GoL.store rfl rfl rfl rfl rfl G7 rfl rfl (Nat.le_refl 3) rfl rfl (.inr (Nat.le_refl _)) ?_
  (refine Go.runL (g:=?_))
  refine GoL.end (by
    simp only [List.nil_append, List.cons_append]
    repeat (first | exact loudP.nil | refine loudP.none ?_ | refine loudP.new (fun _ hb => absurd hb List.not_mem_nil) ?_ | refine loudP.row (by repeat (first | exact loudRowP.nil | refine loudRowP.none ?_ | refine loudRowP.bef (by decide +kernel) ?_ | refine loudRowP.apart (.inr (by simp)) rfl (by intro i hi; simp only [List.mem_singleton] at hi; subst hi; exact ⟨fun hm => absurd (hlt _ hm) (Nat.lt_irrefl _), List.not_mem_nil, .inl (by omega)⟩) ?_)) ?_)) ?_
  (refine Go.run (g:=?_))
  refine Go.fin (.inr rfl) (.cellN rfl inferInstance (get_put_self G7) (Nat.le_refl 3) rfl (.tmp rfl (.tmp rfl .nil))) ?_
  have l6 : (zs.drop 12).length = n - 12 := by simp; omega
  have v0 : beNum (zs.take 2) < 65536 := beNum_lt_of (k := 2) (by simp; omega) rfl
  have v1 : beNum ((zs.drop 2).take 2) < 65536 := beNum_lt_of (k := 2) (by simp; omega) rfl
  rw [l6] at hs7 ⊢
  refine ⟨b6, c6, ?_, hs7.put (fun hm => by have := ob6 _ hm; omega) _, ob6.mono (by omega)⟩
  show Value.tuple #[.agg #[.int .u16 ((beNum (zs.take 2) % 65536 : Nat) : Int), .int .u16 ((beNum ((zs.drop 2).take 2) % 65536 : Nat) : Int), .int .u32 ((beNum ((zs.drop 4).take 4) : Nat) : Int)], .slice b6 (n - 12) c6, .int .i64 0] = _
  rw [Nat.mod_eq_of_lt v0, Nat.mod_eq_of_lt v1]
  rfl
end Go.Proofs.Ytjpegoigipbmiaa
namespace Go.Proofs.Ytjpegoigipbmiaa
def zero12 (l : List UInt8) : List UInt8 := l.take 8 ++ [0, 0, 0, 0] ++ l.drop 12
theorem headSum_zero (l : List UInt8) : headSum l = Crc.sum (zero12 l) := rfl
theorem zero12_len {l : List UInt8} (h : 12 ≤ l.length) : (zero12 l).length = l.length := by simp [zero12]; omega
theorem zero12_get {l : List UInt8} (h : 12 ≤ l.length) {q : Nat} (hq : q < 8 ∨ 12 ≤ q) : (zero12 l)[q]? = l[q]? := by
  unfold zero12
  rcases hq with hq | hq
  · rw [List.append_assoc, List.getElem?_append_left (by simp; omega), List.getElem?_take_of_lt hq]
  · rw [List.getElem?_append_right (by simp; omega)]
    simp only [List.length_append, List.length_take, List.length_cons, List.length_nil, List.getElem?_drop]
    congr 1
    omega
theorem zero12_set {l : List UInt8} (h : 12 ≤ l.length) {q : Nat} (hq : q < 8 ∨ 12 ≤ q) (x : UInt8) : zero12 (l.set q x) = (zero12 l).set q x := by
  apply List.ext_getElem?
  intro i
  have h' : 12 ≤ (l.set q x).length := by simpa using h
  have hz := zero12_len h
  by_cases hi : i < 8 ∨ 12 ≤ i
  · rw [zero12_get h' hi, List.getElem?_set, List.getElem?_set, zero12_get h hi, hz]
  · have hne : q ≠ i := by omega
    rw [List.getElem?_set_ne hne]
    unfold zero12
    have e1 : (List.take 8 (l.set q x)).length = 8 := by simp; omega
    have e2 : (List.take 8 l).length = 8 := by simp; omega
    rw [List.getElem?_append_left (by simp; omega), List.getElem?_append_right (by omega), List.getElem?_append_left (by simp; omega), List.getElem?_append_right (by omega), e1, e2]
structure Fl (l0 : List UInt8) (at_ t k : Nat) (l : List UInt8) (s r : Bool) : Prop where
  len : l.length = l0.length
  all : Crc.num l = Crc.num l0 ^^^ ((t % 2 ^ k) * 2 ^ at_)
  rest : s = false → (l.drop 8).take 4 = (l0.drop 8).take 4 ∧ Crc.num (zero12 l) = Crc.num (zero12 l0) ^^^ ((t % 2 ^ k) * 2 ^ at_)
  sum : r = false → l.take 8 = l0.take 8 ∧ l.drop 12 = l0.drop 12
theorem mod_skip {t k : Nat} (h : t / 2 ^ k % 2 = 0) : t % 2 ^ (k + 1) = t % 2 ^ k := by rw [Crc.mod_succ_bit, h]; simp
theorem Fl.skip {l0 l : List UInt8} {at_ t k : Nat} {s r : Bool} (f : Fl l0 at_ t k l s r) (h : t / 2 ^ k % 2 = 0) : Fl l0 at_ t (k + 1) l s r := ⟨f.len, by rw [mod_skip h]; exact f.all, fun e => by rw [mod_skip h]; exact f.rest e, f.sum⟩
theorem drop_take_set {l : List UInt8} {q : Nat} (hq : q < 8 ∨ 12 ≤ q) (x : UInt8) : ((l.set q x).drop 8).take 4 = (l.drop 8).take 4 := by
  apply List.ext_getElem?
  intro i
  rw [List.getElem?_take, List.getElem?_take]
  split
  · rw [List.getElem?_drop, List.getElem?_drop, List.getElem?_set_ne (by omega)]
  · rfl
theorem Fl.step {l0 l : List UInt8} {at_ t k : Nat} {s r : Bool} (f : Fl l0 at_ t k l s r) (h12 : 12 ≤ l0.length) (h : t / 2 ^ k % 2 = 1) {q : Nat} (hq : q = (at_ + k) / 8) (hl : q < l.length) :
    Fl l0 at_ t (k + 1) (l.set q (l[q] ^^^ UInt8.ofNat (2 ^ ((at_ + k) % 8)))) (s || (decide (8 ≤ q) && decide (q < 12))) (r || decide (q < 8) || decide (12 ≤ q)) := by
  have hl12 : 12 ≤ l.length := by rw [f.len]; exact h12
  have st := Crc.burst_step l0 l at_ t k q ((at_ + k) % 8) hq rfl hl f.all
  rw [h, Nat.one_mul] at st
  refine ⟨by simp [f.len], st, fun e => ?_, fun e => ?_⟩
  · simp only [Bool.or_eq_false_iff, Bool.and_eq_false_iff, decide_eq_false_iff_not] at e
    have hq' : q < 8 ∨ 12 ≤ q := by omega
    obtain ⟨f1, f2⟩ := f.rest e.1
    refine ⟨by rw [drop_take_set hq', f1], ?_⟩
    have hz : q < (zero12 l).length := by rw [zero12_len hl12]; exact hl
    have st2 := Crc.burst_step (zero12 l0) (zero12 l) at_ t k q ((at_ + k) % 8) hq rfl hz f2
    rw [h, Nat.one_mul] at st2
    have hg : (zero12 l)[q] = l[q] := by
      have := zero12_get hl12 hq'
      rw [List.getElem?_eq_getElem hz, List.getElem?_eq_getElem hl] at this
      exact Option.some.inj this
    rw [zero12_set hl12 hq', ← hg]
    exact st2
  · simp only [Bool.or_eq_false_iff, decide_eq_false_iff_not] at e
    obtain ⟨f1, f2⟩ := f.sum e.1.1
    refine ⟨?_, ?_⟩
    · rw [← f1]
      apply List.ext_getElem?
      intro i
      rw [List.getElem?_take, List.getElem?_take]
      split
      · rw [List.getElem?_set_ne (by omega)]
      · rfl
    · rw [← f2]
      apply List.ext_getElem?
      intro i
      rw [List.getElem?_drop, List.getElem?_drop, List.getElem?_set_ne (by omega)]
theorem Fl.end {l0 l : List UInt8} {at_ t : Nat} {s r : Bool} (f : Fl l0 at_ t 32 l s r) (h12 : 12 ≤ l0.length) (ht : t < 4294967296) (h0 : t ≠ 0) (hat : at_ + 32 ≤ 8 * l0.length) (hsr : s = false ∨ r = false) (hs : beNum ((l0.drop 8).take 4) = headSum l0) : beNum ((l.drop 8).take 4) ≠ headSum l := by
  have hm : t % 2 ^ 32 = t := Nat.mod_eq_of_lt ht
  have hl12 : 12 ≤ l.length := by rw [f.len]; exact h12
  rcases hsr with hs0 | hr0
  · obtain ⟨f1, f2⟩ := f.rest hs0
    rw [f1, hs, headSum_zero, headSum_zero]
    rw [hm] at f2
    exact Ne.symm (Crc.more_burst 0 (zero12 l) (zero12 l0) at_ t (by decide) (by rw [zero12_len hl12, zero12_len h12, f.len]) ht h0 (by rw [zero12_len h12]; omega) f2)
  · obtain ⟨f1, f2⟩ := f.sum hr0
    have e : headSum l = headSum l0 := by rw [headSum_zero, headSum_zero, zero12, zero12, f1, f2]
    rw [e, ← hs]
    intro hb
    have hb' := beNum_inj (by simp [f.len]) hb
    have e4 : ∀ z : List UInt8, z = z.take 8 ++ ((z.drop 8).take 4 ++ z.drop 12) := fun z => by
      have : z.drop 12 = (z.drop 8).drop 4 := by rw [List.drop_drop]
      rw [this, List.take_append_drop, List.take_append_drop]
    have hl : l = l0 := by rw [e4 l, e4 l0, f1, f2, hb']
    have ha := f.all
    rw [hm, hl] at ha
    have : t * 2 ^ at_ = 0 := by
      have := congrArg (Crc.num l0 ^^^ ·) ha
      simp only [Nat.xor_self, Crc.xor_cancel] at this
      exact this.symm
    have hp : 0 < 2 ^ at_ := Nat.two_pow_pos _
    rcases Nat.mul_eq_zero.1 this with h | h <;> omega
end Go.Proofs.Ytjpegoigipbmiaa
namespace Go.Proofs.Ytjpegoigipbmiaa
set_option maxRecDepth 100000
attribute [local irreducible] Go GoR GoL
theorem hput_take2 (f t g : Nat) (v : List UInt8) (hf : f < 65536) : beNum ((hput f t g v).take 2) = f := by
  have e : (hput f t g v).take 2 = beB 2 f := by
    unfold hput hbytes
    rw [List.append_assoc, List.append_assoc, List.append_assoc, List.take_append_of_le_length (by simp [beB_length]), List.take_of_length_le (by simp [beB_length])]
  rw [e, beNum_beB _ _ (by simpa using hf)]
theorem hput_drop2 (f t g : Nat) (v : List UInt8) : (hput f t g v).drop 2 = beB 2 t ++ (beB 4 g ++ (beB 4 (Crc.sum (hbytes f t g 0 v)) ++ v)) := by
  unfold hput hbytes
  rw [List.append_assoc, List.append_assoc, List.append_assoc]
  exact List.drop_left' (by simp [beB_length])
theorem hput_drop4 (f t g : Nat) (v : List UInt8) : (hput f t g v).drop 4 = beB 4 g ++ (beB 4 (Crc.sum (hbytes f t g 0 v)) ++ v) := by
  have : (hput f t g v).drop 4 = ((hput f t g v).drop 2).drop 2 := by rw [List.drop_drop]
  rw [this, hput_drop2]
  exact List.drop_left' (by simp [beB_length])
theorem hput_drop8 (f t g : Nat) (v : List UInt8) : (hput f t g v).drop 8 = beB 4 (Crc.sum (hbytes f t g 0 v)) ++ v := by
  have : (hput f t g v).drop 8 = ((hput f t g v).drop 4).drop 4 := by rw [List.drop_drop]
  rw [this, hput_drop4]
  exact List.drop_left' (by simp [beB_length])
theorem beNum_front (n x : Nat) (l : List UInt8) (h : x < 256 ^ n) : beNum ((beB n x ++ l).take n) = x := by
  rw [List.take_left' (by simp [beB_length]), beNum_beB _ _ h]
theorem hput_len (f t g : Nat) (v : List UInt8) : (hput f t g v).length = 12 + v.length := by rw [hput, hbytes_length]
theorem hput_ok (f t g : Nat) (v : List UInt8) (hf : f < 65536) (ht : t < 65536) (hg : g < 4294967296) : beNum ((hput f t g v).take 2) = f ∧ beNum (((hput f t g v).drop 2).take 2) = t ∧ beNum (((hput f t g v).drop 4).take 4) = g ∧ beNum (((hput f t g v).drop 8).take 4) = headSum (hput f t g v) ∧ (hput f t g v).drop 12 = v := by
  refine ⟨hput_take2 f t g v hf, ?_, ?_, ?_, ?_⟩
  · rw [hput_drop2]; exact beNum_front _ _ _ (by simpa using ht)
  · rw [hput_drop4]; exact beNum_front _ _ _ (by simpa using hg)
  · rw [hput_drop8, beNum_front _ _ _ (by have : Crc.sum (hbytes f t g 0 v) < 4294967296 := Crc.more_lt _ _; simpa using this), hput, headSum_hbytes]
  · rw [hput, hbytes_drop]
end Go.Proofs.Ytjpegoigipbmiaa