/- Walks on the abstract heap: slices by what they read as. No conditions. -/
import Derived.Test.YtmelgnpogdilgaaSymD
namespace Go.Proofs.Ytmelgnpogdilgaa
set_option linter.unusedVariables false
def ptA (a : Option Addr) (k : Nat) : Value := match a with
  | some ⟨b, o, s⟩ => .pointer (some ⟨b, o + k, s⟩)
  | none => .pointer none
def subA (a : Option Addr) (k : Nat) : Option Addr := match a with
  | some ⟨b, o, s⟩ => some ⟨b, o + k, s⟩
  | none => none
def blk (a : Option Addr) : List Nat := match a with
  | some ⟨b, _, _⟩ => [b]
  | none => []
/-- A slice of 'len' elements of 'sz' cells, that reads as 'cs', in a block of type 't'. -/
inductive Sv (h : AHeap) (t : TypeId) (sz : Nat) : Option Addr → Nat → Nat → List Value → Prop
  | nil : Sv h t sz none 0 0 []
  | mk {b o len cap : Nat} {c cs : List Value} (hg : h.get b = some (.cells c t)) (ho : o + cap * sz ≤ c.length) (hl : len ≤ cap) (hc : (c.drop o).take (len * sz) = cs) : Sv h t sz (some ⟨b, o, none⟩) len cap cs
/-- It lies in memory made since. -/
def Own (n : Nat) (a : Option Addr) : Prop := ∀ i ∈ blk a, n ≤ i
theorem Own.nil (n : Nat) : Own n none := fun i hi => by cases hi
theorem Own.mk {n b o : Nat} (h : n ≤ b) : Own n (some ⟨b, o, none⟩) := fun i hi => by simp [blk] at hi; omega
theorem Own.mono {n n' : Nat} {a : Option Addr} (h : Own n a) (hle : n' ≤ n) : Own n' a := fun i hi => by have := h i hi; omega
section
variable {h h' : AHeap} {t : TypeId} {sz : Nat} {a : Option Addr} {len cap : Nat} {cs : List Value}
theorem Sv.length (k : Sv h t sz a len cap cs) : cs.length = len * sz := by
  cases k with
  | nil => simp
  | mk hg ho hl hc =>
    subst hc
    have : len * sz ≤ cap * sz := Nat.mul_le_mul_right _ hl
    simp; omega
theorem Sv.pos (k : Sv h t sz a len cap cs) (hl : 0 < cs.length) : 0 < len := by
  have := k.length
  rcases Nat.eq_zero_or_pos len with e | e
  · subst e; simp at this; subst this; simp at hl
  · exact e
theorem Sv.le (k : Sv h t sz a len cap cs) : len ≤ cap := by
  cases k with
  | nil => omega
  | mk hg ho hl hc => exact hl
theorem Sv.lt (k : Sv h t sz a len cap cs) : ∀ i ∈ blk a, i < h.n := by
  cases k with
  | nil => intro i hi; cases hi
  | mk hg ho hl hc => intro i hi; simp [blk] at hi; subst hi; exact AHeap.lt hg
theorem Sv.keep (k : Sv h t sz a len cap cs) (hk : ∀ i ∈ blk a, h'.get i = h.get i) : Sv h' t sz a len cap cs := by
  cases k with
  | nil => exact .nil
  | mk hg ho hl hc => exact .mk (by rw [hk _ (by simp [blk])]; exact hg) ho hl hc
theorem Sv.same (k : Sv h t sz a len cap cs) (s : Same h h') : Sv h' t sz a len cap cs := k.keep fun i hi => s.2 i (k.lt i hi)
theorem Sv.keeps {wr : List Nat} (k : Sv h t sz a len cap cs) (s : Keeps wr h h') (hn : ∀ i ∈ blk a, i ∉ wr) : Sv h' t sz a len cap cs := k.keep fun i hi => s.2 i (k.lt i hi) (hn i hi)
theorem Sv.push (k : Sv h t sz a len cap cs) (o : AObj) : Sv (h.push o) t sz a len cap cs := k.same ((Same.refl h).push o)
theorem Sv.put {b : Nat} (k : Sv h t sz a len cap cs) (hb : b ∉ blk a) (o : Option AObj) : Sv (h.put b o) t sz a len cap cs := k.keep fun i hi => AHeap.get_put_ne _ _ (fun e => hb (e ▸ hi))
/-- A block made just now. -/
theorem Sv.new (h : AHeap) (c : List Value) (t : TypeId) {sz len : Nat} (hc : c.length = len * sz) : Sv (h.push (.cells c t)) t sz (some ⟨h.n, 0, none⟩) len len c := .mk (AHeap.get_push_same h _) (by simp [hc]) (Nat.le_refl _) (by simp [← hc])
theorem Sv.some (k : Sv h t sz a len cap cs) (hpos : 0 < len) : ∃ b o c, a = some ⟨b, o, none⟩ ∧ h.get b = some (.cells c t) ∧ o + cap * sz ≤ c.length ∧ len ≤ cap ∧ (c.drop o).take (len * sz) = cs := by
  cases k with
  | nil => omega
  | mk hg ho hl hc => exact ⟨_, _, _, rfl, hg, ho, hl, hc⟩
/-- What is between. -/
theorem Sv.sub (k : Sv h t sz a len cap cs) {l r : Nat} (h1 : l ≤ r) (h2 : r ≤ len) : Sv h t sz (subA a (l * sz)) (r - l) (cap - l) ((cs.drop (l * sz)).take ((r - l) * sz)) := by
  cases k with
  | nil =>
    have e1 : l = 0 := by omega
    have e2 : r = 0 := by omega
    subst e1 e2
    simp only [subA, List.drop_nil, List.take_nil]
    exact .nil
  | @mk b o _ _ c _ hg ho hl hc =>
    subst hc
    have m1 : l * sz ≤ cap * sz := Nat.mul_le_mul_right _ (by omega)
    have m2 : (cap - l) * sz = cap * sz - l * sz := Nat.sub_mul _ _ _
    have m3 : (r - l) * sz = r * sz - l * sz := Nat.sub_mul _ _ _
    have m4 : r * sz ≤ len * sz := Nat.mul_le_mul_right _ h2
    refine .mk hg (by omega) (by omega) ?_
    rw [List.drop_take, List.take_take, List.drop_drop]
    rw [Nat.min_eq_left (by omega)]
end
/-- A slice that may be read; it may lie in memory that is only read. -/
inductive Rv (P : Program) (h : AHeap) (sz : Nat) : Option Addr → Nat → Nat → List Value → Prop
  | nil : Rv P h sz none 0 0 []
  | mk {b o len cap : Nat} {c cs : List Value} (hg : (∃ t, h.get b = some (.cells c t) ∧ sizeT P t = some sz) ∨ h.get b = some (.ro c)) (ho : o + len * sz ≤ c.length) (hl : len ≤ cap) (hc : (c.drop o).take (len * sz) = cs) : Rv P h sz (some ⟨b, o, none⟩) len cap cs
theorem Sv.rv {P : Program} {h : AHeap} {t : TypeId} {sz : Nat} {a : Option Addr} {len cap : Nat} {cs : List Value} (k : Sv h t sz a len cap cs) [hs : SZ P t sz] : Rv P h sz a len cap cs := by
  cases k with
  | nil => exact .nil
  | mk hg ho hl hc => exact .mk (.inl ⟨t, hg, hs.h⟩) (by have := Nat.mul_le_mul_right sz hl; omega) hl hc
section
variable {P : Program} {h h' : AHeap} {sz : Nat} {a : Option Addr} {len cap : Nat} {cs : List Value}
theorem Rv.length (k : Rv P h sz a len cap cs) : cs.length = len * sz := by
  cases k with
  | nil => simp
  | mk hg ho hl hc =>
    subst hc
    simp; omega
theorem Rv.pos (k : Rv P h sz a len cap cs) (hl : 0 < cs.length) : 0 < len := by
  have := k.length
  rcases Nat.eq_zero_or_pos len with e | e
  · subst e; simp at this; subst this; simp at hl
  · exact e
theorem Rv.le (k : Rv P h sz a len cap cs) : len ≤ cap := by
  cases k with
  | nil => omega
  | mk hg ho hl hc => exact hl
theorem Rv.lt (k : Rv P h sz a len cap cs) : ∀ i ∈ blk a, i < h.n := by
  cases k with
  | nil => intro i hi; cases hi
  | mk hg ho hl hc =>
    intro i hi; simp [blk] at hi; subst hi
    rcases hg with ⟨t, hg, _⟩ | hg <;> exact AHeap.lt hg
theorem Rv.keep (k : Rv P h sz a len cap cs) (hk : ∀ i ∈ blk a, h'.get i = h.get i) : Rv P h' sz a len cap cs := by
  cases k with
  | nil => exact .nil
  | mk hg ho hl hc => exact .mk (by rw [hk _ (by simp [blk])]; exact hg) ho hl hc
theorem Rv.same (k : Rv P h sz a len cap cs) (s : Same h h') : Rv P h' sz a len cap cs := k.keep fun i hi => s.2 i (k.lt i hi)
theorem Rv.keeps {wr : List Nat} (k : Rv P h sz a len cap cs) (s : Keeps wr h h') (hn : ∀ i ∈ blk a, i ∉ wr) : Rv P h' sz a len cap cs := k.keep fun i hi => s.2 i (k.lt i hi) (hn i hi)
theorem Rv.push (k : Rv P h sz a len cap cs) (o : AObj) : Rv P (h.push o) sz a len cap cs := k.same ((Same.refl h).push o)
theorem Rv.some (k : Rv P h sz a len cap cs) (hpos : 0 < len) : ∃ b o c, a = some ⟨b, o, none⟩ ∧ rowOf (h.get b) = some c ∧ o + len * sz ≤ c.length ∧ len ≤ cap ∧ (c.drop o).take (len * sz) = cs := by
  cases k with
  | nil => omega
  | mk hg ho hl hc =>
    refine ⟨_, _, _, rfl, ?_, ho, hl, hc⟩
    rcases hg with ⟨t, hg, _⟩ | hg <;> rw [hg] <;> rfl
theorem Rv.sub (k : Rv P h sz a len cap cs) {l r : Nat} (h1 : l ≤ r) (h2 : r ≤ len) : Rv P h sz (subA a (l * sz)) (r - l) (cap - l) ((cs.drop (l * sz)).take ((r - l) * sz)) := by
  cases k with
  | nil =>
    have e1 : l = 0 := by omega
    have e2 : r = 0 := by omega
    subst e1 e2
    simp only [subA, List.drop_nil, List.take_nil]
    exact .nil
  | @mk b o _ _ c _ hg ho hl hc =>
    subst hc
    have m5 : l * sz ≤ r * sz := Nat.mul_le_mul_right _ h1
    have m3 : (r - l) * sz = r * sz - l * sz := Nat.sub_mul _ _ _
    have m4 : r * sz ≤ len * sz := Nat.mul_le_mul_right _ h2
    refine .mk hg (by omega) (by omega) ?_
    rw [List.drop_take, List.take_take, List.drop_drop]
    rw [Nat.min_eq_left (by omega)]
end
theorem getD_take_drop {c : List Value} {o n k : Nat} (hk : k < n) : ((c.drop o).take n)[k]? = c[o + k]? := by
  rw [List.getElem?_take_of_lt hk, List.getElem?_drop]
section
variable {P : Program} {o : Oper} {ov : Ov} {h : AHeap}
theorem aSlice_of {t : TypeId} {e : TypeId} {sz : Nat} {a : Option Addr} {len cap : Nat} {cs : List Value} (hu : P.underlying t = some (.slice e)) (hs : sizeT P e = some sz) (hS : Rv P h sz a len cap cs) {l r : Nat} {lo hi : Option Value} (hl : bnd 0 lo = some l) (hr : bnd len hi = some r) (h1 : l ≤ r) (h2 : r ≤ cap) : aSlice P h t lo hi none (.slice a len cap) = some (.slice (subA a (l * sz)) (r - l) (cap - l)) := by
  cases hS with
  | nil =>
    have e1 : l = 0 := by omega
    have e2 : r = 0 := by omega
    subst e1 e2
    have hb0 : bnd 0 none = some 0 := rfl
    simp only [aSlice, hu, hs, hl, hr, hb0]
    simp [subA]
  | mk hg ho hle hc =>
    have hbc : bnd cap none = some cap := rfl
    simp only [aSlice, hu, hs, hl, hr, hbc]
    rw [if_pos ⟨h1, h2, Nat.le_refl _, .inr ⟨trivial, (hg.elim (fun ⟨t', hg, ht'⟩ => .inl (by simp [sameSize, hg, ht'])) fun hg => .inr (by simp [tight, hg]))⟩⟩]
    rfl
/-- 's[lo:hi:max]'. -/
theorem aSlice3_of {t : TypeId} {e : TypeId} {sz : Nat} {a : Option Addr} {len cap : Nat} {cs : List Value} (hu : P.underlying t = some (.slice e)) (hs : sizeT P e = some sz) (hS : Rv P h sz a len cap cs) {l r x : Nat} {lo : Option Value} {hi mx : Value} (hl : bnd 0 lo = some l) (hr : bnd len (some hi) = some r) (hx : bnd cap (some mx) = some x) (h1 : l ≤ r) (h2 : r ≤ x) (h3 : x ≤ cap) : aSlice P h t lo (some hi) (some mx) (.slice a len cap) = some (.slice (subA a (l * sz)) (r - l) (x - l)) := by
  cases hS with
  | nil =>
    have e1 : l = 0 := by omega
    have e2 : r = 0 := by omega
    have e3 : x = 0 := by omega
    have hr' : bnd 0 (some hi) = some r := hr
    subst e1 e2 e3
    simp [aSlice, hu, hs, hl, hr', hx, subA]
  | mk hg ho hle hc =>
    simp only [aSlice, hu, hs, hl, hr, hx]
    rw [if_pos ⟨h1, h2, h3, .inl ⟨rfl, rfl⟩⟩]
    rfl
theorem aSrc_of {sz : Nat} {a : Option Addr} {len cap : Nat} {cs : List Value} (hS : Rv P h sz a len cap cs) : ∃ rd, aSrc h sz len (.slice a len cap) = some (cs, rd) ∧ ∀ i ∈ rd, i ∈ blk a := by
  cases hS with
  | nil => exact ⟨[], rfl, fun i hi => by cases hi⟩
  | @mk b o _ _ c _ hg ho hle hc =>
    have hg : rowOf (h.get b) = some c := by rcases hg with ⟨t, hg, _⟩ | hg <;> rw [hg] <;> rfl
    by_cases h0 : len * sz = 0
    · refine ⟨[], ?_, fun i hi => by cases hi⟩
      simp only [aSrc, h0, if_true]
      rw [← hc, h0, List.take_zero]
    · refine ⟨[b], ?_, fun i hi => by simpa [blk] using hi⟩
      simp only [aSrc, if_neg h0, hg]
      rw [if_pos ⟨Nat.le_refl _, by omega⟩, hc]
theorem aSrc_take {sz : Nat} {a : Option Addr} {len cap n : Nat} {cs : List Value} (hS : Rv P h sz a len cap cs) (hn : n ≤ len) : ∃ rd, aSrc h sz n (.slice a len cap) = some (cs.take (n * sz), rd) ∧ ∀ i ∈ rd, i ∈ blk a := by
  cases hS with
  | nil => exact ⟨[], by simp [aSrc], fun i hi => by cases hi⟩
  | @mk b o _ _ c _ hg ho hle hc =>
    have hg : rowOf (h.get b) = some c := by rcases hg with ⟨t, hg, _⟩ | hg <;> rw [hg] <;> rfl
    have m2 : n * sz ≤ len * sz := Nat.mul_le_mul_right _ hn
    by_cases h0 : n * sz = 0
    · refine ⟨[], ?_, fun i hi => by cases hi⟩
      simp only [aSrc, h0, if_true, List.take_zero]
    · refine ⟨[b], ?_, fun i hi => by simpa [blk] using hi⟩
      simp only [aSrc, if_neg h0, hg]
      rw [if_pos ⟨hn, by omega⟩, ← hc, List.take_take, Nat.min_eq_left m2]
/-- What is known of an append's types. -/
class AP (P : Program) (t t₂ : TypeId) (e : outParam TypeId) (sz bytes : outParam Nat) : Prop where
  u : P.underlying t = some (.slice e)
  s : sizeT P e = some sz
  i : ∃ inf z, P.info? e = some inf ∧ inf.size = sz ∧ inf.bytes = bytes ∧ inf.zero = some z ∧ 0 < sz ∧ flatB z = true ∧ z.cells.toList.length = sz
  u2 : ∃ e₂, P.underlying t₂ = some (.slice e₂)
theorem setL_end {c : List Value} {o : Nat} {l new : List Value} {m : Nat} (hm : (c.drop o).take m = l) (hlen : o + m + new.length ≤ c.length) : ((setL c (o + m) new).drop o).take (m + new.length) = l ++ new := by
  have hl : l.length = m := by subst hm; simp; omega
  unfold setL
  rw [List.append_assoc, List.drop_append_of_le_length (by simp; omega)]
  have e1 : (c.take (o + m)).drop o = l := by rw [List.drop_take, Nat.add_sub_cancel_left, hm]
  rw [e1, List.take_append, hl, List.take_of_length_le (by omega), Nat.add_sub_cancel_left, List.take_append_of_le_length (Nat.le_refl _), List.take_of_length_le (Nat.le_refl _)]
theorem aAppend_of {t t₂ e : TypeId} {sz bytes : Nat} [hA : AP P t t₂ e sz bytes] {a a' : Option Addr} {len cap n cap' : Nat} {cs new : List Value} (hS : Sv h e sz a len cap cs) (hN : Rv P h sz a' n cap' new) (h1 : len + n ≤ 1099511627776) (h2 : (len + n) * bytes ≤ 140737488355328) (hone : new.all Value.oneCell' = true) :
    ∃ v h' rd wr, aAppend P h t t₂ (.slice a len cap) (.slice a' n cap') = some (v, h', rd, wr) ∧ (∀ i ∈ wr, i ∈ blk a) ∧ (∀ i ∈ rd, i ∈ blk a ∨ i ∈ blk a') ∧ ∃ a₂ cap₂, v = .slice a₂ (len + n) cap₂ ∧ Sv h' e sz a₂ (len + n) cap₂ (cs ++ new) ∧ Keeps (blk a) h h' ∧ (∀ i ∈ blk a₂, i ∈ blk a ∨ h.n ≤ i) := by
  obtain ⟨inf, z, hi, rfl, rfl, hz, hsz, hzf, hzl⟩ := hA.i
  obtain ⟨e₂, hu2⟩ := hA.u2
  obtain ⟨rd₁, hsrc, hrd₁⟩ := aSrc_of hN
  have hnl := hN.length
  have hnew : aNew P h e inf t₂ (.slice a' n cap') = some (n, new, rd₁) := by simp [aNew, hu2, hsrc]
  simp only [aAppend, hA.u, hi, hz]
  rw [if_pos ⟨hsz, hzf, hzl⟩]
  simp only [hnew]
  cases hS with
  | nil =>
    simp only [aGrow]
    by_cases h0 : n = 0
    · subst h0
      have : new = [] := List.length_eq_zero_iff.1 (by simpa using hnl)
      subst this
      rw [if_pos rfl]
      exact ⟨_, _, _, _, rfl, (fun i hi => by cases hi), (fun i hi => .inr (hrd₁ i hi)), none, 0, rfl, .nil, ⟨Nat.le_refl _, fun i _ _ => rfl⟩, fun i hi => by cases hi⟩
    · rw [if_neg h0, if_pos ⟨by omega, by simpa using h2⟩]
      refine ⟨_, _, _, _, rfl, (fun i hi => by cases hi), (fun i hi => .inr (hrd₁ i hi)), some ⟨h.n, 0, none⟩, n, by simp, by simpa using Sv.new h new e hnl, ((Same.refl h).push _).keeps _, fun i hi => ?_⟩
      simp [blk] at hi
      omega
  | @mk b o _ _ c _ hg ho hle hc =>
    have m : len * inf.size ≤ cap * inf.size := Nat.mul_le_mul_right _ hle
    have hcl : cs.length = len * inf.size := by subst hc; simp; omega
    simp only [aGrow]
    by_cases hfit : len + n ≤ cap
    · rw [if_pos hfit]
      have m2 : (len + n) * inf.size ≤ cap * inf.size := Nat.mul_le_mul_right _ hfit
      have m3 : (len + n) * inf.size = len * inf.size + n * inf.size := Nat.add_mul _ _ _
      by_cases he : new.isEmpty = true
      · rw [if_pos he]
        have he' : new = [] := List.isEmpty_iff.1 he
        subst he'
        have hn0 : n = 0 := by
          have : n * inf.size = 0 := by simpa using hnl.symm
          rcases Nat.mul_eq_zero.1 this with h | h <;> omega
        subst hn0
        refine ⟨_, _, _, _, rfl, (fun i hi => by cases hi), (fun i hi => .inr (hrd₁ i hi)), _, _, rfl, ?_, ⟨Nat.le_refl _, fun i _ _ => rfl⟩, fun i hi => .inl hi⟩
        rw [List.append_nil]
        exact .mk hg ho hle hc
      · rw [if_neg he]
        simp only [hg]
        rw [if_pos ⟨by omega, hone⟩]
        refine ⟨_, _, _, _, rfl, (fun i hi => by simpa [blk] using hi), (fun i hi => ?_), _, _, rfl, ?_, ⟨Nat.le_refl _, fun i _ hn => AHeap.get_put_ne _ _ fun e => hn (by simp [blk, e])⟩, fun i hi => .inl hi⟩
        · rcases List.mem_cons.1 hi with rfl | hi
          · exact .inl (by simp [blk])
          · exact .inr (hrd₁ i hi)
        · refine .mk (get_put_self hg) (by rw [setL_length (by omega)]; exact ho) hfit ?_
          rw [m3, ← hnl]
          exact setL_end hc (by omega)
    · rw [if_neg hfit, if_pos ⟨h1, h2⟩]
      obtain ⟨rd₂, hold, hrd₂⟩ := aSrc_of (Rv.mk (P := P) (.inl ⟨e, hg, hA.s⟩) (by omega) hle hc)
      simp only [hold]
      have hlen2 : (cs ++ new).length = (len + n) * inf.size := by rw [List.length_append, hcl, hnl, Nat.add_mul]
      split
      · refine ⟨_, _, _, _, rfl, (fun i hi => by cases hi), (fun i hi => ?_), _, _, rfl, Sv.new h _ e hlen2, ((Same.refl h).push _).keeps _, fun i hi => ?_⟩
        · rcases List.mem_append.1 hi with hi | hi
          · exact .inr (hrd₁ i hi)
          · exact .inl (hrd₂ i hi)
        · simp [blk] at hi; omega
      · rename_i htight
        have ht : o + cap * inf.size = c.length := by
          simp [tight, hg, hA.s] at htight
          exact htight
        simp only [hg]
        rw [if_pos ⟨trivial, ht, hone, hle⟩]
        refine ⟨_, _, _, _, rfl, (fun i hi => by simpa [blk] using hi), (fun i hi => ?_), some ⟨h.n, 0, none⟩, _, rfl, ?_, ⟨Nat.le_succ _, fun i hi hn => ?_⟩, fun i hi => ?_⟩
        · rcases List.mem_cons.1 hi with rfl | hi
          · exact .inl (by simp [blk])
          · rcases List.mem_append.1 hi with hi | hi
            · exact .inr (hrd₁ i hi)
            · exact .inl (hrd₂ i hi)
        · exact Sv.new (h.put b none) _ e hlen2
        · rw [AHeap.get_push_ne _ _ (by simp; omega), AHeap.get_put_ne _ _ fun e => hn (by simp [blk, e])]
        · simp [blk] at hi; omega
/-- 'make'. -/
class MK (P : Program) (t : TypeId) (e : outParam TypeId) (bytes : outParam Nat) (z : outParam Value) : Prop where
  u : P.underlying t = some (.slice e)
  i : ∃ inf, P.info? e = some inf ∧ inf.size = 1 ∧ inf.bytes = bytes
  hz : zeroT P e = some z
  f : flatB z = true ∧ cellsL z = [z]
theorem zeros_one (z : Value) (n : Nat) : zeros [z] n = List.replicate n z := by
  induction n with
  | zero => rfl
  | succ n ih => simp [zeros, ih, List.replicate_succ]
theorem aMake_of {t e : TypeId} {bytes : Nat} {z : Value} [hM : MK P t e bytes z] {k k' : IntKind} {l c : Int} (h0 : 0 ≤ l) (h1 : l ≤ c) (h2 : c ≤ 1099511627776) (h3 : (bytes : Int) * c ≤ 281474976710656) : aMake P t (.int k l) (.int k' c) = some (l.toNat, c.toNat, .cells (List.replicate c.toNat z) e) := by
  obtain ⟨inf, hi, hs, rfl⟩ := hM.i
  have hzl : z.cells.toList = [z] := by rw [cellsL_eq]; exact hM.f.2
  simp only [aMake, hM.u, hi]
  rw [if_pos ⟨h0, h1, h2, h3⟩]
  unfold aZeros
  by_cases hc : c.toNat * inf.size = 0
  · have : c.toNat = 0 := by rw [hs] at hc; omega
    simp [this]
  · rw [if_neg hc]
    simp only [hM.hz]
    rw [if_pos ⟨hM.f.1, by rw [hzl, hs]; rfl⟩, hzl, zeros_one]
    rfl
/-- 'copy' into what is ours. -/
theorem aCopy_of {t e : TypeId} {sz : Nat} (hu : P.underlying t = some (.slice e)) (hs : sizeT P e = some sz) {a a' : Option Addr} {len cap n cap' : Nat} {cs new : List Value} {te : TypeId} (hS : Sv h te sz a len cap cs) (hN : Rv P h sz a' n cap' new) (hone : new.all Value.oneCell' = true) :
    ∃ h' rd wr, aCopy P h t (.slice a len cap) (.slice a' n cap') = some (min n len, h', rd, wr) ∧ (∀ i ∈ wr, i ∈ blk a) ∧ (∀ i ∈ rd, i ∈ blk a ∨ i ∈ blk a') ∧ Sv h' te sz a len cap (new.take (min n len * sz) ++ cs.drop (min n len * sz)) ∧ Keeps (blk a) h h' ∧ h'.n = h.n := by
  obtain ⟨rd₁, hsrc, hrd₁⟩ := aSrc_take hN (Nat.min_le_left n len)
  have hnl := hN.length
  have hm : Nat.min n len = min n len := rfl
  simp only [aCopy, hu, hs, lenV, hm, hsrc]
  have htl : (new.take (min n len * sz)).length = min n len * sz := by
    have : min n len * sz ≤ n * sz := Nat.mul_le_mul_right _ (Nat.min_le_left _ _)
    simp; omega
  cases hS with
  | nil =>
    have e0 : min n 0 = 0 := Nat.min_zero n
    simp only [e0, Nat.zero_mul, List.take_zero, List.isEmpty_nil, if_true]
    exact ⟨_, _, _, rfl, (fun i hi => by cases hi), (fun i hi => .inr (hrd₁ i hi)), .nil, ⟨Nat.le_refl _, fun i _ _ => rfl⟩, rfl⟩
  | @mk b o _ _ c _ hg ho hle hc =>
    have m1 : len * sz ≤ cap * sz := Nat.mul_le_mul_right _ hle
    have m2 : min n len * sz ≤ len * sz := Nat.mul_le_mul_right _ (Nat.min_le_right _ _)
    by_cases he : (new.take (min n len * sz)).isEmpty = true
    · simp only [he, if_true]
      have he' := List.isEmpty_iff.1 he
      have h0 : min n len * sz = 0 := by rw [← htl, he']; rfl
      refine ⟨_, _, _, rfl, (fun i hi => by cases hi), (fun i hi => .inr (hrd₁ i hi)), ?_, ⟨Nat.le_refl _, fun i _ _ => rfl⟩, rfl⟩
      rw [he', h0]
      exact .mk hg ho hle hc
    · simp only [he, if_false, hg, Bool.false_eq_true]
      rw [if_pos ⟨by omega, List.all_eq_true.2 fun x hx => List.all_eq_true.1 hone x (List.mem_of_mem_take hx)⟩]
      refine ⟨_, _, _, rfl, (fun i hi => by simpa [blk] using hi), (fun i hi => ?_), ?_, ⟨Nat.le_refl _, fun i _ hn => AHeap.get_put_ne _ _ fun e => hn (by simp [blk, e])⟩, rfl⟩
      · rcases List.mem_cons.1 hi with rfl | hi
        · exact .inl (by simp [blk])
        · exact .inr (hrd₁ i hi)
      · refine .mk (get_put_self hg) (by rw [setL_length (by omega)]; exact ho) hle ?_
        subst hc
        generalize hw : new.take (min n len * sz) = w at *
        generalize hk : min n len * sz = k at *
        unfold setL
        rw [List.append_assoc, List.drop_append_of_le_length (by simp; omega), List.drop_take, Nat.sub_self, List.take_zero, List.nil_append]
        rw [List.take_append, htl, List.take_of_length_le (by omega), List.drop_take, List.drop_drop]

theorem S.indexV {t : TypeId} {x y : Operand} {kk : IntKind} {i : Int} {sz : Nat} {a : Option Addr} {len cap : Nat} {cs : List Value} (ho : o.op = .indexAddr t x y) (hx : evO ov x = some (.slice a len cap)) (hy : evO ov y = some (.int kk i)) [he : EL P t (none, sz)] (hS : Rv P h sz a len cap cs) (h0 : 0 ≤ i) (h1 : i < (len : Int)) : ∀ tm, Rp ov tm → OpOk P o tm h ⟨(ptA a (i.toNat * sz)), h, [], [], false, true⟩ := fun tm hr => .pure fun D W => OpRun.indexAddr ho (by
    rw [evO_eq hr hx, evO_eq hr hy]
    obtain ⟨b, o, c, rfl, _⟩ := hS.some (by omega)
    exact aIndex_slice he.h h0 h1)
theorem S.fieldV {s : TypeId} {f kk kv : Nat} {x : Operand} {sz : Nat} {a : Option Addr} {len cap : Nat} {cs : List Value} (ho : o.op = .fieldAddr s x f) (hx : evO ov x = some (ptA a kv)) [hf : FO P s f kk] (hS : Rv P h sz a len cap cs) (hl : kv < cs.length) : ∀ tm, Rp ov tm → OpOk P o tm h ⟨(ptA a (kv + kk)), h, [], [], false, true⟩ := fun tm hr => .pure fun D W => OpRun.fieldAddr ho (by
    rw [evO_eq hr hx]
    have hp := hS.pos (by omega)
    obtain ⟨b, o, c, rfl, _⟩ := hS.some hp
    have := aField_of hf.h b (o + kv)
    rw [Nat.add_assoc] at this
    exact this)
theorem S.loadV {t : TypeId} {x : Operand} {kv : Nat} {v : Value} {sz : Nat} {a : Option Addr} {len cap : Nat} {cs : List Value} (ho : o.op = .load t x) (hx : evO ov x = some (ptA a kv)) [hc : CT P t none] (hS : Rv P h sz a len cap cs) (hv : cs[kv]? = some v) : ∀ tm, Rp ov tm → OpOk P o tm h ⟨v, h, (blk a), [], false, true⟩ := fun tm hr => .read fun D W hD => by
    have hl : kv < cs.length := (List.getElem?_eq_some_iff.1 hv).1
    have hlen := hS.length
    have hp := hS.pos (by omega)
    obtain ⟨b, o, c, rfl, hg, ho', hle, rfl⟩ := hS.some hp
    rw [getD_take_drop (by omega)] at hv
    exact OpRun.load ho (by rw [evO_eq hr hx]; simp [ptA, aLoad, hg, hc.h, hv]) (hD b (by simp [blk]))
theorem S.loadVN {t : TypeId} {x : Operand} {kv n : Nat} {l : List Value} {sz : Nat} {a : Option Addr} {len cap : Nat} {cs : List Value} (ho : o.op = .load t x) (hx : evO ov x = some (ptA a kv)) [hc : CT P t (some n)] (hS : Rv P h sz a len cap cs) (hl : kv + n ≤ cs.length) (hn : 0 < n) (hv : (cs.drop kv).take n = l) : ∀ tm, Rp ov tm → OpOk P o tm h ⟨(.agg l.toArray), h, (blk a), [], false, true⟩ := fun tm hr => .read fun D W hD => by
    have hlen := hS.length
    have hp := hS.pos (by omega)
    obtain ⟨b, o, c, rfl, hg, ho', hle, rfl⟩ := hS.some hp
    simp at hl
    rw [List.drop_take, List.take_take, List.drop_drop, Nat.min_eq_left (by omega)] at hv
    subst hv
    exact OpRun.load ho (by rw [evO_eq hr hx]; simp only [ptA, aLoad, hg, hc.h]; rw [if_pos (by omega)]) (hD b (by simp [blk]))
theorem S.sliceV {t : TypeId} {x : Operand} {lo hi : Option Operand} {lo' hi' : Option Value} {l r : Nat} {e : TypeId} {sz : Nat} {a : Option Addr} {len cap : Nat} {cs : List Value} (ho : o.op = .slice t x lo hi none) (hx : evO ov x = some (.slice a len cap)) (hlo : lo.map (evO ov) = lo'.map some) (hhi : hi.map (evO ov) = hi'.map some) [hu : UN P t (.slice e)] [hs : SZ P e sz] (hS : Rv P h sz a len cap cs) (hbl : bnd 0 lo' = some l) (hbr : bnd len hi' = some r) (h1 : l ≤ r) (h2 : r ≤ cap) : ∀ tm, Rp ov tm → OpOk P o tm h ⟨(.slice (subA a (l * sz)) (r - l) (cap - l)), h, [], [], false, true⟩ := fun tm hr => S.slice ho hx hlo hhi (mx' := none) rfl (aSlice_of hu.h hs.h hS hbl hbr h1 h2) tm hr
theorem S.slice3V {t : TypeId} {x ohi omx : Operand} {lo : Option Operand} {lo' : Option Value} {hi mx : Value} {l r xx : Nat} {e : TypeId} {sz : Nat} {a : Option Addr} {len cap : Nat} {cs : List Value} (ho : o.op = .slice t x lo (some ohi) (some omx)) (hx : evO ov x = some (.slice a len cap)) (hlo : lo.map (evO ov) = lo'.map some) (hhi : evO ov ohi = some hi) (hmx : evO ov omx = some mx) [hu : UN P t (.slice e)] [hs : SZ P e sz] (hS : Rv P h sz a len cap cs) (hbl : bnd 0 lo' = some l) (hbr : bnd len (some hi) = some r) (hbx : bnd cap (some mx) = some xx) (h1 : l ≤ r) (h2 : r ≤ xx) (h3 : xx ≤ cap) : ∀ tm, Rp ov tm → OpOk P o tm h ⟨(.slice (subA a (l * sz)) (r - l) (xx - l)), h, [], [], false, true⟩ := fun tm hr => S.slice ho hx hlo (hi' := some hi) (by simp [hhi]) (mx' := some mx) (by simp [hmx]) (aSlice3_of hu.h hs.h hS hbl hbr hbx h1 h2 h3) tm hr
theorem S.makeV {t e : TypeId} {bytes : Nat} {z : Value} {x y : Operand} {kd kd' : IntKind} {l c : Int} (ho : o.op = .makeSlice t x y) (hx : evO ov x = some (.int kd l)) (hy : evO ov y = some (.int kd' c)) [hM : MK P t e bytes z] (h0 : 0 ≤ l) (h1 : l ≤ c) (h2 : c ≤ 1099511627776) (h3 : (bytes : Int) * c ≤ 281474976710656) : ∀ tm, Rp ov tm → OpOk P o tm h ⟨(.slice (some ⟨h.n, 0, none⟩) l.toNat c.toNat), (h.push (.cells (List.replicate c.toNat z) e)), [], [], false, false⟩ := fun tm hr => S.makeSlice ho hx hy (aMake_of h0 h1 h2 h3) tm hr
end
section
variable {P : Program} {W : Nat → Prop} {q : Bool} {N : Nat} {k : List It} {ov : Ov} {df : List Nat} {h : AHeap} {Q : PQ} {ops : Array Oper} {os : List Oper} {o : Oper} {d : Nat} {b₀ : Bool} {tr : List (Option LE)}
theorem GoR.indexV {t : TypeId} {x y : Operand} {kk : IntKind} {i : Int} {sz : Nat} {a : Option Addr} {len cap : Nat} {cs : List Value} (ho : o.op = .indexAddr t x y) (hd : o.dst = some d) (hN : dOk d N = true) (hgd : o.guard = none) (hx : evO ov x = some (.slice a len cap)) (hy : evO ov y = some (.int kk i)) [he : EL P t (none, sz)] (hS : Rv P h sz a len cap cs) (h0 : 0 ≤ i) (h1 : i < (len : Int)) (g : GoR P W q N ops b₀ os k ((d, (ptA a (i.toNat * sz))) :: ov) df h Q) : GoR P W q N ops b₀ (o :: os) k ov df h Q := GoR.step (r := ⟨(ptA a (i.toNat * sz)), h, [], [], false, true⟩) hgd hd hN (S.indexV ho hx hy hS h0 h1) (.inr rfl) (fun i hi => by cases hi) g
theorem GoL.indexV {t : TypeId} {x y : Operand} {kk : IntKind} {i : Int} {sz : Nat} {a : Option Addr} {len cap : Nat} {cs : List Value} (ho : o.op = .indexAddr t x y) (hd : o.dst = some d) (hN : dOk d N = true) (hgd : o.guard = none) (hx : evO ov x = some (.slice a len cap)) (hy : evO ov y = some (.int kk i)) [he : EL P t (none, sz)] (hS : Rv P h sz a len cap cs) (h0 : 0 ≤ i) (h1 : i < (len : Int)) (g : GoL P W q N ops (tr ++ [none]) os k ((d, (ptA a (i.toNat * sz))) :: ov) df h Q) : GoL P W q N ops tr (o :: os) k ov df h Q := GoL.step (r := ⟨(ptA a (i.toNat * sz)), h, [], [], false, true⟩) none ⟨rfl, rfl, rfl, rfl, rfl⟩ hgd hd hN (S.indexV ho hx hy hS h0 h1) (fun i hi => by cases hi) g
theorem GoR.fieldV {s : TypeId} {f kk kv : Nat} {x : Operand} {sz : Nat} {a : Option Addr} {len cap : Nat} {cs : List Value} (ho : o.op = .fieldAddr s x f) (hd : o.dst = some d) (hN : dOk d N = true) (hgd : o.guard = none) (hx : evO ov x = some (ptA a kv)) [hf : FO P s f kk] (hS : Rv P h sz a len cap cs) (hl : kv < cs.length) (g : GoR P W q N ops b₀ os k ((d, (ptA a (kv + kk))) :: ov) df h Q) : GoR P W q N ops b₀ (o :: os) k ov df h Q := GoR.step (r := ⟨(ptA a (kv + kk)), h, [], [], false, true⟩) hgd hd hN (S.fieldV ho hx hS hl) (.inr rfl) (fun i hi => by cases hi) g
theorem GoL.fieldV {s : TypeId} {f kk kv : Nat} {x : Operand} {sz : Nat} {a : Option Addr} {len cap : Nat} {cs : List Value} (ho : o.op = .fieldAddr s x f) (hd : o.dst = some d) (hN : dOk d N = true) (hgd : o.guard = none) (hx : evO ov x = some (ptA a kv)) [hf : FO P s f kk] (hS : Rv P h sz a len cap cs) (hl : kv < cs.length) (g : GoL P W q N ops (tr ++ [none]) os k ((d, (ptA a (kv + kk))) :: ov) df h Q) : GoL P W q N ops tr (o :: os) k ov df h Q := GoL.step (r := ⟨(ptA a (kv + kk)), h, [], [], false, true⟩) none ⟨rfl, rfl, rfl, rfl, rfl⟩ hgd hd hN (S.fieldV ho hx hS hl) (fun i hi => by cases hi) g
theorem GoR.loadV {t : TypeId} {x : Operand} {kv : Nat} {v : Value} {sz : Nat} {a : Option Addr} {len cap : Nat} {cs : List Value} (ho : o.op = .load t x) (hd : o.dst = some d) (hN : dOk d N = true) (hgd : o.guard = none) (hx : evO ov x = some (ptA a kv)) [hc : CT P t none] (hS : Rv P h sz a len cap cs) (hv : cs[kv]? = some v) (g : GoR P W q N ops b₀ os k ((d, v) :: ov) df h Q) : GoR P W q N ops b₀ (o :: os) k ov df h Q := GoR.step (r := ⟨v, h, (blk a), [], false, true⟩) hgd hd hN (S.loadV ho hx hS hv) (.inr rfl) (fun i hi => by cases hi) g
theorem GoL.loadV {t : TypeId} {x : Operand} {kv : Nat} {v : Value} {sz : Nat} {a : Option Addr} {len cap : Nat} {cs : List Value} (ho : o.op = .load t x) (hd : o.dst = some d) (hN : dOk d N = true) (hgd : o.guard = none) (hx : evO ov x = some (ptA a kv)) [hc : CT P t none] (hS : Rv P h sz a len cap cs) (hv : cs[kv]? = some v) (g : GoL P W q N ops (tr ++ [(some ⟨h.n, h.n, (blk a), [], false, true⟩)]) os k ((d, v) :: ov) df h Q) : GoL P W q N ops tr (o :: os) k ov df h Q := GoL.step (r := ⟨v, h, (blk a), [], false, true⟩) (some ⟨h.n, h.n, (blk a), [], false, true⟩) ⟨rfl, rfl, rfl, rfl, rfl, rfl⟩ hgd hd hN (S.loadV ho hx hS hv) (fun i hi => by cases hi) g
theorem GoR.loadVN {t : TypeId} {x : Operand} {kv n : Nat} {l : List Value} {sz : Nat} {a : Option Addr} {len cap : Nat} {cs : List Value} (ho : o.op = .load t x) (hd : o.dst = some d) (hN : dOk d N = true) (hgd : o.guard = none) (hx : evO ov x = some (ptA a kv)) [hc : CT P t (some n)] (hS : Rv P h sz a len cap cs) (hl : kv + n ≤ cs.length) (hn : 0 < n) (hv : (cs.drop kv).take n = l) (g : GoR P W q N ops b₀ os k ((d, (.agg l.toArray)) :: ov) df h Q) : GoR P W q N ops b₀ (o :: os) k ov df h Q := GoR.step (r := ⟨(.agg l.toArray), h, (blk a), [], false, true⟩) hgd hd hN (S.loadVN ho hx hS hl hn hv) (.inr rfl) (fun i hi => by cases hi) g
theorem GoL.loadVN {t : TypeId} {x : Operand} {kv n : Nat} {l : List Value} {sz : Nat} {a : Option Addr} {len cap : Nat} {cs : List Value} (ho : o.op = .load t x) (hd : o.dst = some d) (hN : dOk d N = true) (hgd : o.guard = none) (hx : evO ov x = some (ptA a kv)) [hc : CT P t (some n)] (hS : Rv P h sz a len cap cs) (hl : kv + n ≤ cs.length) (hn : 0 < n) (hv : (cs.drop kv).take n = l) (g : GoL P W q N ops (tr ++ [(some ⟨h.n, h.n, (blk a), [], false, true⟩)]) os k ((d, (.agg l.toArray)) :: ov) df h Q) : GoL P W q N ops tr (o :: os) k ov df h Q := GoL.step (r := ⟨(.agg l.toArray), h, (blk a), [], false, true⟩) (some ⟨h.n, h.n, (blk a), [], false, true⟩) ⟨rfl, rfl, rfl, rfl, rfl, rfl⟩ hgd hd hN (S.loadVN ho hx hS hl hn hv) (fun i hi => by cases hi) g
theorem GoR.sliceV {t : TypeId} {x : Operand} {lo hi : Option Operand} {lo' hi' : Option Value} {l r : Nat} {e : TypeId} {sz : Nat} {a : Option Addr} {len cap : Nat} {cs : List Value} (ho : o.op = .slice t x lo hi none) (hd : o.dst = some d) (hN : dOk d N = true) (hgd : o.guard = none) (hx : evO ov x = some (.slice a len cap)) (hlo : lo.map (evO ov) = lo'.map some) (hhi : hi.map (evO ov) = hi'.map some) [hu : UN P t (.slice e)] [hs : SZ P e sz] (hS : Rv P h sz a len cap cs) (hbl : bnd 0 lo' = some l) (hbr : bnd len hi' = some r) (h1 : l ≤ r) (h2 : r ≤ cap) (g : GoR P W q N ops b₀ os k ((d, (.slice (subA a (l * sz)) (r - l) (cap - l))) :: ov) df h Q) : GoR P W q N ops b₀ (o :: os) k ov df h Q := GoR.step (r := ⟨(.slice (subA a (l * sz)) (r - l) (cap - l)), h, [], [], false, true⟩) hgd hd hN (S.sliceV ho hx hlo hhi hS hbl hbr h1 h2) (.inr rfl) (fun i hi => by cases hi) g
theorem GoL.sliceV {t : TypeId} {x : Operand} {lo hi : Option Operand} {lo' hi' : Option Value} {l r : Nat} {e : TypeId} {sz : Nat} {a : Option Addr} {len cap : Nat} {cs : List Value} (ho : o.op = .slice t x lo hi none) (hd : o.dst = some d) (hN : dOk d N = true) (hgd : o.guard = none) (hx : evO ov x = some (.slice a len cap)) (hlo : lo.map (evO ov) = lo'.map some) (hhi : hi.map (evO ov) = hi'.map some) [hu : UN P t (.slice e)] [hs : SZ P e sz] (hS : Rv P h sz a len cap cs) (hbl : bnd 0 lo' = some l) (hbr : bnd len hi' = some r) (h1 : l ≤ r) (h2 : r ≤ cap) (g : GoL P W q N ops (tr ++ [none]) os k ((d, (.slice (subA a (l * sz)) (r - l) (cap - l))) :: ov) df h Q) : GoL P W q N ops tr (o :: os) k ov df h Q := GoL.step (r := ⟨(.slice (subA a (l * sz)) (r - l) (cap - l)), h, [], [], false, true⟩) none ⟨rfl, rfl, rfl, rfl, rfl⟩ hgd hd hN (S.sliceV ho hx hlo hhi hS hbl hbr h1 h2) (fun i hi => by cases hi) g
theorem GoR.slice3V {t : TypeId} {x ohi omx : Operand} {lo : Option Operand} {lo' : Option Value} {hi mx : Value} {l r xx : Nat} {e : TypeId} {sz : Nat} {a : Option Addr} {len cap : Nat} {cs : List Value} (ho : o.op = .slice t x lo (some ohi) (some omx)) (hd : o.dst = some d) (hN : dOk d N = true) (hgd : o.guard = none) (hx : evO ov x = some (.slice a len cap)) (hlo : lo.map (evO ov) = lo'.map some) (hhi : evO ov ohi = some hi) (hmx : evO ov omx = some mx) [hu : UN P t (.slice e)] [hs : SZ P e sz] (hS : Rv P h sz a len cap cs) (hbl : bnd 0 lo' = some l) (hbr : bnd len (some hi) = some r) (hbx : bnd cap (some mx) = some xx) (h1 : l ≤ r) (h2 : r ≤ xx) (h3 : xx ≤ cap) (g : GoR P W q N ops b₀ os k ((d, (.slice (subA a (l * sz)) (r - l) (xx - l))) :: ov) df h Q) : GoR P W q N ops b₀ (o :: os) k ov df h Q := GoR.step (r := ⟨(.slice (subA a (l * sz)) (r - l) (xx - l)), h, [], [], false, true⟩) hgd hd hN (S.slice3V ho hx hlo hhi hmx hS hbl hbr hbx h1 h2 h3) (.inr rfl) (fun i hi => by cases hi) g
theorem GoL.slice3V {t : TypeId} {x ohi omx : Operand} {lo : Option Operand} {lo' : Option Value} {hi mx : Value} {l r xx : Nat} {e : TypeId} {sz : Nat} {a : Option Addr} {len cap : Nat} {cs : List Value} (ho : o.op = .slice t x lo (some ohi) (some omx)) (hd : o.dst = some d) (hN : dOk d N = true) (hgd : o.guard = none) (hx : evO ov x = some (.slice a len cap)) (hlo : lo.map (evO ov) = lo'.map some) (hhi : evO ov ohi = some hi) (hmx : evO ov omx = some mx) [hu : UN P t (.slice e)] [hs : SZ P e sz] (hS : Rv P h sz a len cap cs) (hbl : bnd 0 lo' = some l) (hbr : bnd len (some hi) = some r) (hbx : bnd cap (some mx) = some xx) (h1 : l ≤ r) (h2 : r ≤ xx) (h3 : xx ≤ cap) (g : GoL P W q N ops (tr ++ [none]) os k ((d, (.slice (subA a (l * sz)) (r - l) (xx - l))) :: ov) df h Q) : GoL P W q N ops tr (o :: os) k ov df h Q := GoL.step (r := ⟨(.slice (subA a (l * sz)) (r - l) (xx - l)), h, [], [], false, true⟩) none ⟨rfl, rfl, rfl, rfl, rfl⟩ hgd hd hN (S.slice3V ho hx hlo hhi hmx hS hbl hbr hbx h1 h2 h3) (fun i hi => by cases hi) g
theorem GoR.makeV {t e : TypeId} {bytes : Nat} {z : Value} {x y : Operand} {kd kd' : IntKind} {l c : Int} (ho : o.op = .makeSlice t x y) (hd : o.dst = some d) (hN : dOk d N = true) (hgd : o.guard = none) (hx : evO ov x = some (.int kd l)) (hy : evO ov y = some (.int kd' c)) [hM : MK P t e bytes z] (h0 : 0 ≤ l) (h1 : l ≤ c) (h2 : c ≤ 1099511627776) (h3 : (bytes : Int) * c ≤ 281474976710656) (g : GoR P W q N ops b₀ os k ((d, (.slice (some ⟨h.n, 0, none⟩) l.toNat c.toNat)) :: ov) df (h.push (.cells (List.replicate c.toNat z) e)) Q) : GoR P W q N ops b₀ (o :: os) k ov df h Q := GoR.step (r := ⟨(.slice (some ⟨h.n, 0, none⟩) l.toNat c.toNat), (h.push (.cells (List.replicate c.toNat z) e)), [], [], false, false⟩) hgd hd hN (S.makeV ho hx hy h0 h1 h2 h3) (.inr rfl) (fun i hi => by cases hi) g
theorem GoL.makeV {t e : TypeId} {bytes : Nat} {z : Value} {x y : Operand} {kd kd' : IntKind} {l c : Int} (ho : o.op = .makeSlice t x y) (hd : o.dst = some d) (hN : dOk d N = true) (hgd : o.guard = none) (hx : evO ov x = some (.int kd l)) (hy : evO ov y = some (.int kd' c)) [hM : MK P t e bytes z] (h0 : 0 ≤ l) (h1 : l ≤ c) (h2 : c ≤ 1099511627776) (h3 : (bytes : Int) * c ≤ 281474976710656) (g : GoL P W q N ops (tr ++ [(some ⟨h.n, (h.n + 1), [], [], false, false⟩)]) os k ((d, (.slice (some ⟨h.n, 0, none⟩) l.toNat c.toNat)) :: ov) df (h.push (.cells (List.replicate c.toNat z) e)) Q) : GoL P W q N ops tr (o :: os) k ov df h Q := GoL.step (r := ⟨(.slice (some ⟨h.n, 0, none⟩) l.toNat c.toNat), (h.push (.cells (List.replicate c.toNat z) e)), [], [], false, false⟩) (some ⟨h.n, (h.n + 1), [], [], false, false⟩) ⟨rfl, rfl, rfl, rfl, rfl, rfl⟩ hgd hd hN (S.makeV ho hx hy h0 h1 h2 h3) (fun i hi => by cases hi) g
/-- 'append' to what is ours: the rest of the region goes on with whatever it makes. -/
theorem GoR.appendV {x y : Operand} {t t₂ e : TypeId} {sz bytes : Nat} {a a' : Option Addr} {len cap n cap' : Nat} {cs new : List Value} (ho : o.op = .call ⟨.builtin .append, #[x, y], #[t, t₂]⟩) (hd : o.dst = some d) (hN : dOk d N = true) (hgd : o.guard = none) (hx : evO ov x = some (.slice a len cap)) (hy : evO ov y = some (.slice a' n cap')) [hA : AP P t t₂ e sz bytes]
    (hS : Sv h e sz a len cap cs) (hT : Rv P h sz a' n cap' new) (hw : ∀ i ∈ blk a, W i) (h1 : len + n ≤ 1099511627776) (h2 : (len + n) * bytes ≤ 140737488355328) (hone : new.all Value.oneCell' = true)
    (g : ∀ a₂ cap₂ h', Sv h' e sz a₂ (len + n) cap₂ (cs ++ new) → Keeps (blk a) h h' → (∀ i ∈ blk a₂, i ∈ blk a ∨ h.n ≤ i) → GoR P W q N ops true os k ((d, .slice a₂ (len + n) cap₂) :: ov) df h' Q) : GoR P W q N ops true (o :: os) k ov df h Q := by
  obtain ⟨v, h', rd, wr, he, hwr, hrd, a₂, cap₂, rfl, h5, h6, h7⟩ := aAppend_of (P := P) (t := t) (t₂ := t₂) hS hT h1 h2 hone
  exact GoR.append ho hd hN hgd hx hy he (fun i hi => hw i (hwr i hi)) (g a₂ cap₂ h' h5 h6 h7)
/-- The same in a region that draws its order; the writer is its last loud operation. -/
theorem GoL.appendV {x y : Operand} {t t₂ e : TypeId} {sz bytes : Nat} {a a' : Option Addr} {len cap n cap' : Nat} {cs new : List Value} (ho : o.op = .call ⟨.builtin .append, #[x, y], #[t, t₂]⟩) (hd : o.dst = some d) (hN : dOk d N = true) (hgd : o.guard = none) (hx : evO ov x = some (.slice a len cap)) (hy : evO ov y = some (.slice a' n cap')) [hA : AP P t t₂ e sz bytes]
    (hS : Sv h e sz a len cap cs) (hT : Rv P h sz a' n cap' new) (hw : ∀ i ∈ blk a, W i) (h1 : len + n ≤ 1099511627776) (h2 : (len + n) * bytes ≤ 140737488355328) (hone : new.all Value.oneCell' = true)
    (g : ∀ a₂ cap₂ h' rd wr, (∀ i ∈ wr, i ∈ blk a) → (∀ i ∈ rd, i ∈ blk a ∨ i ∈ blk a') → Sv h' e sz a₂ (len + n) cap₂ (cs ++ new) → Keeps (blk a) h h' → (∀ i ∈ blk a₂, i ∈ blk a ∨ h.n ≤ i) → GoL P W q N ops (tr ++ [some ⟨h.n, h'.n, rd, wr, false, false⟩]) os k ((d, .slice a₂ (len + n) cap₂) :: ov) df h' Q) : GoL P W q N ops tr (o :: os) k ov df h Q := by
  obtain ⟨v, h', rd, wr, he, hwr, hrd, a₂, cap₂, rfl, h5, h6, h7⟩ := aAppend_of (P := P) (t := t) (t₂ := t₂) hS hT h1 h2 hone
  exact GoL.append ho hd hN hgd hx hy he (fun i hi => hw i (hwr i hi)) (g a₂ cap₂ h' rd wr hwr hrd h5 h6 h7)
theorem GoR.copyV {x y : Operand} {t t₂ e te : TypeId} {sz : Nat} {a a' : Option Addr} {len cap n cap' : Nat} {cs new : List Value} (ho : o.op = .call ⟨.builtin .copy, #[x, y], #[t, t₂]⟩) (hd : o.dst = none) (hgd : o.guard = none) (hx : evO ov x = some (.slice a len cap)) (hy : evO ov y = some (.slice a' n cap')) [hu : UN P t (.slice e)] [hs : SZ P e sz]
    (hS : Sv h te sz a len cap cs) (hT : Rv P h sz a' n cap' new) (hw : ∀ i ∈ blk a, W i) (hone : new.all Value.oneCell' = true)
    (g : ∀ h', Sv h' te sz a len cap (new.take (min n len * sz) ++ cs.drop (min n len * sz)) → Keeps (blk a) h h' → h'.n = h.n → GoR P W q N ops true os k ov df h' Q) : GoR P W q N ops true (o :: os) k ov df h Q := by
  obtain ⟨h', rd, wr, he, hwr, hrd, h5, h6, h7⟩ := aCopy_of (P := P) (t := t) hu.h hs.h hS hT hone
  exact GoR.copy0 ho hd hgd hx hy he (fun i hi => hw i (hwr i hi)) (g h' h5 h6 h7)
theorem setL_sub {c : List Value} {o m kv : Nat} {l cs : List Value} (hc : (c.drop o).take m = cs) (hk : kv + l.length ≤ m) (ho : o + m ≤ c.length) : ((setL c (o + kv) l).drop o).take m = setL cs kv l := by
  subst hc
  unfold setL
  rw [List.append_assoc, List.drop_append_of_le_length (by simp; omega), List.drop_take, Nat.add_sub_cancel_left]
  have e1 : ((c.drop o).take kv).length = kv := by rw [List.length_take, List.length_drop]; omega
  rw [List.take_append, List.take_of_length_le (l := (c.drop o).take kv) (i := m) (by omega), e1, List.take_append, List.take_of_length_le (l := l) (i := m - kv) (by omega)]
  rw [List.take_take, Nat.min_eq_left (by omega), List.drop_take, List.drop_drop]
  simp only [List.append_assoc, Nat.sub_sub, Nat.add_assoc]
theorem GoR.storeV {t tt : TypeId} {x y : Operand} {kv n sz : Nat} {a : Option Addr} {len cap : Nat} {cs l : List Value} {v : Value} (ho : o.op = .store t x y) (hd : o.dst = none) (hgd : o.guard = none) (hx : evO ov x = some (ptA a kv)) (hy : evO ov y = some v) [hs : SZ P t n] (hl : cellsL v = l) (h1 : l.length = n) (h3 : l.all Value.oneCell' = true) (h4 : 0 < n)
    (hS : Sv h tt sz a len cap cs) (h2 : kv + n ≤ cs.length) (hw : ∀ i ∈ blk a, W i)
    (g : ∀ h', Sv h' tt sz a len cap (setL cs kv l) → Keeps (blk a) h h' → h'.n = h.n → GoR P W q N ops true os k ov df h' Q) : GoR P W q N ops true (o :: os) k ov df h Q := by
  have hlen := hS.length
  have hp := hS.pos (by omega)
  obtain ⟨b, o', c, rfl, hg, ho', hle, hc⟩ := hS.some hp
  have m : len * sz ≤ cap * sz := Nat.mul_le_mul_right _ hle
  have hx' : evO ov x = some (.pointer (some ⟨b, o' + kv, none⟩)) := hx
  refine GoR.store ho hd hgd hx' hy hg hl h1 (by omega) h3 rfl (hw b (by simp [blk])) (g _ ?_ ⟨Nat.le_refl _, fun i _ hn => AHeap.get_put_ne _ _ fun e => hn (by simp [blk, e])⟩ rfl)
  exact .mk (get_put_self hg) (by rw [setL_length (by omega)]; exact ho') hle (setL_sub hc (by omega) (by omega))
end
end Go.Proofs.Ytmelgnpogdilgaa
