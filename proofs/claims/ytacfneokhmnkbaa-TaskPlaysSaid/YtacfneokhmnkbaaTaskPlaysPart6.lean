/- What the law leans on, part 6. No conditions. -/
import Derived.Test.YtacfneokhmnkbaaProg
import Derived.KernelRfl
import Derived.Test.YtacfneokhmnkbaaTaskPlaysPart5
set_option linter.unusedVariables false
set_option linter.unusedSimpArgs false
namespace Go.Proofs.Ytacfneokhmnkbaa
instance : CT Try.prog 3 none := ⟨by kernel_rfl⟩
instance : SZ Try.prog 3 1 := ⟨by kernel_rfl⟩
theorem un3 : Try.prog.underlying 3 = some (.int .i64) := by kernel_rfl
instance : AL Try.prog 3 [.int .i64 0] := ⟨by kernel_rfl⟩
instance : CT Try.prog 4 none := ⟨by kernel_rfl⟩
instance : SZ Try.prog 4 1 := ⟨by kernel_rfl⟩
instance : CT Try.prog 5 none := ⟨by kernel_rfl⟩
theorem un5 : Try.prog.underlying 5 = some (.int .u8) := by kernel_rfl
instance : EL Try.prog 22 (none, 3) := ⟨by kernel_rfl⟩
instance : UN Try.prog 22 (.slice 26) := ⟨by kernel_rfl⟩
instance : CT Try.prog 24 none := ⟨by kernel_rfl⟩
instance : SZ Try.prog 24 1 := ⟨by kernel_rfl⟩
instance : EL Try.prog 24 (none, 4) := ⟨by kernel_rfl⟩
instance : UN Try.prog 24 (.slice 29) := ⟨by kernel_rfl⟩
instance : CT Try.prog 26 (some 3) := ⟨by kernel_rfl⟩
instance : SZ Try.prog 26 3 := ⟨by kernel_rfl⟩
instance : FO Try.prog 26 0 0 := ⟨by kernel_rfl⟩
instance : FO Try.prog 26 1 1 := ⟨by kernel_rfl⟩
instance : FO Try.prog 26 2 2 := ⟨by kernel_rfl⟩
instance : AL Try.prog 26 [.int .i64 0, .int .i64 0, .slice none 0 0] := ⟨by kernel_rfl⟩
instance : CT Try.prog 27 none := ⟨by kernel_rfl⟩
instance : SZ Try.prog 27 1 := ⟨by kernel_rfl⟩
instance : EL Try.prog 27 (none, 1) := ⟨by kernel_rfl⟩
instance : UN Try.prog 27 (.slice 3) := ⟨by kernel_rfl⟩
instance : BS Try.prog 27 3 1 (.int .i64 0) := .of (by kernel_rfl) (by kernel_rfl) (by kernel_rfl) (by kernel_rfl) (by kernel_rfl)
instance : AP Try.prog 27 27 3 1 8 := .of (inf := Try.t3) (z := .int .i64 0) (e₂ := 3) (by kernel_rfl) (by kernel_rfl) (by kernel_rfl) (by kernel_rfl) (by kernel_rfl) (by kernel_rfl) (by decide) (by kernel_rfl) (by kernel_rfl)
instance : CT Try.prog 29 (some 4) := ⟨by kernel_rfl⟩
instance : SZ Try.prog 29 4 := ⟨by kernel_rfl⟩
instance : FO Try.prog 29 0 0 := ⟨by kernel_rfl⟩
instance : FO Try.prog 29 1 1 := ⟨by kernel_rfl⟩
instance : FO Try.prog 29 2 2 := ⟨by kernel_rfl⟩
instance : FO Try.prog 29 3 3 := ⟨by kernel_rfl⟩
instance : AL Try.prog 29 [.slice none 0 0, .bool false, .int .i64 0, .int .u8 0] := ⟨by kernel_rfl⟩
instance : CT Try.prog 30 none := ⟨by kernel_rfl⟩
instance : SZ Try.prog 30 1 := ⟨by kernel_rfl⟩
instance : CT Try.prog 31 none := ⟨by kernel_rfl⟩
instance : CT Try.prog 33 none := ⟨by kernel_rfl⟩
instance : CT Try.prog 34 none := ⟨by kernel_rfl⟩
instance : SZ Try.prog 34 1 := ⟨by kernel_rfl⟩
instance : EL Try.prog 34 (none, 4) := ⟨by kernel_rfl⟩
instance : UN Try.prog 34 (.slice 46) := ⟨by kernel_rfl⟩
instance : BS Try.prog 34 46 4 (.agg #[.int .i64 0, .bool false, .bool false, .int .u64 0]) := .of (by kernel_rfl) (by kernel_rfl) (by kernel_rfl) (by kernel_rfl) (by kernel_rfl)
instance : AP Try.prog 34 34 46 4 24 := .of (inf := Try.t46) (z := .agg #[.int .i64 0, .bool false, .bool false, .int .u64 0]) (e₂ := 46) (by kernel_rfl) (by kernel_rfl) (by kernel_rfl) (by kernel_rfl) (by kernel_rfl) (by kernel_rfl) (by decide) (by kernel_rfl) (by kernel_rfl)
instance : SZ Try.prog 36 1 := ⟨by kernel_rfl⟩
instance : FO Try.prog 36 0 0 := ⟨by kernel_rfl⟩
instance : ST Try.prog 36 [.slice none 0 0] [(0, 1)] := .of (z := .agg #[.slice none 0 0]) (fs := (match Try.prog.underlying 36 with | some (.struct fs) => fs | _ => #[])) (by kernel_rfl) (by kernel_rfl) (by kernel_rfl) (by kernel_rfl) (by kernel_rfl)
instance : SZ Try.prog 38 6 := ⟨by kernel_rfl⟩
instance : FO Try.prog 38 0 0 := ⟨by kernel_rfl⟩
instance : FO Try.prog 38 1 1 := ⟨by kernel_rfl⟩
instance : FO Try.prog 38 2 2 := ⟨by kernel_rfl⟩
instance : FO Try.prog 38 3 3 := ⟨by kernel_rfl⟩
instance : FO Try.prog 38 4 4 := ⟨by kernel_rfl⟩
instance : FO Try.prog 38 5 5 := ⟨by kernel_rfl⟩
instance : ST Try.prog 38 [.pointer none, .pointer none, .slice none 0 0, .bool false, .int .i64 0, .int .i64 0] [(0, 1), (1, 1), (2, 1), (3, 1), (4, 1), (5, 1)] := .of (z := .agg #[.pointer none, .pointer none, .slice none 0 0, .bool false, .int .i64 0, .int .i64 0]) (fs := (match Try.prog.underlying 38 with | some (.struct fs) => fs | _ => #[])) (by kernel_rfl) (by kernel_rfl) (by kernel_rfl) (by kernel_rfl) (by kernel_rfl)
instance : CT Try.prog 44 none := ⟨by kernel_rfl⟩
instance : SZ Try.prog 44 1 := ⟨by kernel_rfl⟩
instance : CT Try.prog 46 (some 4) := ⟨by kernel_rfl⟩
instance : SZ Try.prog 46 4 := ⟨by kernel_rfl⟩
instance : FO Try.prog 46 0 0 := ⟨by kernel_rfl⟩
instance : FO Try.prog 46 1 1 := ⟨by kernel_rfl⟩
instance : FO Try.prog 46 2 2 := ⟨by kernel_rfl⟩
instance : FO Try.prog 46 3 3 := ⟨by kernel_rfl⟩
instance : ST Try.prog 46 [.int .i64 0, .bool false, .bool false, .int .u64 0] [(0, 1), (1, 1), (2, 1), (3, 1)] := .of (z := .agg #[.int .i64 0, .bool false, .bool false, .int .u64 0]) (fs := (match Try.prog.underlying 46 with | some (.struct fs) => fs | _ => #[])) (by kernel_rfl) (by kernel_rfl) (by kernel_rfl) (by kernel_rfl) (by kernel_rfl)
instance : AL Try.prog 46 [.int .i64 0, .bool false, .bool false, .int .u64 0] := ⟨by kernel_rfl⟩
instance : CT Try.prog 51 none := ⟨by kernel_rfl⟩
instance : SZ Try.prog 51 1 := ⟨by kernel_rfl⟩
instance : CT Try.prog 54 none := ⟨by kernel_rfl⟩
instance : CT Try.prog 111 none := ⟨by kernel_rfl⟩
instance : SZ Try.prog 111 1 := ⟨by kernel_rfl⟩
instance : EL Try.prog 111 (none, 1) := ⟨by kernel_rfl⟩
instance : UN Try.prog 111 (.slice 116) := ⟨by kernel_rfl⟩
instance : BS Try.prog 111 116 1 (.pointer none) := .of (by kernel_rfl) (by kernel_rfl) (by kernel_rfl) (by kernel_rfl) (by kernel_rfl)
instance : AP Try.prog 111 111 116 1 8 := .of (inf := Try.t116) (z := .pointer none) (e₂ := 116) (by kernel_rfl) (by kernel_rfl) (by kernel_rfl) (by kernel_rfl) (by kernel_rfl) (by kernel_rfl) (by decide) (by kernel_rfl) (by kernel_rfl)
instance : SZ Try.prog 113 1 := ⟨by kernel_rfl⟩
instance : FO Try.prog 113 0 0 := ⟨by kernel_rfl⟩
instance : ST Try.prog 113 [.slice none 0 0] [(0, 1)] := .of (z := .agg #[.slice none 0 0]) (fs := (match Try.prog.underlying 113 with | some (.struct fs) => fs | _ => #[])) (by kernel_rfl) (by kernel_rfl) (by kernel_rfl) (by kernel_rfl) (by kernel_rfl)
instance : CT Try.prog 116 none := ⟨by kernel_rfl⟩
instance : SZ Try.prog 116 1 := ⟨by kernel_rfl⟩
instance : SZ Try.prog 119 5 := ⟨by kernel_rfl⟩
instance : FO Try.prog 119 0 0 := ⟨by kernel_rfl⟩
instance : FO Try.prog 119 1 1 := ⟨by kernel_rfl⟩
instance : FO Try.prog 119 2 2 := ⟨by kernel_rfl⟩
instance : FO Try.prog 119 3 3 := ⟨by kernel_rfl⟩
instance : FO Try.prog 119 4 4 := ⟨by kernel_rfl⟩
instance : ST Try.prog 119 [.nilFunc, .int .u8 0, .bool false, .bool false, .int .u64 0] [(0, 1), (1, 1), (2, 1), (3, 1), (4, 1)] := .of (z := .agg #[.nilFunc, .int .u8 0, .bool false, .bool false, .int .u64 0]) (fs := (match Try.prog.underlying 119 with | some (.struct fs) => fs | _ => #[])) (by kernel_rfl) (by kernel_rfl) (by kernel_rfl) (by kernel_rfl) (by kernel_rfl)
instance : IC Try.prog 5 3 .i64 := .of un5 un3
theorem noGlobals : Try.prog.globals.size = 0 := by kernel_rfl
end Go.Proofs.Ytacfneokhmnkbaa
namespace Go.Proofs.Ytacfneokhmnkbaa
set_option maxRecDepth 100000
attribute [local irreducible] Go GoR GoL
theorem boolU : Try.prog.underlying 4 = some .bool := by kernel_rfl
def ints (l : List Int) : List Value := l.map (.int .i64 ·)
section
variable {α : Type} {f : α → List Value} (hf : ∀ x, (f x).length = 2)
include hf
end
theorem ints_len (l : List Int) : (ints l).length = l.length := by simp [ints]
theorem ints_get {l : List Int} {i : Nat} (hi : i < l.length) : (ints l)[i]? = some (.int .i64 l[i]) := by simp [ints, hi]
theorem ints_snoc (l : List Int) (x : Int) : ints (l ++ [x]) = ints l ++ [.int .i64 x] := by simp [ints]
theorem Same.ownO {n : Nat} {a : Option Addr} {h₀ h h' : AHeap} (s : Same h₀ h) (k : Keeps (blk a) h h') (o : Own n a) (hn : h₀.n ≤ n) : Same h₀ h' := s.own k fun i hi => Nat.le_trans hn (o i hi)
theorem Keeps.trans {wr : List Nat} {a b c : AHeap} (h : Keeps wr a b) (k : Keeps wr b c) : Keeps wr a c := ⟨Nat.le_trans h.1 k.1, fun i hi hn => (k.2 i (by have := h.1; omega) hn).trans (h.2 i hi hn)⟩
theorem Keeps.rfl (wr : List Nat) (h : AHeap) : Keeps wr h h := ⟨Nat.le_refl _, fun _ _ _ => Eq.refl _⟩
theorem Keeps.put {wr : List Nat} {h h' : AHeap} (k : Keeps wr h h') {b : Nat} (hb : b ∈ wr) (o : Option AObj) : Keeps wr h (h'.put b o) := ⟨k.1, fun i hi hn => by rw [AHeap.get_put_ne _ _ (fun e => hn (by rw [← e]; exact hb))]; exact k.2 i hi hn⟩
end Go.Proofs.Ytacfneokhmnkbaa
namespace Go.Proofs.Ytacfneokhmnkbaa
set_option maxRecDepth 100000
attribute [local irreducible] Go GoR GoL
structure TK where
  p : Nat
  fn : Value
  is : Nat
  inn : Bool
  wk : Bool
  pk : Nat
abbrev TK.cs (t : TK) : List Value := [t.fn, .int .u8 t.is, .bool t.inn, .bool t.wk, .int .u64 t.pk]
def pcs (l : List TK) : List Value := l.map fun t => .pointer (some ⟨t.p, 0, none⟩)
theorem pcs_len (l : List TK) : (pcs l).length = l.length := by simp [pcs]
theorem pcs_get {l : List TK} {i : Nat} (hi : i < l.length) : (pcs l)[i]? = some (.pointer (some ⟨l[i].p, 0, none⟩)) := by simp [pcs, hi]
theorem pcs_snoc (l : List TK) (t : TK) : pcs (l ++ [t]) = pcs l ++ [.pointer (some ⟨t.p, 0, none⟩)] := by simp [pcs]
structure SI (n0 st : Nat) (l : List TK) (la : Option Addr) (lc : Nat) (H : AHeap) : Prop where
  sb : H.get st = some (.cells [.slice la l.length lc] 113)
  sv : Sv H 116 1 la l.length lc (pcs l)
  own : Own n0 la
  lt : n0 ≤ H.n
  st : st < n0
  tk : ∀ (i : Nat) (t : TK), l[i]? = some t → H.get t.p = some (.cells t.cs 119)
  ge : ∀ t ∈ l, n0 ≤ t.p ∧ t.p ∉ blk la
  ap : ∀ (i j : Nat) (t t' : TK), l[i]? = some t → l[j]? = some t' → t.p = t'.p → i = j
theorem SI.same {n0 st : Nat} {l : List TK} {la : Option Addr} {lc : Nat} {H H' : AHeap} (I : SI n0 st l la lc H) (s : Same H H') : SI n0 st l la lc H' := ⟨s.get I.sb, I.sv.same s, I.own, Nat.le_trans I.lt s.1, I.st, fun i t ht => s.get (I.tk i t ht), I.ge, I.ap⟩
theorem SI.keeps {n0 st : Nat} {l : List TK} {la : Option Addr} {lc : Nat} {wr : List Nat} {H H' : AHeap} (I : SI n0 st l la lc H) (k : Keeps wr H H') (h1 : st ∉ wr) (h2 : ∀ i ∈ wr, i ∉ blk la) (h3 : ∀ t ∈ l, t.p ∉ wr) : SI n0 st l la lc H' := ⟨k.get I.sb h1, I.sv.keeps k (fun i hi hw => h2 i hw hi), I.own, Nat.le_trans I.lt k.1, I.st, fun i t ht => k.get (I.tk i t ht) (h3 t (List.mem_of_getElem? ht)), I.ge, I.ap⟩
theorem SI.set {n0 st : Nat} {l : List TK} {la : Option Addr} {lc : Nat} {H H' : AHeap} (I : SI n0 st l la lc H) {j : Nat} (hj : j < l.length) {t' : TK} {wr : List Nat} (k : Keeps (l[j].p :: wr) H H') (h1 : st ∉ wr) (h2 : ∀ i ∈ wr, i ∉ blk la) (h3 : ∀ t ∈ l, t.p ∉ wr) (hp : t'.p = l[j].p) (hg : H'.get t'.p = some (.cells t'.cs 119)) : SI n0 st (l.set j t') la lc H' := by
  have hm : l[j] ∈ l := List.getElem_mem hj
  have hge := I.ge _ hm
  have hst := I.st
  have hjs : l[j]? = some l[j] := List.getElem?_eq_getElem hj
  have e : pcs (l.set j t') = pcs l := by
    unfold pcs
    rw [List.map_set, hp]
    apply List.ext_getElem?
    intro i
    rw [List.getElem?_set]
    split
    · rename_i e; subst e
      simp [hj]
    · rfl
  refine ⟨?_, ?_, I.own, Nat.le_trans I.lt k.1, I.st, ?_, ?_, ?_⟩
  · rw [List.length_set]; exact k.get I.sb (by simp only [List.mem_cons, not_or]; exact ⟨by omega, h1⟩)
  · rw [e, List.length_set]; exact I.sv.keeps k (fun i hi hw => by
      rcases List.mem_cons.1 hw with rfl | hw
      · exact hge.2 hi
      · exact h2 i hw hi)
  · intro i t ht
    rw [List.getElem?_set] at ht
    split at ht
    · rename_i e; subst e
      simp only [hj, if_true, Option.some.injEq] at ht
      subst ht
      exact hg
    · rename_i hne
      refine k.get (I.tk i t ht) ?_
      simp only [List.mem_cons, not_or]
      exact ⟨fun e => hne (I.ap _ _ _ _ ht hjs e).symm, h3 t (List.mem_of_getElem? ht)⟩
  · intro t ht
    rcases List.mem_or_eq_of_mem_set ht with ht | rfl
    · exact I.ge t ht
    · rw [hp]; exact hge
  · have h : ∀ (i : Nat) (t : TK), (l.set j t')[i]? = some t → ∃ u, l[i]? = some u ∧ u.p = t.p := by
      intro i t ht
      rw [List.getElem?_set] at ht
      split at ht
      · rename_i e; subst e
        simp only [hj, if_true, Option.some.injEq] at ht
        subst ht
        exact ⟨_, hjs, hp.symm⟩
      · exact ⟨t, ht, rfl⟩
    intro i j' t u ht hu e
    obtain ⟨a, ha, ea⟩ := h i t ht
    obtain ⟨b, hb, eb⟩ := h j' u hu
    exact I.ap _ _ _ _ ha hb (by rw [ea, eb, e])
theorem SI.snoc {n0 st : Nat} {l : List TK} {la la' : Option Addr} {lc lc' : Nat} {H H' : AHeap} (I : SI n0 st l la lc H) {t' : TK} (k : Keeps (st :: blk la) H H') (hb : H'.get st = some (.cells [.slice la' (l.length + 1) lc'] 113)) (hs : Sv H' 116 1 la' (l.length + 1) lc' (pcs l ++ [.pointer (some ⟨t'.p, 0, none⟩)])) (hn : H.n ≤ t'.p) (hg : H'.get t'.p = some (.cells t'.cs 119)) (ho : ∀ i ∈ blk la', i ∈ blk la ∨ H.n ≤ i) (hno : t'.p ∉ blk la') : SI n0 st (l ++ [t']) la' lc' H' := by
  have hlt := I.lt
  have hst := I.st
  have hsl := I.sv.lt
  refine ⟨?_, ?_, ?_, Nat.le_trans I.lt k.1, I.st, ?_, ?_, ?_⟩
  · rw [List.length_append]; exact hb
  · rw [pcs_snoc, List.length_append]; exact hs
  · intro i hi
    rcases ho i hi with h | h
    · exact I.own i h
    · omega
  · intro i t ht
    rcases Nat.lt_or_ge i l.length with q | q
    · rw [List.getElem?_append_left q] at ht
      have hm := List.mem_of_getElem? ht
      have hge := I.ge t hm
      refine k.get (I.tk i t ht) ?_
      simp only [List.mem_cons, not_or]
      exact ⟨by omega, hge.2⟩
    · rw [List.getElem?_append_right q] at ht
      obtain rfl : t' = t := by
        cases hq : i - l.length with
        | zero => rw [hq] at ht; simpa using ht
        | succ n => rw [hq] at ht; simp at ht
      exact hg
  · intro t ht
    rcases List.mem_append.1 ht with ht | ht
    · have hge := I.ge t ht
      obtain ⟨i, hi, hit⟩ := List.mem_iff_getElem.1 ht
      have hl := AHeap.lt (I.tk i t (by rw [List.getElem?_eq_getElem hi, hit]))
      refine ⟨hge.1, fun h => ?_⟩
      rcases ho _ h with h | h
      · exact hge.2 h
      · omega
    · obtain rfl := List.mem_singleton.1 ht
      exact ⟨by omega, hno⟩
  · have h1 : ∀ (i : Nat) (t : TK), (l ++ [t'])[i]? = some t → (i < l.length ∧ l[i]? = some t ∧ t.p < H.n) ∨ (i = l.length ∧ t = t') := by
      intro i t ht
      rcases Nat.lt_or_ge i l.length with q | q
      · rw [List.getElem?_append_left q] at ht
        exact .inl ⟨q, ht, AHeap.lt (I.tk i t ht)⟩
      · rw [List.getElem?_append_right q] at ht
        cases hq : i - l.length with
        | zero => rw [hq] at ht; exact .inr ⟨by omega, by simpa using ht.symm⟩
        | succ n => rw [hq] at ht; simp at ht
    intro i j t u ht hu e
    rcases h1 i t ht with ⟨a1, a2, a3⟩ | ⟨a1, rfl⟩ <;> rcases h1 j u hu with ⟨b1, b2, b3⟩ | ⟨b1, rfl⟩
    · exact I.ap _ _ _ _ a2 b2 e
    · omega
    · omega
    · omega
def idx (p : TK → Bool) : List TK → Nat → List Int
  | [], _ => []
  | t :: l, i => (if p t = true then [(i : Int)] else []) ++ idx p l (i + 1)
theorem idx_snoc (p : TK → Bool) (t : TK) : ∀ (l : List TK) (i : Nat), idx p (l ++ [t]) i = idx p l i ++ (if p t = true then [((i + l.length : Nat) : Int)] else [])
  | [], i => by simp [idx]
  | a :: l, i => by
    simp only [List.cons_append, idx, idx_snoc p t l (i + 1), List.append_assoc, List.length_cons]
    rw [show i + 1 + l.length = i + (l.length + 1) from by omega]
theorem idx_mem {p : TK → Bool} : ∀ {l : List TK} {i : Nat} {x : Int}, x ∈ idx p l i → ∃ j, x = ((i + j : Nat) : Int) ∧ ∃ h : j < l.length, p l[j] = true
  | [], i, x, h => by simp [idx] at h
  | a :: l, i, x, h => by
    simp only [idx, List.mem_append] at h
    rcases h with h | h
    · split at h
      · rename_i hp
        exact ⟨0, by simpa using h, by simp, hp⟩
      · simp at h
    · obtain ⟨j, e, h1, h2⟩ := idx_mem h
      exact ⟨j + 1, by rw [e]; omega, by simp only [List.length_cons]; omega, h2⟩
theorem idx_le (p : TK → Bool) : ∀ (l : List TK) (i : Nat), (idx p l i).length ≤ l.length
  | [], i => by simp [idx]
  | a :: l, i => by
    have := idx_le p l (i + 1)
    simp only [idx, List.length_append, List.length_cons]
    split <;> simp <;> omega
theorem aEq_some {P : Program} {h : AHeap} {t e : TypeId} (hu : P.underlying t = some (.pointer e)) (a : Addr) : aEq P h t (.pointer (some a)) (.pointer none) = some (false, []) := by
  unfold aEq
  rw [hu]
theorem schedU : Try.prog.underlying 31 = some (.pointer 113) := by kernel_rfl
theorem oneU : Try.prog.underlying 116 = some (.pointer 119) := by kernel_rfl
def runB (t : TK) : Bool := decide (t.is = 1) && !t.inn
def waitB (t : TK) : Bool := decide (t.is = 2)
theorem run1_spec (t : TK) (h : AHeap) (g : h.get t.p = some (.cells t.cs 119)) : CallS Try.prog [] 69 [.pointer (some ⟨t.p, 0, none⟩)] h fun v h' => v = .bool (runB t) ∧ h' = h := by
  unfold TK.cs at g
  (refine CallS.of1 Try.func69 rfl Try.ntmps69 Try.results69 rfl ?_)
  by_cases c1 : t.is = 1
  · have c1' : (t.is : Int) = 1 := by omega
    (refine Go.run (g:=?_))
    (first|refine Go.finT (by first|exact .inr rfl|exact .inl rfl) rfl ?_|refine Go.fin1 (by first|exact .inr rfl|exact .inl rfl) rfl (hq:=?_))
    exact ⟨by simp [retV, runB, c1, c1'], rfl⟩
  · have c1' : ¬ (t.is : Int) = 1 := by omega
    (refine Go.run (g:=?_))
    (first|refine Go.finT (by first|exact .inr rfl|exact .inl rfl) rfl ?_|refine Go.fin1 (by first|exact .inr rfl|exact .inl rfl) rfl (hq:=?_))
    exact ⟨by simp [retV, runB, c1, c1'], rfl⟩
theorem wait1_spec (t : TK) (h : AHeap) (g : h.get t.p = some (.cells t.cs 119)) : CallS Try.prog [] 70 [.pointer (some ⟨t.p, 0, none⟩)] h fun v h' => v = .bool (waitB t) ∧ h' = h := by
  unfold TK.cs at g
  (refine CallS.of1 Try.func70 rfl Try.ntmps70 Try.results70 rfl ?_)
  by_cases c1 : t.is = 2
  · have c1' : (t.is : Int) = 2 := by omega
    (refine Go.run (g:=?_))
    (first|refine Go.finT (by first|exact .inr rfl|exact .inl rfl) rfl ?_|refine Go.fin1 (by first|exact .inr rfl|exact .inl rfl) rfl (hq:=?_))
    exact ⟨by simp [retV, waitB, c1, c1'], rfl⟩
  · have c1' : ¬ (t.is : Int) = 2 := by omega
    (refine Go.run (g:=?_))
    (first|refine Go.finT (by first|exact .inr rfl|exact .inl rfl) rfl ?_|refine Go.fin1 (by first|exact .inr rfl|exact .inl rfl) rfl (hq:=?_))
    exact ⟨by simp [retV, waitB, c1, c1'], rfl⟩
theorem take_snoc' {α : Type} {l : List α} {i : Nat} (hi : i < l.length) : l.take (i + 1) = l.take i ++ [l[i]] := by rw [List.take_add_one, List.getElem?_eq_getElem hi]; rfl
set_option maxHeartbeats 2000000 in
theorem thoseR_spec (n0 st : Nat) (l : List TK) (hl : l.length ≤ 1000000) (la : Option Addr) (lc : Nat) (h : AHeap) (I : SI n0 st l la lc h) : CallS Try.prog [] 68 [.pointer (some ⟨st, 0, none⟩), .func (.func 69) #[] #[]] h fun v h' => ∃ b c, v = .slice b (idx runB l 0).length c ∧ Sv h' 3 1 b (idx runB l 0).length c (ints (idx runB l 0)) ∧ Own h.n b := by
  have gb := I.sb
  obtain ⟨pp, hpp⟩ : ∃ pp, pp = runB := ⟨_, rfl⟩
  have cl_spec := run1_spec
  rw [← hpp] at cl_spec ⊢
  clear hpp
  (refine CallS.of2 Try.func68 rfl Try.ntmps68 Try.results68 rfl ?_)
  (refine Go.run (g:=?_))
  refine GoR.eqRef rfl rfl rfl rfl (.inl rfl) rfl rfl (aEq_some schedU _) ?_
  (refine Go.run (g:=?_))
  refine Go.loop (α := Nat × Option Addr × Nat × AHeap) (fun x => [(15, .int .i64 x.1), (14, .int .i64 l.length), (13, .slice la l.length lc), (5, .slice x.2.1 (idx pp (l.take x.1) 0).length x.2.2.1), (1, .func (.func 69) #[] #[]), (0, .pointer (some ⟨st, 0, none⟩))]) (fun _ => []) (fun x => x.2.2.2) (fun x => x.1 ≤ l.length ∧ Same h x.2.2.2 ∧ Sv x.2.2.2 3 1 x.2.1 (idx pp (l.take x.1) 0).length x.2.2.1 (ints (idx pp (l.take x.1) 0)) ∧ Own h.n x.2.1) (fun x => l.length - x.1) (0, none, 0, h) ?_ ?_ rfl rfl ?_
  · exact ⟨Nat.zero_le _, Same.refl _, .nil, Own.nil _⟩
  · exact ⟨rfl, rfl, rfl, rfl, rfl, rfl, trivial⟩
  rintro ⟨i, b, c, h2⟩ ⟨hi, s2, hb, ob⟩
  simp only at hi s2 hb ob ⊢
  have m2 := s2.1
  have I2 := I.same s2
  have gb2 := I2.sb
  have hz2 := I2.sv.rv (P := Try.prog)
  rcases Nat.lt_or_ge i l.length with i0 | i0
  · have c0 := pcs_get i0
    have hbe : i < (pcs l).length := by rw [pcs_len]; exact i0
    have hti : l[i]? = some l[i] := List.getElem?_eq_getElem i0
    have e1 : idx pp (l.take (i + 1)) 0 = idx pp (l.take i) 0 ++ (if pp l[i] = true then [(i : Int)] else []) := by
      rw [take_snoc' i0, idx_snoc, List.length_take, Nat.min_eq_left (by omega), Nat.zero_add]
    have hfl : (idx pp (l.take i) 0).length ≤ i := Nat.le_trans (idx_le _ _ _) (by simp; omega)
    generalize l[i] = t at *
    generalize idx pp (l.take i) 0 = out at *
    have gt := I2.tk i t hti
    (refine Go.run (g:=?_))
    refine GoR.call rfl rfl rfl rfl rfl rfl rfl (((cl_spec t _ gt).argA).mono ?_)
    rintro _ h3 ⟨rfl, rfl⟩ s3
    cases hp : pp t
    · rw [hp] at e1
      simp only [Bool.false_eq_true, if_false, List.append_nil] at e1
      (refine Go.run (g:=?_))
      exact Go.again (i + 1, b, c, h3) ⟨by simp only; omega, s2, by simp only; rw [e1]; exact hb, ob⟩ (by simp only; omega) ⟨rfl, rfl, rfl, by simp only; rw [e1]; rfl, rfl, rfl, trivial⟩ rfl rfl
    · rw [hp] at e1
      simp only [if_true] at e1
      (refine Go.run (g:=?_))
      refine GoR.buildRo (c := [.int .i64 i]) rfl rfl rfl rfl rfl (by decide) (by rfl) (by rfl) ?_
      intro b8 h8 hb8 rb8 ob8 s8 n8
      refine GoR.appendV rfl rfl rfl rfl rfl rfl (hb.same s8) hb8 (Own.ok ob (by omega)) (by omega) (by omega) (by rfl) ?_
      intro b9 c9 h9 hs9 k9 o9
      have m9 := k9.1
      have hs9' : Sv h9 3 1 b9 (out ++ [(i : Int)]).length c9 (ints (out ++ [(i : Int)])) := by rw [ints_snoc, List.length_append]; exact hs9
      (refine Go.run (g:=?_))
      refine Go.again (i + 1, b9, c9, h9) ⟨by simp only; omega, (s2.trans s8).ownO k9 ob (Nat.le_refl _), by simp only; rw [e1]; exact hs9', ?_⟩ (by simp only; omega) ⟨rfl, rfl, rfl, by simp only; rw [e1, List.length_append]; rfl, rfl, rfl, trivial⟩ rfl rfl
      intro j hj
      rcases o9 j hj with x | x
      · exact ob j x
      · omega
  · (refine Go.run (g:=?_))
    (first|refine Go.finT (by first|exact .inr rfl|exact .inl rfl) rfl ?_|refine Go.fin1 (by first|exact .inr rfl|exact .inl rfl) rfl (hq:=?_))
    rw [List.take_of_length_le i0] at hb
    exact ⟨b, c, by simp only [List.take_of_length_le i0]; rfl, hb, ob⟩
set_option maxHeartbeats 2000000 in
theorem thoseW_spec (n0 st : Nat) (l : List TK) (hl : l.length ≤ 1000000) (la : Option Addr) (lc : Nat) (h : AHeap) (I : SI n0 st l la lc h) : CallS Try.prog [] 68 [.pointer (some ⟨st, 0, none⟩), .func (.func 70) #[] #[]] h fun v h' => ∃ b c, v = .slice b (idx waitB l 0).length c ∧ Sv h' 3 1 b (idx waitB l 0).length c (ints (idx waitB l 0)) ∧ Own h.n b := by
  have gb := I.sb
  obtain ⟨pp, hpp⟩ : ∃ pp, pp = waitB := ⟨_, rfl⟩
  have cl_spec := wait1_spec
  rw [← hpp] at cl_spec ⊢
  clear hpp
  (refine CallS.of2 Try.func68 rfl Try.ntmps68 Try.results68 rfl ?_)
  (refine Go.run (g:=?_))
  refine GoR.eqRef rfl rfl rfl rfl (.inl rfl) rfl rfl (aEq_some schedU _) ?_
  (refine Go.run (g:=?_))
  refine Go.loop (α := Nat × Option Addr × Nat × AHeap) (fun x => [(15, .int .i64 x.1), (14, .int .i64 l.length), (13, .slice la l.length lc), (5, .slice x.2.1 (idx pp (l.take x.1) 0).length x.2.2.1), (1, .func (.func 70) #[] #[]), (0, .pointer (some ⟨st, 0, none⟩))]) (fun _ => []) (fun x => x.2.2.2) (fun x => x.1 ≤ l.length ∧ Same h x.2.2.2 ∧ Sv x.2.2.2 3 1 x.2.1 (idx pp (l.take x.1) 0).length x.2.2.1 (ints (idx pp (l.take x.1) 0)) ∧ Own h.n x.2.1) (fun x => l.length - x.1) (0, none, 0, h) ?_ ?_ rfl rfl ?_
  · exact ⟨Nat.zero_le _, Same.refl _, .nil, Own.nil _⟩
  · exact ⟨rfl, rfl, rfl, rfl, rfl, rfl, trivial⟩
  rintro ⟨i, b, c, h2⟩ ⟨hi, s2, hb, ob⟩
  simp only at hi s2 hb ob ⊢
  have m2 := s2.1
  have I2 := I.same s2
  have gb2 := I2.sb
  have hz2 := I2.sv.rv (P := Try.prog)
  rcases Nat.lt_or_ge i l.length with i0 | i0
  · have c0 := pcs_get i0
    have hbe : i < (pcs l).length := by rw [pcs_len]; exact i0
    have hti : l[i]? = some l[i] := List.getElem?_eq_getElem i0
    have e1 : idx pp (l.take (i + 1)) 0 = idx pp (l.take i) 0 ++ (if pp l[i] = true then [(i : Int)] else []) := by
      rw [take_snoc' i0, idx_snoc, List.length_take, Nat.min_eq_left (by omega), Nat.zero_add]
    have hfl : (idx pp (l.take i) 0).length ≤ i := Nat.le_trans (idx_le _ _ _) (by simp; omega)
    generalize l[i] = t at *
    generalize idx pp (l.take i) 0 = out at *
    have gt := I2.tk i t hti
    (refine Go.run (g:=?_))
    refine GoR.call rfl rfl rfl rfl rfl rfl rfl (((cl_spec t _ gt).argA).mono ?_)
    rintro _ h3 ⟨rfl, rfl⟩ s3
    cases hp : pp t
    · rw [hp] at e1
      simp only [Bool.false_eq_true, if_false, List.append_nil] at e1
      (refine Go.run (g:=?_))
      exact Go.again (i + 1, b, c, h3) ⟨by simp only; omega, s2, by simp only; rw [e1]; exact hb, ob⟩ (by simp only; omega) ⟨rfl, rfl, rfl, by simp only; rw [e1]; rfl, rfl, rfl, trivial⟩ rfl rfl
    · rw [hp] at e1
      simp only [if_true] at e1
      (refine Go.run (g:=?_))
      refine GoR.buildRo (c := [.int .i64 i]) rfl rfl rfl rfl rfl (by decide) (by rfl) (by rfl) ?_
      intro b8 h8 hb8 rb8 ob8 s8 n8
      refine GoR.appendV rfl rfl rfl rfl rfl rfl (hb.same s8) hb8 (Own.ok ob (by omega)) (by omega) (by omega) (by rfl) ?_
      intro b9 c9 h9 hs9 k9 o9
      have m9 := k9.1
      have hs9' : Sv h9 3 1 b9 (out ++ [(i : Int)]).length c9 (ints (out ++ [(i : Int)])) := by rw [ints_snoc, List.length_append]; exact hs9
      (refine Go.run (g:=?_))
      refine Go.again (i + 1, b9, c9, h9) ⟨by simp only; omega, (s2.trans s8).ownO k9 ob (Nat.le_refl _), by simp only; rw [e1]; exact hs9', ?_⟩ (by simp only; omega) ⟨rfl, rfl, rfl, by simp only; rw [e1, List.length_append]; rfl, rfl, rfl, trivial⟩ rfl rfl
      intro j hj
      rcases o9 j hj with x | x
      · exact ob j x
      · omega
  · (refine Go.run (g:=?_))
    (first|refine Go.finT (by first|exact .inr rfl|exact .inl rfl) rfl ?_|refine Go.fin1 (by first|exact .inr rfl|exact .inl rfl) rfl (hq:=?_))
    rw [List.take_of_length_le i0] at hb
    exact ⟨b, c, by simp only [List.take_of_length_le i0]; rfl, hb, ob⟩
theorem runnable_spec (n0 st : Nat) (l : List TK) (hl : l.length ≤ 1000000) (la : Option Addr) (lc : Nat) (h : AHeap) (I : SI n0 st l la lc h) : CallS Try.prog [] 20 [.pointer (some ⟨st, 0, none⟩)] h fun v h' => ∃ b c, v = .slice b (idx runB l 0).length c ∧ Sv h' 3 1 b (idx runB l 0).length c (ints (idx runB l 0)) ∧ Own h.n b := by
  (refine CallS.of1 Try.func20 rfl Try.ntmps20 Try.results20 rfl ?_)
  (refine Go.run (g:=?_))
  refine GoR.call rfl rfl rfl rfl rfl rfl rfl (((thoseR_spec n0 st l hl la lc _ I).argA).mono ?_)
  rintro _ h3 ⟨b, c, rfl, hs, ob⟩ s3
  (refine Go.run (g:=?_))
  (first|refine Go.finT (by first|exact .inr rfl|exact .inl rfl) rfl ?_|refine Go.fin1 (by first|exact .inr rfl|exact .inl rfl) rfl (hq:=?_))
  exact ⟨b, c, rfl, hs, ob⟩
theorem waiting_spec (n0 st : Nat) (l : List TK) (hl : l.length ≤ 1000000) (la : Option Addr) (lc : Nat) (h : AHeap) (I : SI n0 st l la lc h) : CallS Try.prog [] 22 [.pointer (some ⟨st, 0, none⟩)] h fun v h' => ∃ b c, v = .slice b (idx waitB l 0).length c ∧ Sv h' 3 1 b (idx waitB l 0).length c (ints (idx waitB l 0)) ∧ Own h.n b := by
  (refine CallS.of1 Try.func22 rfl Try.ntmps22 Try.results22 rfl ?_)
  (refine Go.run (g:=?_))
  refine GoR.call rfl rfl rfl rfl rfl rfl rfl (((thoseW_spec n0 st l hl la lc _ I).argA).mono ?_)
  rintro _ h3 ⟨b, c, rfl, hs, ob⟩ s3
  (refine Go.run (g:=?_))
  (first|refine Go.finT (by first|exact .inr rfl|exact .inl rfl) rfl ?_|refine Go.fin1 (by first|exact .inr rfl|exact .inl rfl) rfl (hq:=?_))
  exact ⟨b, c, rfl, hs, ob⟩
theorem find_in (n0 st : Nat) (l : List TK) (hl : l.length ≤ 1000000) (la : Option Addr) (lc : Nat) (h : AHeap) (I : SI n0 st l la lc h) (n : Nat) (hn : n < l.length) : CallS Try.prog [] 67 [.pointer (some ⟨st, 0, none⟩), .int .i64 n] h fun v h' => v = .pointer (some ⟨l[n].p, 0, none⟩) ∧ h' = h := by
  have gb := I.sb
  have hz2 := I.sv.rv (P := Try.prog)
  have c0 := pcs_get hn
  have hbe : n < (pcs l).length := by rw [pcs_len]; exact hn
  (refine CallS.of2 Try.func67 rfl Try.ntmps67 Try.results67 rfl ?_)
  have n1 : ¬ (n : Int) < 0 := by omega
  have n2 : ¬ (l.length : Int) ≤ n := by omega
  (refine Go.run (g:=?_))
  refine GoR.eqRef rfl rfl rfl rfl (.inl rfl) rfl rfl (aEq_some schedU _) ?_
  (refine Go.run (g:=?_))
  (first|refine Go.finT (by first|exact .inr rfl|exact .inl rfl) rfl ?_|refine Go.fin1 (by first|exact .inr rfl|exact .inl rfl) rfl (hq:=?_))
  exact ⟨rfl, rfl⟩
theorem done_in (n0 st : Nat) (l : List TK) (hl : l.length ≤ 1000000) (la : Option Addr) (lc : Nat) (h : AHeap) (I : SI n0 st l la lc h) (n : Nat) (hn : n < l.length) : CallS Try.prog [] 24 [.pointer (some ⟨st, 0, none⟩), .int .i64 n] h fun v h' => v = .bool (decide (l[n].is = 3)) ∧ h' = h := by
  (refine CallS.of2 Try.func24 rfl Try.ntmps24 Try.results24 rfl ?_)
  (refine Go.run (g:=?_))
  refine GoR.call rfl rfl rfl rfl rfl rfl rfl (((find_in n0 st l hl la lc _ I n hn).argA).mono ?_)
  rintro _ h3 ⟨rfl, rfl⟩ -
  have gt := I.tk n _ (List.getElem?_eq_getElem hn)
  generalize l[n] = t at *
  unfold TK.cs at gt
  (refine Go.run (g:=?_))
  refine GoR.eqRef rfl rfl rfl rfl (.inr rfl) rfl rfl (aEq_some oneU _) ?_
  by_cases c1 : t.is = 3
  · have c1' : (t.is : Int) = 3 := by omega
    (refine Go.run (g:=?_))
    (first|refine Go.finT (by first|exact .inr rfl|exact .inl rfl) rfl ?_|refine Go.fin1 (by first|exact .inr rfl|exact .inl rfl) rfl (hq:=?_))
    exact ⟨by simp [retV, c1, c1'], rfl⟩
  · have c1' : ¬ (t.is : Int) = 3 := by omega
    (refine Go.run (g:=?_))
    (first|refine Go.finT (by first|exact .inr rfl|exact .inl rfl) rfl ?_|refine Go.fin1 (by first|exact .inr rfl|exact .inl rfl) rfl (hq:=?_))
    exact ⟨by simp [retV, c1, c1'], rfl⟩
theorem picks_in (n0 st : Nat) (l : List TK) (hl : l.length ≤ 1000000) (la : Option Addr) (lc : Nat) (h : AHeap) (I : SI n0 st l la lc h) (n : Nat) (hn : n < l.length) : CallS Try.prog [] 25 [.pointer (some ⟨st, 0, none⟩), .int .i64 n] h fun v h' => v = .int .u64 l[n].pk ∧ h' = h := by
  (refine CallS.of2 Try.func25 rfl Try.ntmps25 Try.results25 rfl ?_)
  (refine Go.run (g:=?_))
  refine GoR.call rfl rfl rfl rfl rfl rfl rfl (((find_in n0 st l hl la lc _ I n hn).argA).mono ?_)
  rintro _ h3 ⟨rfl, rfl⟩ -
  have gt := I.tk n _ (List.getElem?_eq_getElem hn)
  generalize l[n] = t at *
  unfold TK.cs at gt
  (refine Go.run (g:=?_))
  refine GoR.eqRef rfl rfl rfl rfl (.inl rfl) rfl rfl (aEq_some oneU _) ?_
  (refine Go.run (g:=?_))
  (first|refine Go.finT (by first|exact .inr rfl|exact .inl rfl) rfl ?_|refine Go.fin1 (by first|exact .inr rfl|exact .inl rfl) rfl (hq:=?_))
  exact ⟨rfl, rfl⟩
set_option maxHeartbeats 2000000 in
theorem spawn_spec (n0 st : Nat) (l : List TK) (hl : l.length ≤ 1000000) (la : Option Addr) (lc : Nat) (h : AHeap) (I : SI n0 st l la lc h) (F : FuncId) (cp : Array Value) : CallS Try.prog (st :: blk la) 26 [.pointer (some ⟨st, 0, none⟩), .func (.func F) #[] cp] h fun v h' => v = .int .i64 l.length ∧ ∃ la' lc' p, SI n0 st (l ++ [⟨p, .func (.func F) #[] cp, 1, false, false, 0⟩]) la' lc' h' ∧ h.n ≤ p ∧ (∀ i ∈ blk la', i ∈ blk la ∨ h.n ≤ i) := by
  have gb := I.sb
  have hlt := I.lt
  have hst := I.st
  have hsl := I.sv.lt
  (refine CallS.of2 Try.func26 rfl Try.ntmps26 Try.results26 rfl ?_)
  (refine Go.run (g:=?_))
  refine GoR.eqRef rfl rfl rfl rfl (.inl rfl) rfl rfl (aEq_some schedU _) ?_
  (refine Go.run (g:=?_))
  refine GoR.name ?_
  intro h3 e3
  have g3 : h3.get h.n = some (.cells [.func (.func F) #[] cp, .int .u8 1, .bool false, .bool false, .int .u64 0] 119) := by subst e3; exact AHeap.get_push_same h _
  have s3 : Same h h3 := by subst e3; exact (Same.refl h).push _
  have n3 : h3.n = h.n + 1 := by subst e3; rfl
  clear e3
  refine GoR.buildRo (c := [.pointer (some ⟨h.n, 0, none⟩)]) rfl rfl rfl rfl rfl (by decide) (by rfl) (by rfl) ?_
  intro b8 h8 hb8 rb8 ob8 s8 n8
  have I8 := I.same (s3.trans s8)
  refine GoR.appendV rfl rfl rfl rfl rfl rfl I8.sv hb8 (fun i hi => .inl (List.mem_cons_of_mem _ hi)) (by omega) (by omega) (by rfl) ?_
  intro b9 c9 h9 hs9 k9 o9
  have m9 := k9.1
  have stl : st ∉ blk la := fun hi => by have := I.own _ hi; omega
  have gs9 := k9.get I8.sb stl
  have gn9 := k9.get (s8.get g3) (fun hi => by have := hsl _ hi; omega)
  have hno : h.n ∉ blk b9 := fun hi => by
    rcases o9 _ hi with x | x
    · have := hsl _ x; omega
    · omega
  (iterate 2 (first|refine GoR.end ?_|(refine GoR.gd rfl ?_;first|refine GoR.wanted' rfl rfl rfl rfl (g:=?_)|refine GoR.unwanted' rfl rfl rfl rfl (hd:=rfl) (hN:=rfl) (g:=?_)|refine GoR.unwantedU rfl rfl rfl rfl rfl rfl ?_)|(refine GoR.kk 0 rfl ?_;first|refine GoR.move rfl rfl rfl rfl rfl ?_|refine GoR.assign rfl rfl rfl rfl rfl ?_)|(refine GoR.kk 1 rfl ?_;first|refine GoR.load' rfl rfl rfl rfl rfl (g:=?_)|refine GoR.loadA' rfl rfl rfl rfl rfl (hv:=rfl) (g:=?_)|refine GoR.loadV' rfl rfl rfl rfl rfl (g:=?_)|refine GoR.loadVN' rfl rfl rfl rfl rfl (g:=?_))|(refine GoR.kk 2 rfl ?_;first|refine GoR.store' rfl rfl rfl rfl rfl (hl:=rfl) (h1:=rfl) (h3:=rfl) (g:=?_))|(refine GoR.kk 3 rfl ?_;first|refine GoR.fieldAddr rfl rfl rfl rfl rfl ?_|refine GoR.indexN' rfl rfl rfl rfl rfl rfl (g:=?_)|refine GoR.indexNs' rfl rfl rfl rfl rfl rfl (g:=?_)|refine GoR.indexV' rfl rfl rfl rfl rfl rfl (g:=?_)|refine GoR.indexA' rfl rfl rfl rfl rfl rfl (g:=?_)|refine GoR.fieldV' rfl rfl rfl rfl rfl (g:=?_))|(refine GoR.kk 4 rfl ?_;first|refine GoR.eq rfl rfl rfl rfl rfl rfl ?_|refine GoR.ne rfl rfl rfl rfl rfl rfl ?_|refine GoR.lt rfl rfl rfl rfl rfl rfl ?_|refine GoR.le rfl rfl rfl rfl rfl rfl ?_|refine GoR.gt rfl rfl rfl rfl rfl rfl ?_|refine GoR.ge rfl rfl rfl rfl rfl rfl ?_|refine GoR.addN' rfl rfl rfl rfl rfl rfl (g:=?_)|refine GoR.subN' rfl rfl rfl rfl rfl rfl (g:=?_)|refine GoR.add' rfl rfl rfl rfl rfl rfl (g:=?_)|refine GoR.sub' rfl rfl rfl rfl rfl rfl (g:=?_)|refine GoR.addM' rfl rfl rfl rfl rfl rfl (g:=?_)|refine GoR.subM' rfl rfl rfl rfl rfl rfl (g:=?_)|refine GoR.mulM' rfl rfl rfl rfl rfl rfl (g:=?_)|refine GoR.shrN rfl rfl rfl rfl rfl rfl rfl ?_|refine GoR.structEq rfl rfl rfl rfl rfl rfl (by rfl) (by rfl) ?_|refine GoR.structNe rfl rfl rfl rfl rfl rfl (by rfl) (by rfl) ?_|refine GoR.strEq rfl rfl rfl rfl rfl rfl ?_|refine GoR.strNe rfl rfl rfl rfl rfl rfl ?_|refine GoR.remN' rfl rfl rfl rfl rfl rfl (g:=?_)|refine GoR.quoN' rfl rfl rfl rfl rfl rfl (g:=?_)|refine GoR.shlN' rfl rfl rfl rfl rfl rfl rfl (g:=?_)|refine GoR.orN' rfl rfl rfl rfl rfl rfl (g:=?_))|(refine GoR.kk 5 rfl ?_;first|refine GoR.len rfl rfl rfl rfl rfl ?_|refine GoR.lenStr rfl rfl rfl rfl rfl ?_|refine GoR.capB rfl rfl rfl rfl rfl ?_)|(refine GoR.kk 7 rfl ?_;first|refine GoR.pickE' rfl rfl rfl rfl rfl (hx:=rfl) (hy:=rfl) (g:=?_)|refine GoR.pickN' rfl rfl rfl rfl rfl (hx:=rfl) (hy:=rfl) (g:=?_)|refine GoR.pickB rfl rfl rfl rfl rfl rfl rfl ?_)|(refine GoR.kk 8 rfl ?_;first|refine GoR.boxA rfl rfl rfl rfl rfl ?_|refine GoR.boxS rfl rfl rfl rfl rfl rfl ?_|refine GoR.alloc rfl rfl rfl rfl ?_)|(refine GoR.kk 9 rfl ?_;first|refine GoR.strV' rfl rfl rfl rfl rfl (g:=?_)|refine GoR.conv_u8 rfl rfl rfl rfl rfl ?_|refine GoR.convW' rfl rfl rfl rfl rfl (g:=?_)|refine GoR.conv_u16 rfl rfl rfl rfl rfl ?_|refine GoR.conv_u32 rfl rfl rfl rfl rfl ?_)|(refine GoR.kk 10 rfl ?_;first|refine GoR.build' rfl rfl rfl rfl rfl rfl (g:=?_))|(refine GoR.kk 11 rfl ?_;first|refine GoR.extract rfl rfl rfl rfl rfl rfl ?_|refine GoR.not rfl rfl rfl rfl rfl ?_|refine GoR.nilCheck rfl rfl rfl rfl rfl ?_|refine GoR.nilCheckF rfl rfl rfl rfl rfl ?_|refine GoR.makeFunc rfl rfl rfl rfl rfl rfl ?_)|(refine Go.kk 0 rfl ?_;refine Go.seq ?_)|(refine Go.kk 1 rfl ?_;refine Go.region (by kernel_rfl) rfl ?_)|(refine Go.kk 2 rfl ?_;refine Go.drawnQ rfl (by kernel_rfl) rfl ?_)|(refine Go.kk 3 rfl ?_;first|refine Go.cond_t' rfl (g:=?_)|refine Go.cond_f' rfl (g:=?_))|(refine Go.kk 4 rfl ?_;refine Go.block ?_)|(refine Go.kk 5 rfl ?_;first|refine Go.skip ?_|refine Go.ret ?_|refine Go.exit ?_|refine Go.scope ?_)|refine Go.leave_normal ?_|refine Go.leave_same ?_|refine Go.leave_ret ?_|refine Go.ret_code ?_|refine Go.exit_code ?_|refine Go.leave_other rfl ?_|refine Go.sc_normal ?_|refine Go.sc_ret ?_|refine Go.sc_exit ?_|refine Go.exit_back ?_|refine Go.ret_back ?_))
  refine GoR.store (off := 0) (n := 1) (v := .slice b9 (l.length + 1) c9) (l := [.slice b9 (l.length + 1) c9]) rfl rfl rfl rfl rfl gs9 rfl rfl (Nat.le_refl _) rfl rfl (.inl (by simp)) ?_
  refine GoR.name ?_
  intro h12 e12
  have k12 : Keeps [st] h9 h12 := by subst e12; exact (Keeps.rfl _ _).put (by simp) _
  have g12 : h12.get st = some (.cells [.slice b9 (l.length + 1) c9] 113) := by subst e12; exact AHeap.get_put_same _ (AHeap.lt gs9) _
  clear e12
  have n12 := k12.1
  (refine Go.run (g:=?_))
  (first|refine Go.finT (by first|exact .inr rfl|exact .inl rfl) rfl ?_|refine Go.fin1 (by first|exact .inr rfl|exact .inl rfl) rfl (hq:=?_))
  have ho : ∀ i ∈ blk b9, i ∈ blk la ∨ h.n ≤ i := fun i hi => by
    rcases o9 i hi with x | x
    · exact .inl x
    · exact .inr (by omega)
  have sb9 : st ∉ blk b9 := fun hi => by
    rcases o9 _ hi with x | x
    · exact stl x
    · omega
  have S8 := s3.trans s8
  have K : Keeps (st :: blk la) h h12 := ⟨by omega, fun i hi hn => by
    simp only [List.mem_cons, not_or] at hn
    rw [k12.2 i (by omega) (by simp only [List.mem_singleton]; exact hn.1), k9.2 i (by omega) hn.2, S8.2 i hi]⟩
  refine ⟨by simp [retV], b9, c9, h.n, ?_, Nat.le_refl _, ho⟩
  refine I.snoc K g12 (hs9.keeps k12 (fun i hi hm => ?_)) (Nat.le_refl _) (k12.get gn9 ?_) ho hno
  · simp only [List.mem_singleton] at hm
    subst hm
    exact sb9 hi
  · simp only [List.mem_singleton]
    omega
theorem iRem_int {k : IntKind} {x : Int} {y : Nat} (hy : 0 < y) : iBin .rem k x y = some (.int k (x.tmod y)) := by
  have h0 : ¬ ((y : Int) = 0) := by omega
  simp only [iBin, if_neg h0]
def pickN (n : Int) (L : Nat) : Nat := ((n.tmod L + L).tmod L).toNat
theorem tmod_bounds (n : Int) {L : Nat} (h : 0 < L) : -(L : Int) < n.tmod L ∧ n.tmod L < L := by
  constructor
  · have := Int.lt_tmod_of_pos n (b := (L : Int)) (by omega); omega
  · exact Int.tmod_lt_of_pos n (by omega)
theorem pickN_lt (n : Int) {L : Nat} (h : 0 < L) : pickN n L < L ∧ (n.tmod L + L).tmod L = (pickN n L : Int) := by
  obtain ⟨h1, h2⟩ := tmod_bounds n h
  have h3 := Int.tmod_lt_of_pos (n.tmod L + L) (b := L) (by omega)
  have h4 := Int.tmod_nonneg (a := n.tmod L + L) (L : Int) (by omega)
  unfold pickN
  omega
end Go.Proofs.Ytacfneokhmnkbaa
namespace Go.Proofs.Ytacfneokhmnkbaa
set_option maxRecDepth 100000
attribute [local irreducible] Go GoR GoL
theorem aEq_fn {P : Program} {h : AHeap} {t : TypeId} (hu : (match P.underlying t with | some (.func _ _ _) => true | _ => false) = true) (F : Fn) (ts cp : Array Value) : aEq P h t (.func F ts cp) .nilFunc = some (false, []) := by
  unfold aEq
  split at hu
  · rename_i e; rw [e]
  · cases hu
theorem stepU : (match Try.prog.underlying 54 with | some (.func _ _ _) => true | _ => false) = true := by kernel_rfl
def wakeT (t : TK) : TK := if t.inn = true then { t with wk := true } else if t.is = 2 then { t with is := 1 } else t
def wakeB (t : TK) : Bool := t.inn || decide (t.is = 2)
theorem set_same {l : List TK} {n : Nat} {t : TK} (h : l[n]? = some t) : l.set n t = l := by
  apply List.ext_getElem?
  intro i
  rw [List.getElem?_set]
  split
  · rename_i e; subst e
    rw [h]
    split
    · rfl
    · rename_i hn; rw [List.getElem?_eq_none (by omega)] at h; cases h
  · rfl
theorem wake_spec (n0 st : Nat) (l : List TK) (hl : l.length ≤ 1000000) (la : Option Addr) (lc : Nat) (h : AHeap) (I : SI n0 st l la lc h) (n : Nat) (t : TK) (hn : l[n]? = some t) : CallS Try.prog [t.p] 17 [.pointer (some ⟨st, 0, none⟩), .int .i64 n] h fun v h' => v = .bool (wakeB t) ∧ SI n0 st (l.set n (wakeT t)) la lc h' := by
  have hl1 : n < l.length := by
    rcases Nat.lt_or_ge n l.length with q | q
    · exact q
    · rw [List.getElem?_eq_none q] at hn; cases hn
  have gt := I.tk n t hn
  have fs := find_in n0 st l hl la lc h I n hl1
  have et : l[n] = t := by rw [List.getElem?_eq_getElem hl1] at hn; exact Option.some.inj hn
  rw [et] at fs
  have hst := I.st
  have hge := I.ge t (List.mem_of_getElem? hn)
  have SS : ∀ {H' : AHeap} {t' : TK}, Keeps [t.p] h H' → t'.p = t.p → H'.get t'.p = some (.cells t'.cs 119) → SI n0 st (l.set n t') la lc H' := fun {H' t'} k hp hg =>
    I.set hl1 (wr := []) (by rw [et]; exact k) (by simp) (fun i hi => by cases hi) (fun u hu hi => by cases hi) (by rw [et]; exact hp) hg
  unfold TK.cs at gt
  (refine CallS.of2 Try.func17 rfl Try.ntmps17 Try.results17 rfl ?_)
  (refine Go.run (g:=?_))
  refine GoR.call rfl rfl rfl rfl rfl rfl rfl (((fs).argA).mono ?_)
  rintro _ h3 ⟨rfl, rfl⟩ -
  (refine Go.run (g:=?_))
  refine GoR.eqRef rfl rfl rfl rfl (.inl rfl) rfl rfl (aEq_some oneU _) ?_
  (refine Go.run (g:=?_))
  rcases hin : t.inn with _ | _
  · by_cases c2 : t.is = 2
    · have c2' : (t.is : Int) = 2 := by omega
      (refine Go.run (g:=?_))
      refine Go.name ?_
      intro h4 e4
      have hS : SI n0 st (l.set n (wakeT t)) la lc h4 := SS (by subst e4; exact (Keeps.rfl _ _).put (by simp) _) (by simp [wakeT, hin, c2]) (by subst e4; simp only [wakeT, hin, c2, Bool.false_eq_true, if_false, if_true]; exact AHeap.get_put_same _ (AHeap.lt gt) _)
      clear e4
      (first|refine Go.finT (by first|exact .inr rfl|exact .inl rfl) rfl ?_|refine Go.fin1 (by first|exact .inr rfl|exact .inl rfl) rfl (hq:=?_))
      exact ⟨by simp [retV, wakeB, c2], hS⟩
    · have c2' : ¬ (t.is : Int) = 2 := by omega
      (refine Go.run (g:=?_))
      (first|refine Go.finT (by first|exact .inr rfl|exact .inl rfl) rfl ?_|refine Go.fin1 (by first|exact .inr rfl|exact .inl rfl) rfl (hq:=?_))
      refine ⟨by simp [retV, wakeB, hin, c2], ?_⟩
      rw [show wakeT t = t from by simp [wakeT, hin, c2], set_same hn]
      exact I
  · (refine Go.run (g:=?_))
    refine Go.name ?_
    intro h4 e4
    have hS : SI n0 st (l.set n (wakeT t)) la lc h4 := SS (by subst e4; exact (Keeps.rfl _ _).put (by simp) _) (by simp [wakeT, hin]) (by subst e4; simp only [wakeT, hin, if_true]; exact AHeap.get_put_same _ (AHeap.lt gt) _)
    clear e4
    (first|refine Go.finT (by first|exact .inr rfl|exact .inl rfl) rfl ?_|refine Go.fin1 (by first|exact .inr rfl|exact .inl rfl) rfl (hq:=?_))
    exact ⟨by simp [retV, wakeB, hin], hS⟩
def begun (t : TK) : TK := { t with inn := true, wk := false, pk := t.pk + 1 }
def ended (t : TK) (r : Nat) : TK := { t with inn := false, is := if r = 2 then (if t.wk = true then 1 else 2) else if r = 1 then 1 else 3 }
theorem ended_p (t : TK) (r : Nat) : (ended t r).p = t.p := rfl
end Go.Proofs.Ytacfneokhmnkbaa
namespace Go.Proofs.Ytacfneokhmnkbaa
set_option maxRecDepth 100000
attribute [local irreducible] Go GoR GoL
def rC (t : TK) : List Value := [.int .i64 t.is, .bool t.inn, .bool t.wk, .int .u64 t.pk]
def rcs (l : List TK) : List Value := (l.map rC).flatten
theorem rcs_cons (t : TK) (l : List TK) : rcs (t :: l) = rC t ++ rcs l := rfl
theorem rC_len (t : TK) : (rC t).length = 4 := rfl
theorem rcs_len : ∀ l : List TK, (rcs l).length = l.length * 4
  | [] => rfl
  | t :: l => by rw [rcs_cons, List.length_append, rC_len, rcs_len l, List.length_cons]; omega
theorem rcs_at {l : List TK} {i j : Nat} {t : TK} (h : l[i]? = some t) (hj : j < 4) : (rcs l)[i * 4 + j]? = (rC t)[j]? := by
  induction l generalizing i with
  | nil => simp at h
  | cons a l ih =>
    cases i with
    | zero =>
      simp at h; subst h
      rw [rcs_cons, Nat.zero_mul, Nat.zero_add, List.getElem?_append_left (by rw [rC_len]; exact hj)]
    | succ i =>
      rw [rcs_cons, List.getElem?_append_right (by rw [rC_len]; omega), rC_len, show (i + 1) * 4 + j - 4 = i * 4 + j from by omega]
      exact ih (by simpa using h)
theorem rcs_0 {l : List TK} {i : Nat} {t : TK} (h : l[i]? = some t) : (rcs l)[i * 4]? = some (.int .i64 t.is) := rcs_at (j := 0) h (by decide)
theorem rcs_1 {l : List TK} {i : Nat} {t : TK} (h : l[i]? = some t) : (rcs l)[i * 4 + 1]? = some (.bool t.inn) := rcs_at (j := 1) h (by decide)
theorem rcs_2 {l : List TK} {i : Nat} {t : TK} (h : l[i]? = some t) : (rcs l)[i * 4 + 2]? = some (.bool t.wk) := rcs_at (j := 2) h (by decide)
theorem rcs_3 {l : List TK} {i : Nat} {t : TK} (h : l[i]? = some t) : (rcs l)[i * 4 + 3]? = some (.int .u64 t.pk) := rcs_at (j := 3) h (by decide)
theorem rcs_get {l : List TK} {i : Nat} {t : TK} (h : l[i]? = some t) : ((rcs l).drop (i * 4)).take 4 = rC t := by
  apply List.ext_getElem?
  intro j
  rcases Nat.lt_or_ge j 4 with q | q
  · rw [List.getElem?_take_of_lt q, List.getElem?_drop, rcs_at h q]
  · rw [List.getElem?_eq_none (by rw [List.length_take]; omega), List.getElem?_eq_none (by rw [rC_len]; exact q)]
theorem rcs_snoc (l : List TK) (t : TK) : rcs (l ++ [t]) = rcs l ++ rC t := by simp [rcs]
theorem rcs_set {l : List TK} {i j : Nat} {v : Value} {t t' : TK} (h : l[i]? = some t) (hj : j < 4) (e : (rC t).set j v = rC t') : (rcs l).set (i * 4 + j) v = rcs (l.set i t') := by
  induction l generalizing i with
  | nil => simp at h
  | cons a l ih =>
    cases i with
    | zero =>
      simp at h; subst h
      rw [List.set_cons_zero, rcs_cons, rcs_cons, Nat.zero_mul, Nat.zero_add, List.set_append_left _ _ (by rw [rC_len]; exact hj), e]
    | succ i =>
      rw [List.set_cons_succ, rcs_cons, rcs_cons, List.set_append_right _ _ (by rw [rC_len]; omega), rC_len, show (i + 1) * 4 + j - 4 = i * 4 + j from by omega, ih (by simpa using h)]
structure RI (n0 rr : Nat) (l : List TK) (ra : Option Addr) (rc : Nat) (H : AHeap) : Prop where
  sb : H.get rr = some (.cells [.slice ra l.length rc] 36)
  sv : Sv H 46 4 ra l.length rc (rcs l)
  own : Own n0 ra
  lt : n0 ≤ H.n
  st : rr < n0
theorem RI.same {n0 rr : Nat} {l : List TK} {ra : Option Addr} {rc : Nat} {H H' : AHeap} (I : RI n0 rr l ra rc H) (s : Same H H') : RI n0 rr l ra rc H' := ⟨s.get I.sb, I.sv.same s, I.own, Nat.le_trans I.lt s.1, I.st⟩
theorem RI.keeps {n0 rr : Nat} {l : List TK} {ra : Option Addr} {rc : Nat} {wr : List Nat} {H H' : AHeap} (I : RI n0 rr l ra rc H) (k : Keeps wr H H') (h1 : rr ∉ wr) (h2 : ∀ i ∈ wr, i ∉ blk ra) : RI n0 rr l ra rc H' := ⟨k.get I.sb h1, I.sv.keeps k (fun i hi hw => h2 i hw hi), I.own, Nat.le_trans I.lt k.1, I.st⟩
theorem RI.nb {n0 rr : Nat} {l : List TK} {ra : Option Addr} {rc : Nat} {H : AHeap} (I : RI n0 rr l ra rc H) : rr ∉ blk ra := fun h => by have := I.own _ h; have := I.st; omega
theorem RI.put {n0 rr : Nat} {l : List TK} {ra : Option Addr} {rc : Nat} {H H' : AHeap} (I : RI n0 rr l ra rc H) {i : Nat} {t' : TK} {cs : List Value} (hs : Sv H' 46 4 ra l.length rc cs) (k : Keeps (blk ra) H H') (e : cs = rcs (l.set i t')) : RI n0 rr (l.set i t') ra rc H' := by
  subst e
  exact ⟨by rw [List.length_set]; exact k.get I.sb I.nb, by rw [List.length_set]; exact hs, I.own, Nat.le_trans I.lt k.1, I.st⟩
def runP (is : Nat) (inn : Bool) : Bool := decide (is = 1) && !inn
set_option maxHeartbeats 4000000 in
theorem rrun_spec (n0 rr : Nat) (l : List TK) (hl : l.length ≤ 1000000) (ra : Option Addr) (rc : Nat) (h : AHeap) (I : RI n0 rr l ra rc h) : CallS Try.prog [] 21 [.pointer (some ⟨rr, 0, none⟩)] h fun v h' => ∃ b c, v = .slice b (idx runB l 0).length c ∧ Sv h' 3 1 b (idx runB l 0).length c (ints (idx runB l 0)) ∧ Own h.n b := by
  (refine CallS.of1 Try.func21 rfl Try.ntmps21 Try.results21 rfl ?_)
  (refine Go.run (g:=?_))
  refine Go.loop (α := Nat × Option Addr × Nat × AHeap) (fun x => [(4, .int .i64 x.1), (3, .slice x.2.1 (idx runB (l.take x.1) 0).length x.2.2.1), (0, .pointer (some ⟨rr, 0, none⟩))]) (fun _ => []) (fun x => x.2.2.2) (fun x => x.1 ≤ l.length ∧ Same h x.2.2.2 ∧ Sv x.2.2.2 3 1 x.2.1 (idx runB (l.take x.1) 0).length x.2.2.1 (ints (idx runB (l.take x.1) 0)) ∧ Own h.n x.2.1) (fun x => l.length - x.1) (0, none, 0, h) ?_ ?_ rfl rfl ?_
  · exact ⟨Nat.zero_le _, Same.refl _, .nil, Own.nil _⟩
  · exact ⟨rfl, rfl, rfl, trivial⟩
  rintro ⟨i, b, c, h2⟩ ⟨hi, s2, hb, ob⟩
  simp only at hi s2 hb ob ⊢
  have m2 := s2.1
  have I2 := I.same s2
  have gb2 := I2.sb
  have hz2 := I2.sv.rv (P := Try.prog)
  rcases Nat.lt_or_ge i l.length with i0 | i0
  · have hti : l[i]? = some l[i] := List.getElem?_eq_getElem i0
    have c0 := rcs_0 hti
    have c1 := rcs_1 hti
    have hbe : i * 4 < (rcs l).length := by rw [rcs_len]; omega
    have hfl : (idx runB (l.take i) 0).length ≤ i := Nat.le_trans (idx_le _ _ _) (by simp; omega)
    have e1 : idx runB (l.take (i + 1)) 0 = idx runB (l.take i) 0 ++ (if runP l[i].is l[i].inn = true then [(i : Int)] else []) := by
      rw [take_snoc' i0, idx_snoc, List.length_take, Nat.min_eq_left (by omega), Nat.zero_add]
      rfl
    generalize l[i].is = eis at *
    generalize l[i].inn = einn at *
    generalize idx runB (l.take i) 0 = out at *
    by_cases q : eis = 1
    · have q' : (eis : Int) = 1 := by omega
      cases einn
      · simp only [runP, q, decide_true, Bool.not_false, Bool.and_self, if_true] at e1
        (refine Go.run (g:=?_))
        refine GoR.buildRo (c := [.int .i64 i]) rfl rfl rfl rfl rfl (by decide) (by rfl) (by rfl) ?_
        intro b8 h8 hb8 rb8 ob8 s8 n8
        refine GoR.appendV rfl rfl rfl rfl rfl rfl (hb.same s8) hb8 (Own.ok ob (by omega)) (by omega) (by omega) (by rfl) ?_
        intro b9 c9 h9 hs9 k9 o9
        have m9 := k9.1
        have hs9' : Sv h9 3 1 b9 (out ++ [(i : Int)]).length c9 (ints (out ++ [(i : Int)])) := by rw [ints_snoc, List.length_append]; exact hs9
        (refine Go.run (g:=?_))
        refine Go.again (i + 1, b9, c9, h9) ⟨by simp only; omega, (s2.trans s8).ownO k9 ob (Nat.le_refl _), by simp only; rw [e1]; exact hs9', ?_⟩ (by simp only; omega) ⟨rfl, by simp only; rw [e1, List.length_append]; rfl, rfl, trivial⟩ rfl rfl
        intro j hj
        rcases o9 j hj with x | x
        · exact ob j x
        · omega
      · simp only [runP, Bool.not_true, Bool.and_false, Bool.false_eq_true, if_false, List.append_nil] at e1
        (refine Go.run (g:=?_))
        exact Go.again (i + 1, b, c, h2) ⟨by simp only; omega, s2, by simp only; rw [e1]; exact hb, ob⟩ (by simp only; omega) ⟨rfl, by simp only; rw [e1]; rfl, rfl, trivial⟩ rfl rfl
    · have q' : ¬ (eis : Int) = 1 := by omega
      simp only [runP, q, decide_false, Bool.false_and, Bool.false_eq_true, if_false, List.append_nil] at e1
      (refine Go.run (g:=?_))
      exact Go.again (i + 1, b, c, h2) ⟨by simp only; omega, s2, by simp only; rw [e1]; exact hb, ob⟩ (by simp only; omega) ⟨rfl, by simp only; rw [e1]; rfl, rfl, trivial⟩ rfl rfl
  · (refine Go.run (g:=?_))
    (first|refine Go.finT (by first|exact .inr rfl|exact .inl rfl) rfl ?_|refine Go.fin1 (by first|exact .inr rfl|exact .inl rfl) rfl (hq:=?_))
    rw [List.take_of_length_le i0] at hb
    exact ⟨b, c, by simp only [List.take_of_length_le i0]; rfl, hb, ob⟩
set_option maxHeartbeats 4000000 in
theorem rwait_spec (n0 rr : Nat) (l : List TK) (hl : l.length ≤ 1000000) (ra : Option Addr) (rc : Nat) (h : AHeap) (I : RI n0 rr l ra rc h) : CallS Try.prog [] 23 [.pointer (some ⟨rr, 0, none⟩)] h fun v h' => ∃ b c, v = .slice b (idx waitB l 0).length c ∧ Sv h' 3 1 b (idx waitB l 0).length c (ints (idx waitB l 0)) ∧ Own h.n b := by
  (refine CallS.of1 Try.func23 rfl Try.ntmps23 Try.results23 rfl ?_)
  (refine Go.run (g:=?_))
  refine Go.loop (α := Nat × Option Addr × Nat × AHeap) (fun x => [(4, .int .i64 x.1), (3, .slice x.2.1 (idx waitB (l.take x.1) 0).length x.2.2.1), (0, .pointer (some ⟨rr, 0, none⟩))]) (fun _ => []) (fun x => x.2.2.2) (fun x => x.1 ≤ l.length ∧ Same h x.2.2.2 ∧ Sv x.2.2.2 3 1 x.2.1 (idx waitB (l.take x.1) 0).length x.2.2.1 (ints (idx waitB (l.take x.1) 0)) ∧ Own h.n x.2.1) (fun x => l.length - x.1) (0, none, 0, h) ?_ ?_ rfl rfl ?_
  · exact ⟨Nat.zero_le _, Same.refl _, .nil, Own.nil _⟩
  · exact ⟨rfl, rfl, rfl, trivial⟩
  rintro ⟨i, b, c, h2⟩ ⟨hi, s2, hb, ob⟩
  simp only at hi s2 hb ob ⊢
  have m2 := s2.1
  have I2 := I.same s2
  have gb2 := I2.sb
  have hz2 := I2.sv.rv (P := Try.prog)
  rcases Nat.lt_or_ge i l.length with i0 | i0
  · have hti : l[i]? = some l[i] := List.getElem?_eq_getElem i0
    have c0 := rcs_0 hti
    have hbe : i * 4 < (rcs l).length := by rw [rcs_len]; omega
    have hfl : (idx waitB (l.take i) 0).length ≤ i := Nat.le_trans (idx_le _ _ _) (by simp; omega)
    have e1 : idx waitB (l.take (i + 1)) 0 = idx waitB (l.take i) 0 ++ (if decide (l[i].is = 2) = true then [(i : Int)] else []) := by
      rw [take_snoc' i0, idx_snoc, List.length_take, Nat.min_eq_left (by omega), Nat.zero_add]
      rfl
    generalize l[i].is = eis at *
    generalize idx waitB (l.take i) 0 = out at *
    by_cases q : eis = 2
    · have q' : (eis : Int) = 2 := by omega
      simp only [q, decide_true, if_true] at e1
      (refine Go.run (g:=?_))
      refine GoR.buildRo (c := [.int .i64 i]) rfl rfl rfl rfl rfl (by decide) (by rfl) (by rfl) ?_
      intro b8 h8 hb8 rb8 ob8 s8 n8
      refine GoR.appendV rfl rfl rfl rfl rfl rfl (hb.same s8) hb8 (Own.ok ob (by omega)) (by omega) (by omega) (by rfl) ?_
      intro b9 c9 h9 hs9 k9 o9
      have m9 := k9.1
      have hs9' : Sv h9 3 1 b9 (out ++ [(i : Int)]).length c9 (ints (out ++ [(i : Int)])) := by rw [ints_snoc, List.length_append]; exact hs9
      (refine Go.run (g:=?_))
      refine Go.again (i + 1, b9, c9, h9) ⟨by simp only; omega, (s2.trans s8).ownO k9 ob (Nat.le_refl _), by simp only; rw [e1]; exact hs9', ?_⟩ (by simp only; omega) ⟨rfl, by simp only; rw [e1, List.length_append]; rfl, rfl, trivial⟩ rfl rfl
      intro j hj
      rcases o9 j hj with x | x
      · exact ob j x
      · omega
    · have q' : ¬ (eis : Int) = 2 := by omega
      simp only [q, decide_false, Bool.false_eq_true, if_false, List.append_nil] at e1
      (refine Go.run (g:=?_))
      exact Go.again (i + 1, b, c, h2) ⟨by simp only; omega, s2, by simp only; rw [e1]; exact hb, ob⟩ (by simp only; omega) ⟨rfl, by simp only; rw [e1]; rfl, rfl, trivial⟩ rfl rfl
  · (refine Go.run (g:=?_))
    (first|refine Go.finT (by first|exact .inr rfl|exact .inl rfl) rfl ?_|refine Go.fin1 (by first|exact .inr rfl|exact .inl rfl) rfl (hq:=?_))
    rw [List.take_of_length_le i0] at hb
    exact ⟨b, c, by simp only [List.take_of_length_le i0]; rfl, hb, ob⟩
end Go.Proofs.Ytacfneokhmnkbaa
namespace Go.Proofs.Ytacfneokhmnkbaa
set_option maxRecDepth 100000
attribute [local irreducible] Go GoR GoL
theorem lt_of_some' {α : Type} {l : List α} {i : Nat} {a : α} (h : l[i]? = some a) : i < l.length := by
  rcases Nat.lt_or_ge i l.length with q | q
  · exact q
  · rw [List.getElem?_eq_none q] at h; cases h
theorem tmod_pick {m : Int} {L : Nat} (b1 : -(L : Int) < m) (b2 : m < L) : m < 0 ∧ m + L = (m + L).tmod L ∨ ¬ m < 0 ∧ m = (m + L).tmod L := by
  by_cases h : m < 0
  · exact .inl ⟨h, by rw [Int.tmod_eq_of_lt (by omega) (by omega)]⟩
  · exact .inr ⟨h, by rw [Int.tmod_eq_emod_of_nonneg (by omega), Int.add_emod_right, Int.emod_eq_of_lt (by omega) (by omega)]⟩
set_option maxHeartbeats 4000000 in
theorem rbegin_spec (n0 rr : Nat) (l : List TK) (hl : l.length ≤ 1000000) (ra : Option Addr) (rc : Nat) (h : AHeap) (I : RI n0 rr l ra rc h) (hpk : ∀ t ∈ l, t.pk < 1000000000) (n : Int) (hn : -9223372036854775808 ≤ n ∧ n ≤ 9223372036854775807) : CallS Try.prog (blk ra) 65 [.pointer (some ⟨rr, 0, none⟩), .int .i64 n] h fun v h' =>
    (idx runB l 0 = [] ∧ v = .int .i64 (-1) ∧ Same h h') ∨
    (∃ (j : Nat) (t : TK), l[j]? = some t ∧ (idx runB l 0)[pickN n (idx runB l 0).length]? = some (j : Int) ∧ runB t = true ∧ v = .int .i64 j ∧ RI n0 rr (l.set j (begun t)) ra rc h') := by
  (refine CallS.of2 Try.func65 rfl Try.ntmps65 Try.results65 rfl ?_)
  (refine Go.run (g:=?_))
  refine GoR.call rfl rfl rfl rfl rfl rfl rfl (((rrun_spec n0 rr l hl ra rc _ I).argA).mono ?_)
  rintro _ h3 ⟨b, c, rfl, hs, ob⟩ s3
  have m3 := s3.1
  have hrl := idx_le runB l 0
  have hmem := fun x => @idx_mem runB l 0 x
  generalize idx runB l 0 = r at *
  rcases Nat.eq_zero_or_pos r.length with q | q
  · have q' : (r.length : Int) = 0 := by omega
    (refine Go.run (g:=?_))
    (first|refine Go.finT (by first|exact .inr rfl|exact .inl rfl) rfl ?_|refine Go.fin1 (by first|exact .inr rfl|exact .inl rfl) rfl (hq:=?_))
    exact .inl ⟨List.eq_nil_of_length_eq_zero q, rfl, s3⟩
  have q' : ¬ (r.length : Int) = 0 := by omega
  obtain ⟨b1, b2⟩ := tmod_bounds n q
  obtain ⟨p1, p2⟩ := pickN_lt n q
  generalize hkk : pickN n r.length = k at *
  obtain ⟨j, hj0, hjl, hrun⟩ := hmem r[k] (List.getElem_mem p1)
  rw [Nat.zero_add] at hj0
  have hkj : r[k]? = some (j : Int) := by rw [List.getElem?_eq_getElem p1, hj0]
  have c0 : (ints r)[k]? = some (.int .i64 (j : Int)) := by rw [ints_get p1, hj0]
  have hbe : k < (ints r).length := by rw [ints_len]; exact p1
  have hrv := hs.rv (P := Try.prog)
  have I3 := I.same s3
  have gb3 := I3.sb
  obtain ⟨t, het⟩ : ∃ t, t = l[j] := ⟨_, rfl⟩
  have hjs : l[j]? = some t := by rw [het]; exact List.getElem?_eq_getElem hjl
  rw [← het] at hrun
  have hpj := hpk _ (List.mem_of_getElem? hjs)
  have hbe1 : j * 4 < (rcs l).length := by rw [rcs_len]; omega
  have hz3 := I3.sv.rv (P := Try.prog)
  have sv3 := I3.sv
  have hown := I.own
  have hlt := I.lt
  have hnb := I.nb
  have e1 := rcs_set (l := l) (i := j) (j := 1) (v := .bool true) (t' := ⟨t.p, t.fn, t.is, true, t.wk, t.pk⟩) hjs (by decide) rfl
  have e2 := rcs_set (l := l.set j ⟨t.p, t.fn, t.is, true, t.wk, t.pk⟩) (i := j) (j := 2) (v := .bool false) (t' := ⟨t.p, t.fn, t.is, true, false, t.pk⟩) (List.getElem?_set_self hjl) (by decide) rfl
  rw [List.set_set] at e2
  have e3 := rcs_set (l := l.set j ⟨t.p, t.fn, t.is, true, false, t.pk⟩) (i := j) (j := 3) (v := .int .u64 (t.pk + 1 : Nat)) (t' := begun t) (List.getElem?_set_self hjl) (by decide) rfl
  rw [List.set_set] at e3
  have d2 := rcs_3 (l := l.set j ⟨t.p, t.fn, t.is, true, false, t.pk⟩) (i := j) (List.getElem?_set_self hjl)
  simp only at d2
  have hl0 := rcs_len l
  have hl2 : (rcs (l.set j ⟨t.p, t.fn, t.is, true, false, t.pk⟩)).length = l.length * 4 := by rw [rcs_len, List.length_set]
  have hl1 : (rcs (l.set j ⟨t.p, t.fn, t.is, true, t.wk, t.pk⟩)).length = l.length * 4 := by rw [rcs_len, List.length_set]
  clear hmem hj0
  have fin : ∀ h6, Sv h6 46 4 ra l.length rc (rcs (l.set j (begun t))) → Keeps (blk ra) h3 h6 → ∃ (j' : Nat) (t : TK), l[j']? = some t ∧ r[k]? = some (j' : Int) ∧ runB t = true ∧ (Value.int .i64 j) = .int .i64 j' ∧ RI n0 rr (l.set j' (begun t)) ra rc h6 := fun h6 s6 k6 => ⟨j, _, hjs, hkj, hrun, rfl, I3.put s6 k6 rfl⟩
  generalize rcs (l.set j (begun t)) = c6 at *
  generalize rcs (l.set j ⟨t.p, t.fn, t.is, true, false, t.pk⟩) = c5 at *
  generalize rcs (l.set j ⟨t.p, t.fn, t.is, true, t.wk, t.pk⟩) = c4 at *
  generalize t.pk = pk at *
  (refine Go.run (g:=?_))
  refine GoR.binE _ rfl rfl rfl rfl rfl rfl (iRem_int q) ?_
  have hmk := tmod_pick b1 b2
  rw [p2] at hmk
  generalize n.tmod r.length = m at *
  rcases hmk with ⟨m1, m2⟩ | ⟨m1, m2⟩
  · (refine Go.run (g:=?_))
    rw [m2]
    simp only [Int.toNat_natCast, Nat.mul_one]
    (refine Go.run (g:=?_))
    refine GoR.store1' rfl rfl rfl rfl rfl rfl (hS := sv3) (kv := j * 4 + 1) (hw := fun i hi => .inl hi) (g := ?_)
    intro h4 sv4 k4 n4
    rw [e1] at sv4
    have gb4 := k4.get gb3 hnb
    have hz4 := sv4.rv (P := Try.prog)
    have hb4 : j * 4 < c4.length := by omega
    clear hz3 gb3 sv3
    (refine Go.run (g:=?_))
    refine GoR.store1' rfl rfl rfl rfl rfl rfl (hS := sv4) (kv := j * 4 + 2) (hw := fun i hi => .inl hi) (g := ?_)
    intro h5 sv5 k5 n5
    rw [e2] at sv5
    have gb5 := k5.get gb4 hnb
    have hz5 := sv5.rv (P := Try.prog)
    have hb5 : j * 4 < c5.length := by omega
    have hb53 : j * 4 + 3 < c5.length := by omega
    clear hz4 gb4 sv4
    (refine Go.run (g:=?_))
    refine GoR.store1' rfl rfl rfl rfl rfl rfl (hS := sv5) (kv := j * 4 + 3) (hw := fun i hi => .inl hi) (g := ?_)
    intro h6 sv6 k6 n6
    rw [e3] at sv6
    have K := (k4.trans k5).trans k6
    clear hz5 gb5 sv5
    (refine Go.run (g:=?_))
    (first|refine Go.finT (by first|exact .inr rfl|exact .inl rfl) rfl ?_|refine Go.fin1 (by first|exact .inr rfl|exact .inl rfl) rfl (hq:=?_))
    exact .inr (by simpa [retV] using fin h6 sv6 K)
  · subst m2
    (refine Go.run (g:=?_))
    refine GoR.store1' rfl rfl rfl rfl rfl rfl (hS := sv3) (kv := j * 4 + 1) (hw := fun i hi => .inl hi) (g := ?_)
    intro h4 sv4 k4 n4
    rw [e1] at sv4
    have gb4 := k4.get gb3 hnb
    have hz4 := sv4.rv (P := Try.prog)
    have hb4 : j * 4 < c4.length := by omega
    clear hz3 gb3 sv3
    (refine Go.run (g:=?_))
    refine GoR.store1' rfl rfl rfl rfl rfl rfl (hS := sv4) (kv := j * 4 + 2) (hw := fun i hi => .inl hi) (g := ?_)
    intro h5 sv5 k5 n5
    rw [e2] at sv5
    have gb5 := k5.get gb4 hnb
    have hz5 := sv5.rv (P := Try.prog)
    have hb5 : j * 4 < c5.length := by omega
    have hb53 : j * 4 + 3 < c5.length := by omega
    clear hz4 gb4 sv4
    (refine Go.run (g:=?_))
    refine GoR.store1' rfl rfl rfl rfl rfl rfl (hS := sv5) (kv := j * 4 + 3) (hw := fun i hi => .inl hi) (g := ?_)
    intro h6 sv6 k6 n6
    rw [e3] at sv6
    have K := (k4.trans k5).trans k6
    clear hz5 gb5 sv5
    (refine Go.run (g:=?_))
    (first|refine Go.finT (by first|exact .inr rfl|exact .inl rfl) rfl ?_|refine Go.fin1 (by first|exact .inr rfl|exact .inl rfl) rfl (hq:=?_))
    exact .inr (by simpa [retV] using fin h6 sv6 K)
set_option maxHeartbeats 4000000 in
theorem rend_spec (n0 rr : Nat) (l : List TK) (hl : l.length ≤ 1000000) (ra : Option Addr) (rc : Nat) (h : AHeap) (I : RI n0 rr l ra rc h) (j : Nat) (t : TK) (hj : l[j]? = some t) (r : Nat) (hr : r < 256) : CallS Try.prog (blk ra) 66 [.pointer (some ⟨rr, 0, none⟩), .int .i64 j, .int .i64 r] h fun v h' => RI n0 rr (l.set j (ended t r)) ra rc h' := by
  have hjl := lt_of_some' hj
  have gb := I.sb
  have sv := I.sv
  have hz := sv.rv (P := Try.prog)
  have hnb := I.nb
  have hown := I.own
  have hlt := I.lt
  have hbe : j * 4 < (rcs l).length := by rw [rcs_len]; omega
  have hl0 := rcs_len l
  obtain ⟨p, fn, is, inn, wk, pk⟩ := t
  have e1 := rcs_set (l := l) (i := j) (j := 1) (v := .bool false) (t' := ⟨p, fn, is, false, wk, pk⟩) hj (by decide) rfl
  have e2 := rcs_set (l := l.set j ⟨p, fn, is, false, wk, pk⟩) (i := j) (j := 0) (v := .int .i64 3) (t' := ⟨p, fn, 3, false, wk, pk⟩) (List.getElem?_set_self hjl) (by decide) rfl
  rw [List.set_set] at e2
  have c2 := rcs_2 (l := l.set j ⟨p, fn, 3, false, wk, pk⟩) (i := j) (List.getElem?_set_self hjl)
  simp only at c2
  have e3 := fun (is : Nat) => rcs_set (l := l.set j ⟨p, fn, 3, false, wk, pk⟩) (i := j) (j := 0) (v := .int .i64 is) (t' := ⟨p, fn, is, false, wk, pk⟩) (List.getElem?_set_self hjl) (by decide) rfl
  simp only [List.set_set] at e3
  have hl1 : (rcs (l.set j ⟨p, fn, is, false, wk, pk⟩)).length = l.length * 4 := by rw [rcs_len, List.length_set]
  have hl2 : (rcs (l.set j ⟨p, fn, 3, false, wk, pk⟩)).length = l.length * 4 := by rw [rcs_len, List.length_set]
  have fin : ∀ h6 is', is' = (if r = 2 then (if wk = true then 1 else 2) else if r = 1 then 1 else 3) → Sv h6 46 4 ra l.length rc ((rcs (l.set j ⟨p, fn, 3, false, wk, pk⟩)).set (j * 4 + 0) (.int .i64 (is' : Nat))) → Keeps (blk ra) h h6 → RI n0 rr (l.set j (ended ⟨p, fn, is, inn, wk, pk⟩ r)) ra rc h6 := fun h6 is' e s6 k6 => by subst e; exact I.put s6 k6 (e3 _)
  have fin3 : ∀ h6, 3 = (if r = 2 then (if wk = true then 1 else 2) else if r = 1 then 1 else 3) → Sv h6 46 4 ra l.length rc (rcs (l.set j ⟨p, fn, 3, false, wk, pk⟩)) → Keeps (blk ra) h h6 → RI n0 rr (l.set j (ended ⟨p, fn, is, inn, wk, pk⟩ r)) ra rc h6 := fun h6 e s6 k6 => I.put s6 k6 (by unfold ended; simp only; rw [← e])
  clear e3
  generalize rcs (l.set j ⟨p, fn, 3, false, wk, pk⟩) = c5 at *
  generalize rcs (l.set j ⟨p, fn, is, false, wk, pk⟩) = c4 at *
  (refine CallS.of3 Try.func66 rfl Try.ntmps66 Try.results66 rfl ?_)
  (refine Go.run (g:=?_))
  refine GoR.store1' rfl rfl rfl rfl rfl rfl (hS := sv) (kv := j * 4 + 1) (hw := fun i hi => .inl hi) (g := ?_)
  intro h4 sv4 k4 n4
  rw [e1] at sv4
  have gb4 := k4.get gb hnb
  have hz4 := sv4.rv (P := Try.prog)
  have hb4 : j * 4 < c4.length := by omega
  clear hz sv gb
  (refine Go.run (g:=?_))
  refine GoR.store1' rfl rfl rfl rfl rfl rfl (hS := sv4) (kv := j * 4 + 0) (hw := fun i hi => .inl hi) (g := ?_)
  intro h5 sv5 k5 n5
  rw [e2] at sv5
  have gb5 := k5.get gb4 hnb
  have hz5 := sv5.rv (P := Try.prog)
  have hb5 : j * 4 < c5.length := by omega
  have K5 := k4.trans k5
  clear hz4 sv4 gb4
  by_cases r1 : r = 1
  · have r1' : (r : Int) = 1 := by omega
    (refine Go.run (g:=?_))
    refine GoR.store1' rfl rfl rfl rfl rfl rfl (hS := sv5) (kv := j * 4 + 0) (hw := fun i hi => .inl hi) (g := ?_)
    intro h6 sv6 k6 n6
    have K := K5.trans k6
    (refine Go.run (g:=?_))
    (first|refine Go.finT (by first|exact .inr rfl|exact .inl rfl) rfl ?_|refine Go.fin1 (by first|exact .inr rfl|exact .inl rfl) rfl (hq:=?_))
    exact fin h6 1 (by simp [r1]) sv6 K
  have r1' : ¬ (r : Int) = 1 := by omega
  by_cases r2 : r = 2
  · have r2' : (r : Int) = 2 := by omega
    cases wk
    · (refine Go.run (g:=?_))
      refine GoR.store1' rfl rfl rfl rfl rfl rfl (hS := sv5) (kv := j * 4 + 0) (hw := fun i hi => .inl hi) (g := ?_)
      intro h6 sv6 k6 n6
      have K := K5.trans k6
      (refine Go.run (g:=?_))
      (first|refine Go.finT (by first|exact .inr rfl|exact .inl rfl) rfl ?_|refine Go.fin1 (by first|exact .inr rfl|exact .inl rfl) rfl (hq:=?_))
      exact fin h6 2 (by simp [r2]) sv6 K
    · (refine Go.run (g:=?_))
      refine GoR.store1' rfl rfl rfl rfl rfl rfl (hS := sv5) (kv := j * 4 + 0) (hw := fun i hi => .inl hi) (g := ?_)
      intro h6 sv6 k6 n6
      have K := K5.trans k6
      (refine Go.run (g:=?_))
      (first|refine Go.finT (by first|exact .inr rfl|exact .inl rfl) rfl ?_|refine Go.fin1 (by first|exact .inr rfl|exact .inl rfl) rfl (hq:=?_))
      exact fin h6 1 (by simp [r2]) sv6 K
  · have r2' : ¬ (r : Int) = 2 := by omega
    (refine Go.run (g:=?_))
    (first|refine Go.finT (by first|exact .inr rfl|exact .inl rfl) rfl ?_|refine Go.fin1 (by first|exact .inr rfl|exact .inl rfl) rfl (hq:=?_))
    exact fin3 h5 (by simp [r1, r2]) sv5 K5
end Go.Proofs.Ytacfneokhmnkbaa
namespace Go.Proofs.Ytacfneokhmnkbaa
set_option maxRecDepth 100000
attribute [local irreducible] Go GoR GoL
theorem aEq_fn0 {P : Program} {h : AHeap} {t : TypeId} (hu : (match P.underlying t with | some (.func _ _ _) => true | _ => false) = true) : aEq P h t .nilFunc .nilFunc = some (true, []) := by
  unfold aEq
  split at hu
  · rename_i e; rw [e]
  · cases hu
theorem aEq_nil {P : Program} {h : AHeap} {t e : TypeId} (hu : P.underlying t = some (.pointer e)) : aEq P h t (.pointer none) (.pointer none) = some (true, []) := by
  unfold aEq
  rw [hu]
  rfl
set_option maxHeartbeats 8000000 in
theorem pick_gen2 (n0 st : Nat) (l : List TK) (hl : l.length ≤ 1000000) (la : Option Addr) (lc : Nat) (h : AHeap) (I : SI n0 st l la lc h) (hpk : ∀ t ∈ l, t.pk < 1000000000) (n : Int) (hn : -9223372036854775808 ≤ n ∧ n ≤ 9223372036854775807) (wr : List Nat) (Q : Nat → List TK → Option Addr → Nat → Nat → AHeap → Prop)
    (hstep : ∀ (j : Nat) (t : TK), l[j]? = some t → (idx runB l 0)[pickN n (idx runB l 0).length]? = some (j : Int) → runB t = true → ∀ h5, SI n0 st (l.set j (begun t)) la lc h5 → Keeps [t.p] h h5 → (t.fn = .nilFunc ∧ Q j (l.set j (begun t)) la lc 3 h5) ∨ ∃ (F : FuncId) (cp : Array Value), t.fn = .func (.func F) #[] cp ∧ calls Try.prog F = true ∧ CallS Try.prog wr F cp.toList h5 fun v h' => ∃ (r : Nat) (l2 : List TK) (la2 : Option Addr) (lc2 : Nat) (t2 : TK), v = .int .u8 r ∧ r < 256 ∧ l2[j]? = some t2 ∧ t2.p = t.p ∧ SI n0 st l2 la2 lc2 h' ∧ Q j l2 la2 lc2 r h') :
    CallS Try.prog (l.map (·.p) ++ wr) 28 [.pointer (some ⟨st, 0, none⟩), .int .i64 n] h fun v h' =>
    (idx runB l 0 = [] ∧ v = .tuple #[.int .i64 0, .bool false] ∧ Same h h') ∨
    (∃ (j : Nat) (t : TK), l[j]? = some t ∧ (idx runB l 0)[pickN n (idx runB l 0).length]? = some (j : Int) ∧ runB t = true ∧ v = .tuple #[.int .i64 j, .bool true] ∧ ∃ (r : Nat) (l2 : List TK) (la2 : Option Addr) (lc2 : Nat) (t2 : TK) (h6 : AHeap), l2[j]? = some t2 ∧ t2.p = t.p ∧ Q j l2 la2 lc2 r h6 ∧ SI n0 st (l2.set j (ended t2 r)) la2 lc2 h' ∧ Keeps [t.p] h6 h') := by
  have hlt := I.lt
  have hst := I.st
  (refine CallS.of2 Try.func28 rfl Try.ntmps28 Try.results28 rfl ?_)
  (refine Go.run (g:=?_))
  refine GoR.call rfl rfl rfl rfl rfl rfl rfl (((runnable_spec n0 st l hl la lc _ I).argA).mono ?_)
  rintro _ h3 ⟨b, rc, rfl, hs, ob⟩ s3
  have m3 := s3.1
  have hrl := idx_le runB l 0
  have hmem := fun x => @idx_mem runB l 0 x
  generalize idx runB l 0 = r at *
  rcases Nat.eq_zero_or_pos r.length with q | q
  · have q' : (r.length : Int) = 0 := by omega
    (refine Go.run (g:=?_))
    (first|refine Go.finT (by first|exact .inr rfl|exact .inl rfl) rfl ?_|refine Go.fin1 (by first|exact .inr rfl|exact .inl rfl) rfl (hq:=?_))
    exact .inl ⟨List.eq_nil_of_length_eq_zero q, rfl, s3⟩
  have q' : ¬ (r.length : Int) = 0 := by omega
  obtain ⟨b1, b2⟩ := tmod_bounds n q
  obtain ⟨p1, p2⟩ := pickN_lt n q
  generalize pickN n r.length = k at *
  obtain ⟨j, hj0, hjl, hrun⟩ := hmem r[k] (List.getElem_mem p1)
  rw [Nat.zero_add] at hj0
  have hkj : r[k]? = some (j : Int) := by rw [List.getElem?_eq_getElem p1, hj0]
  have c0 : (ints r)[k]? = some (.int .i64 (j : Int)) := by rw [ints_get p1, hj0]
  have hbe : k < (ints r).length := by rw [ints_len]; exact p1
  have hrv := hs.rv (P := Try.prog)
  have I3 := I.same s3
  have gb3 := I3.sb
  have hz3 := I3.sv.rv (P := Try.prog)
  have c1 := pcs_get hjl
  have hbe1 : j < (pcs l).length := by rw [pcs_len]; exact hjl
  have hjs : l[j]? = some l[j] := List.getElem?_eq_getElem hjl
  have hjm : l[j] ∈ l := List.getElem_mem hjl
  have gt := I3.tk j _ hjs
  have hge := I.ge _ hjm
  have hpj := hpk _ hjm
  have hW : l[j].p ∈ l.map (·.p) ++ wr := List.mem_append.2 (.inl (List.mem_map.2 ⟨_, hjm, rfl⟩))
  clear hmem hj0
  obtain ⟨t, ht⟩ : ∃ t, t = l[j] := ⟨_, rfl⟩
  have hset := fun {H' : AHeap} {t' : TK} (k : Keeps [l[j].p] h3 H') (hp : t'.p = l[j].p) hg => I3.set (H' := H') (t' := t') hjl (wr := []) k (by simp) (fun i hi => by cases hi) (fun u hu hi => by cases hi) hp hg
  rw [← ht] at hrun c1 hjs hjm gt hge hW hset hpj
  unfold TK.cs at gt
  have hst5 := hstep j t hjs hkj hrun
  clear hstep
  (refine Go.run (g:=?_))
  refine GoR.binE _ rfl rfl rfl rfl rfl rfl (iRem_int q) ?_
  generalize n.tmod r.length = m at *
  (refine Go.run (g:=?_))
  refine GoR.binE _ rfl rfl rfl rfl rfl rfl (iRem_int q) ?_
  rw [p2]
  (refine Go.run (g:=?_))
  refine GoR.store (off := 0 + 4) (n := 1) (v := .int .u64 (t.pk + 1 : Nat)) (l := [.int .u64 (t.pk + 1 : Nat)]) rfl rfl rfl rfl rfl gt rfl rfl (Nat.le_refl _) rfl rfl (.inl hW) ?_
  refine GoR.name ?_
  intro h4 e4
  have k4 : Keeps [t.p] h3 h4 := by subst e4; exact (Keeps.rfl _ _).put (by simp) _
  have g4 : h4.get t.p = some (.cells [t.fn, .int .u8 t.is, .bool t.inn, .bool t.wk, .int .u64 (t.pk + 1 : Nat)] 119) := by subst e4; exact AHeap.get_put_same _ (AHeap.lt gt) _
  clear e4
  have n4 := k4.1
  (refine Go.run (g:=?_))
  refine GoR.store (off := 0 + 2) (n := 1) (v := .bool true) (l := [.bool true]) rfl rfl rfl rfl rfl g4 rfl rfl (show 3 ≤ 5 by decide) rfl rfl (.inl hW) ?_
  refine GoR.name ?_
  intro h5 e5
  have k5 : Keeps [t.p] h3 h5 := by subst e5; exact k4.put (by simp) _
  have g5 : h5.get t.p = some (.cells [t.fn, .int .u8 t.is, .bool true, .bool t.wk, .int .u64 (t.pk + 1 : Nat)] 119) := by subst e5; exact AHeap.get_put_same _ (AHeap.lt g4) _
  clear e5 k4 n4 g4
  have n5 := k5.1
  (refine Go.run (g:=?_))
  refine GoR.store (off := 0 + 3) (n := 1) (v := .bool false) (l := [.bool false]) rfl rfl rfl rfl rfl g5 rfl rfl (show 4 ≤ 5 by decide) rfl rfl (.inl hW) ?_
  refine GoR.name ?_
  intro h6 e6
  have k6 : Keeps [t.p] h3 h6 := by subst e6; exact k5.put (by simp) _
  have g7 : h6.get t.p = some (.cells [t.fn, .int .u8 t.is, .bool true, .bool false, .int .u64 (t.pk + 1 : Nat)] 119) := by subst e6; exact AHeap.get_put_same _ (AHeap.lt g5) _
  clear e6 k5 n5 g5
  have n6 := k6.1
  have I6 : SI n0 st (l.set j (begun t)) la lc h6 := hset k6 rfl g7
  have K6 : Keeps [t.p] h h6 := ⟨by omega, fun i hi hm => by rw [k6.2 i (by omega) hm, s3.2 i hi]⟩
  rcases hst5 h6 I6 K6 with ⟨hfn, hQ⟩ | ⟨F, cp, hfn, hcl, hcall⟩
  · rw [hfn] at g7
    (refine Go.run (g:=?_))
    refine GoR.eqRef rfl rfl rfl rfl (.inr rfl) rfl rfl (aEq_fn0 stepU) ?_
    (refine Go.run (g:=?_))
    refine GoR.store (off := 0 + 2) (n := 1) (v := .bool false) (l := [.bool false]) rfl rfl rfl rfl rfl g7 rfl rfl (show 3 ≤ 5 by decide) rfl rfl (.inl hW) ?_
    refine GoR.name ?_
    intro h8 e8
    have k8 : Keeps [t.p] h6 h8 := by subst e8; exact (Keeps.rfl _ _).put (by simp) _
    have g8 : h8.get t.p = some (.cells [.nilFunc, .int .u8 t.is, .bool false, .bool false, .int .u64 (t.pk + 1 : Nat)] 119) := by subst e8; exact AHeap.get_put_same _ (AHeap.lt g7) _
    clear e8
    have n8 := k8.1
    (refine Go.run (g:=?_))
    refine GoR.store (off := 0 + 1) (n := 1) (v := .int .u8 3) (l := [.int .u8 3]) rfl rfl rfl rfl rfl g8 rfl rfl (show 2 ≤ 5 by decide) rfl rfl (.inl hW) ?_
    refine GoR.name ?_
    intro h9 e9
    have k9 : Keeps [t.p] h6 h9 := by subst e9; exact k8.put (by simp) _
    have g9 : h9.get t.p = some (.cells [.nilFunc, .int .u8 3, .bool false, .bool false, .int .u64 (t.pk + 1 : Nat)] 119) := by subst e9; exact AHeap.get_put_same h8 (AHeap.lt g8) _
    clear e9
    have hS : SI n0 st ((l.set j (begun t)).set j (ended (begun t) 3)) la lc h9 := by
      rw [List.set_set]
      refine hset (H' := h9) (t' := ended (begun t) 3) (k6.trans k9) rfl ?_
      show h9.get t.p = _
      rw [g9]
      simp [TK.cs, ended, begun, hfn]
    (refine Go.run (g:=?_))
    (first|refine Go.finT (by first|exact .inr rfl|exact .inl rfl) rfl ?_|refine Go.fin1 (by first|exact .inr rfl|exact .inl rfl) rfl (hq:=?_))
    exact .inr ⟨j, t, hjs, hkj, hrun, rfl, 3, l.set j (begun t), la, lc, begun t, h6, List.getElem?_set_self hjl, rfl, hQ, hS, k9⟩
  rw [hfn] at g7
  (refine Go.run (g:=?_))
  refine GoR.eqRef rfl rfl rfl rfl (.inr rfl) rfl rfl (aEq_fn stepU _ _ _) ?_
  (refine Go.run (g:=?_))
  refine GoR.callW rfl rfl rfl rfl rfl rfl hcl ((hcall.args (by simp)).mono ?_)
  rintro _ h7 ⟨rr, l2, la2, lc2, t2, rfl, hr256, hl2, hp2, I7, hQ⟩ k7
  refine ⟨fun i hi => .inl (List.mem_append.2 (.inr hi)), ?_⟩
  have n7 := k7.1
  have g77 := I7.tk j t2 hl2
  unfold TK.cs at g77
  rw [hp2] at g77
  have hj2 : j < l2.length := by
    rcases Nat.lt_or_ge j l2.length with q | q
    · exact q
    · rw [List.getElem?_eq_none q] at hl2; cases hl2
  have e2 : l2[j] = t2 := by rw [List.getElem?_eq_getElem hj2] at hl2; exact Option.some.inj hl2
  have hset7 := fun {H' : AHeap} {t' : TK} (k : Keeps [t.p] h7 H') (hp : t'.p = t.p) hg => I7.set (H' := H') (t' := t') hj2 (wr := []) (by rw [e2, hp2]; exact k) (by simp) (fun i hi => by cases hi) (fun u hu hi => by cases hi) (by rw [e2, hp2]; exact hp) hg
  (refine Go.run (g:=?_))
  refine GoR.store (off := 0 + 2) (n := 1) (v := .bool false) (l := [.bool false]) rfl rfl rfl rfl rfl g77 rfl rfl (show 3 ≤ 5 by decide) rfl rfl (.inl hW) ?_
  refine GoR.name ?_
  intro h8 e8
  have k8 : Keeps [t.p] h7 h8 := by subst e8; exact (Keeps.rfl _ _).put (by simp) _
  have g8 : h8.get t.p = some (.cells [t2.fn, .int .u8 t2.is, .bool false, .bool t2.wk, .int .u64 t2.pk] 119) := by subst e8; exact AHeap.get_put_same _ (AHeap.lt g77) _
  clear e8
  have n8 := k8.1
  clear gt g7 g77 k6 gb3 hz3 c0 c1 hrv hbe hbe1 hset hst5
  by_cases r2 : rr = 2
  · have r2' : (rr : Int) = 2 := by omega
    rcases hw : t2.wk with _ | _
    · rw [hw] at g8
      (refine Go.run (g:=?_))
      refine GoR.store (off := 0 + 1) (n := 1) (v := .int .u8 2) (l := [.int .u8 2]) rfl rfl rfl rfl rfl g8 rfl rfl (show 2 ≤ 5 by decide) rfl rfl (.inl hW) ?_
      refine GoR.name ?_
      intro h9 e9
      have k9 : Keeps [t.p] h7 h9 := by subst e9; exact k8.put (by simp) _
      have g9 := AHeap.get_put_same h8 (AHeap.lt g8) (some (.cells [t2.fn, .int .u8 2, .bool false, .bool t2.wk, .int .u64 t2.pk] 119))
      have hS : SI n0 st (l2.set j (ended t2 rr)) la2 lc2 h9 := by
        refine hset7 k9 hp2 ?_
        subst e9
        simp only [*, TK.cs, ended, if_true, if_false, Bool.false_eq_true] at g9 ⊢
        exact g9
      clear e9
      (refine Go.run (g:=?_))
      (first|refine Go.finT (by first|exact .inr rfl|exact .inl rfl) rfl ?_|refine Go.fin1 (by first|exact .inr rfl|exact .inl rfl) rfl (hq:=?_))
      exact .inr ⟨j, t, hjs, hkj, hrun, rfl, rr, l2, la2, lc2, t2, h7, hl2, hp2, hQ, hS, k9⟩
    · rw [hw] at g8
      (refine Go.run (g:=?_))
      refine GoR.store (off := 0 + 1) (n := 1) (v := .int .u8 1) (l := [.int .u8 1]) rfl rfl rfl rfl rfl g8 rfl rfl (show 2 ≤ 5 by decide) rfl rfl (.inl hW) ?_
      refine GoR.name ?_
      intro h9 e9
      have k9 : Keeps [t.p] h7 h9 := by subst e9; exact k8.put (by simp) _
      have g9 := AHeap.get_put_same h8 (AHeap.lt g8) (some (.cells [t2.fn, .int .u8 1, .bool false, .bool t2.wk, .int .u64 t2.pk] 119))
      have hS : SI n0 st (l2.set j (ended t2 rr)) la2 lc2 h9 := by
        refine hset7 k9 hp2 ?_
        subst e9
        simp only [*, TK.cs, ended, if_true, if_false, Bool.false_eq_true] at g9 ⊢
        exact g9
      clear e9
      (refine Go.run (g:=?_))
      (first|refine Go.finT (by first|exact .inr rfl|exact .inl rfl) rfl ?_|refine Go.fin1 (by first|exact .inr rfl|exact .inl rfl) rfl (hq:=?_))
      exact .inr ⟨j, t, hjs, hkj, hrun, rfl, rr, l2, la2, lc2, t2, h7, hl2, hp2, hQ, hS, k9⟩
  · have r2' : ¬ (rr : Int) = 2 := by omega
    have hw := t2.wk
    by_cases r1 : rr = 1
    · have r1' : (rr : Int) = 1 := by omega
      (refine Go.run (g:=?_))
      refine GoR.store (off := 0 + 1) (n := 1) (v := .int .u8 1) (l := [.int .u8 1]) rfl rfl rfl rfl rfl g8 rfl rfl (show 2 ≤ 5 by decide) rfl rfl (.inl hW) ?_
      refine GoR.name ?_
      intro h9 e9
      have k9 : Keeps [t.p] h7 h9 := by subst e9; exact k8.put (by simp) _
      have g9 := AHeap.get_put_same h8 (AHeap.lt g8) (some (.cells [t2.fn, .int .u8 1, .bool false, .bool t2.wk, .int .u64 t2.pk] 119))
      have hS : SI n0 st (l2.set j (ended t2 rr)) la2 lc2 h9 := by
        refine hset7 k9 hp2 ?_
        subst e9
        simp only [*, TK.cs, ended, if_true, if_false, Bool.false_eq_true] at g9 ⊢
        exact g9
      clear e9
      (refine Go.run (g:=?_))
      (first|refine Go.finT (by first|exact .inr rfl|exact .inl rfl) rfl ?_|refine Go.fin1 (by first|exact .inr rfl|exact .inl rfl) rfl (hq:=?_))
      exact .inr ⟨j, t, hjs, hkj, hrun, rfl, rr, l2, la2, lc2, t2, h7, hl2, hp2, hQ, hS, k9⟩
    · have r1' : ¬ (rr : Int) = 1 := by omega
      (refine Go.run (g:=?_))
      refine GoR.store (off := 0 + 1) (n := 1) (v := .int .u8 3) (l := [.int .u8 3]) rfl rfl rfl rfl rfl g8 rfl rfl (show 2 ≤ 5 by decide) rfl rfl (.inl hW) ?_
      refine GoR.name ?_
      intro h9 e9
      have k9 : Keeps [t.p] h7 h9 := by subst e9; exact k8.put (by simp) _
      have g9 := AHeap.get_put_same h8 (AHeap.lt g8) (some (.cells [t2.fn, .int .u8 3, .bool false, .bool t2.wk, .int .u64 t2.pk] 119))
      have hS : SI n0 st (l2.set j (ended t2 rr)) la2 lc2 h9 := by
        refine hset7 k9 hp2 ?_
        subst e9
        simp only [*, TK.cs, ended, if_true, if_false, Bool.false_eq_true] at g9 ⊢
        exact g9
      clear e9
      (refine Go.run (g:=?_))
      (first|refine Go.finT (by first|exact .inr rfl|exact .inl rfl) rfl ?_|refine Go.fin1 (by first|exact .inr rfl|exact .inl rfl) rfl (hq:=?_))
      exact .inr ⟨j, t, hjs, hkj, hrun, rfl, rr, l2, la2, lc2, t2, h7, hl2, hp2, hQ, hS, k9⟩
theorem find_out (n0 st : Nat) (l : List TK) (hl : l.length ≤ 1000000) (la : Option Addr) (lc : Nat) (h : AHeap) (I : SI n0 st l la lc h) (n : Int) (hn : -9223372036854775808 ≤ n ∧ n ≤ 9223372036854775807) (ho : n < 0 ∨ (l.length : Int) ≤ n) : CallS Try.prog [] 67 [.pointer (some ⟨st, 0, none⟩), .int .i64 n] h fun v h' => v = .pointer none ∧ h' = h := by
  have gb := I.sb
  (refine CallS.of2 Try.func67 rfl Try.ntmps67 Try.results67 rfl ?_)
  (refine Go.run (g:=?_))
  refine GoR.eqRef rfl rfl rfl rfl (.inl rfl) rfl rfl (aEq_some schedU _) ?_
  rcases Int.lt_or_le n 0 with q | q
  · (refine Go.run (g:=?_))
    (first|refine Go.finT (by first|exact .inr rfl|exact .inl rfl) rfl ?_|refine Go.fin1 (by first|exact .inr rfl|exact .inl rfl) rfl (hq:=?_))
    exact ⟨rfl, rfl⟩
  · have q' : ¬ n < 0 := by omega
    have q2 : (l.length : Int) ≤ n := by omega
    (refine Go.run (g:=?_))
    (first|refine Go.finT (by first|exact .inr rfl|exact .inl rfl) rfl ?_|refine Go.fin1 (by first|exact .inr rfl|exact .inl rfl) rfl (hq:=?_))
    exact ⟨rfl, rfl⟩
theorem done_out (n0 st : Nat) (l : List TK) (hl : l.length ≤ 1000000) (la : Option Addr) (lc : Nat) (h : AHeap) (I : SI n0 st l la lc h) (n : Int) (hn : -9223372036854775808 ≤ n ∧ n ≤ 9223372036854775807) (ho : n < 0 ∨ (l.length : Int) ≤ n) : CallS Try.prog [] 24 [.pointer (some ⟨st, 0, none⟩), .int .i64 n] h fun v h' => v = .bool false ∧ h' = h := by
  (refine CallS.of2 Try.func24 rfl Try.ntmps24 Try.results24 rfl ?_)
  (refine Go.run (g:=?_))
  refine GoR.call rfl rfl rfl rfl rfl rfl rfl (((find_out n0 st l hl la lc _ I n hn ho).argA).mono ?_)
  rintro _ h3 ⟨rfl, rfl⟩ -
  (refine Go.run (g:=?_))
  refine GoR.eqRef rfl rfl rfl rfl (.inr rfl) rfl rfl (aEq_nil oneU) ?_
  (refine Go.run (g:=?_))
  (first|refine Go.finT (by first|exact .inr rfl|exact .inl rfl) rfl ?_|refine Go.fin1 (by first|exact .inr rfl|exact .inl rfl) rfl (hq:=?_))
  exact ⟨rfl, rfl⟩
theorem picks_out (n0 st : Nat) (l : List TK) (hl : l.length ≤ 1000000) (la : Option Addr) (lc : Nat) (h : AHeap) (I : SI n0 st l la lc h) (n : Int) (hn : -9223372036854775808 ≤ n ∧ n ≤ 9223372036854775807) (ho : n < 0 ∨ (l.length : Int) ≤ n) : CallS Try.prog [] 25 [.pointer (some ⟨st, 0, none⟩), .int .i64 n] h fun v h' => v = .int .u64 0 ∧ h' = h := by
  (refine CallS.of2 Try.func25 rfl Try.ntmps25 Try.results25 rfl ?_)
  (refine Go.run (g:=?_))
  refine GoR.call rfl rfl rfl rfl rfl rfl rfl (((find_out n0 st l hl la lc _ I n hn ho).argA).mono ?_)
  rintro _ h3 ⟨rfl, rfl⟩ -
  (refine Go.run (g:=?_))
  refine GoR.eqRef rfl rfl rfl rfl (.inl rfl) rfl rfl (aEq_nil oneU) ?_
  (refine Go.run (g:=?_))
  (first|refine Go.finT (by first|exact .inr rfl|exact .inl rfl) rfl ?_|refine Go.fin1 (by first|exact .inr rfl|exact .inl rfl) rfl (hq:=?_))
  exact ⟨rfl, rfl⟩
theorem wake_out (n0 st : Nat) (l : List TK) (hl : l.length ≤ 1000000) (la : Option Addr) (lc : Nat) (h : AHeap) (I : SI n0 st l la lc h) (n : Int) (hn : -9223372036854775808 ≤ n ∧ n ≤ 9223372036854775807) (ho : n < 0 ∨ (l.length : Int) ≤ n) : CallS Try.prog [] 17 [.pointer (some ⟨st, 0, none⟩), .int .i64 n] h fun v h' => v = .bool false ∧ h' = h := by
  (refine CallS.of2 Try.func17 rfl Try.ntmps17 Try.results17 rfl ?_)
  (refine Go.run (g:=?_))
  refine GoR.call rfl rfl rfl rfl rfl rfl rfl (((find_out n0 st l hl la lc _ I n hn ho).argA).mono ?_)
  rintro _ h3 ⟨rfl, rfl⟩ -
  (refine Go.run (g:=?_))
  refine GoR.eqRef rfl rfl rfl rfl (.inl rfl) rfl rfl (aEq_nil oneU) ?_
  (refine Go.run (g:=?_))
  (first|refine Go.finT (by first|exact .inr rfl|exact .inl rfl) rfl ?_|refine Go.fin1 (by first|exact .inr rfl|exact .inl rfl) rfl (hq:=?_))
  exact ⟨rfl, rfl⟩
theorem rwake_out (n0 rr : Nat) (l : List TK) (hl : l.length ≤ 1000000) (ra : Option Addr) (rc : Nat) (h : AHeap) (I : RI n0 rr l ra rc h) (n : Int) (hn : -9223372036854775808 ≤ n ∧ n ≤ 9223372036854775807) (ho : n < 0 ∨ (l.length : Int) ≤ n) : CallS Try.prog [] 18 [.pointer (some ⟨rr, 0, none⟩), .int .i64 n] h fun v h' => v = .bool false ∧ h' = h := by
  have gb := I.sb
  (refine CallS.of2 Try.func18 rfl Try.ntmps18 Try.results18 rfl ?_)
  rcases Int.lt_or_le n 0 with q | q
  · (refine Go.run (g:=?_))
    (first|refine Go.finT (by first|exact .inr rfl|exact .inl rfl) rfl ?_|refine Go.fin1 (by first|exact .inr rfl|exact .inl rfl) rfl (hq:=?_))
    exact ⟨rfl, rfl⟩
  · have q' : ¬ n < 0 := by omega
    have q2 : (l.length : Int) ≤ n := by omega
    (refine Go.run (g:=?_))
    (first|refine Go.finT (by first|exact .inr rfl|exact .inl rfl) rfl ?_|refine Go.fin1 (by first|exact .inr rfl|exact .inl rfl) rfl (hq:=?_))
    exact ⟨rfl, rfl⟩
theorem rwake_in (n0 rr : Nat) (l : List TK) (hl : l.length ≤ 1000000) (ra : Option Addr) (rc : Nat) (h : AHeap) (I : RI n0 rr l ra rc h) (j : Nat) (t : TK) (hj : l[j]? = some t) : CallS Try.prog (blk ra) 18 [.pointer (some ⟨rr, 0, none⟩), .int .i64 j] h fun v h' => v = .bool (wakeB t) ∧ RI n0 rr (l.set j (wakeT t)) ra rc h' := by
  have hjl := lt_of_some' hj
  have gb := I.sb
  have sv := I.sv
  have hz := sv.rv (P := Try.prog)
  have hnb := I.nb
  have hown := I.own
  have hlt := I.lt
  have hbe : j * 4 < (rcs l).length := by rw [rcs_len]; omega
  have hl0 := rcs_len l
  have c0 := rcs_0 hj
  have c1 := rcs_1 hj
  obtain ⟨p, fn, is, inn, wk, pk⟩ := t
  simp only at c0 c1
  have n1 : ¬ (j : Int) < 0 := by omega
  have n2 : ¬ (l.length : Int) ≤ j := by omega
  cases inn
  · by_cases q : is = 2
    · have q' : (is : Int) = 2 := by omega
      have e3 := rcs_set (l := l) (i := j) (j := 0) (v := .int .i64 1) (t' := ⟨p, fn, 1, false, wk, pk⟩) hj (by decide) rfl
      (refine CallS.of2 Try.func18 rfl Try.ntmps18 Try.results18 rfl ?_)
      (refine Go.run (g:=?_))
      refine GoR.store1' rfl rfl rfl rfl rfl rfl (hS := sv) (kv := j * 4 + 0) (hw := fun i hi => .inl hi) (g := ?_)
      intro h4 sv4 k4 n4
      (refine Go.run (g:=?_))
      (first|refine Go.finT (by first|exact .inr rfl|exact .inl rfl) rfl ?_|refine Go.fin1 (by first|exact .inr rfl|exact .inl rfl) rfl (hq:=?_))
      refine ⟨by simp [retV, wakeB, q], ?_⟩
      rw [show wakeT ⟨p, fn, is, false, wk, pk⟩ = ⟨p, fn, 1, false, wk, pk⟩ from by simp [wakeT, q]]
      exact I.put sv4 k4 e3
    · have q' : ¬ (is : Int) = 2 := by omega
      (refine CallS.of2 Try.func18 rfl Try.ntmps18 Try.results18 rfl ?_)
      (refine Go.run (g:=?_))
      (first|refine Go.finT (by first|exact .inr rfl|exact .inl rfl) rfl ?_|refine Go.fin1 (by first|exact .inr rfl|exact .inl rfl) rfl (hq:=?_))
      refine ⟨by simp [retV, wakeB, q], ?_⟩
      rw [show wakeT ⟨p, fn, is, false, wk, pk⟩ = ⟨p, fn, is, false, wk, pk⟩ from by simp [wakeT, q], set_same hj]
      exact I
  · have e3 := rcs_set (l := l) (i := j) (j := 2) (v := .bool true) (t' := ⟨p, fn, is, true, true, pk⟩) hj (by decide) rfl
    (refine CallS.of2 Try.func18 rfl Try.ntmps18 Try.results18 rfl ?_)
    (refine Go.run (g:=?_))
    refine GoR.store1' rfl rfl rfl rfl rfl rfl (hS := sv) (kv := j * 4 + 2) (hw := fun i hi => .inl hi) (g := ?_)
    intro h4 sv4 k4 n4
    (refine Go.run (g:=?_))
    (first|refine Go.finT (by first|exact .inr rfl|exact .inl rfl) rfl ?_|refine Go.fin1 (by first|exact .inr rfl|exact .inl rfl) rfl (hq:=?_))
    refine ⟨by simp [retV, wakeB], ?_⟩
    rw [show wakeT ⟨p, fn, is, true, wk, pk⟩ = ⟨p, fn, is, true, true, pk⟩ from by simp [wakeT]]
    exact I.put sv4 k4 e3
set_option maxHeartbeats 2000000 in
theorem spawn_nil (n0 st : Nat) (l : List TK) (hl : l.length ≤ 1000000) (la : Option Addr) (lc : Nat) (h : AHeap) (I : SI n0 st l la lc h) : CallS Try.prog (st :: blk la) 26 [.pointer (some ⟨st, 0, none⟩), .nilFunc] h fun v h' => v = .int .i64 l.length ∧ ∃ la' lc' p, SI n0 st (l ++ [⟨p, .nilFunc, 1, false, false, 0⟩]) la' lc' h' ∧ h.n ≤ p ∧ (∀ i ∈ blk la', i ∈ blk la ∨ h.n ≤ i) := by
  have gb := I.sb
  have hlt := I.lt
  have hst := I.st
  have hsl := I.sv.lt
  (refine CallS.of2 Try.func26 rfl Try.ntmps26 Try.results26 rfl ?_)
  (refine Go.run (g:=?_))
  refine GoR.eqRef rfl rfl rfl rfl (.inl rfl) rfl rfl (aEq_some schedU _) ?_
  (refine Go.run (g:=?_))
  refine GoR.name ?_
  intro h3 e3
  have g3 : h3.get h.n = some (.cells [.nilFunc, .int .u8 1, .bool false, .bool false, .int .u64 0] 119) := by subst e3; exact AHeap.get_push_same h _
  have s3 : Same h h3 := by subst e3; exact (Same.refl h).push _
  have n3 : h3.n = h.n + 1 := by subst e3; rfl
  clear e3
  refine GoR.buildRo (c := [.pointer (some ⟨h.n, 0, none⟩)]) rfl rfl rfl rfl rfl (by decide) (by rfl) (by rfl) ?_
  intro b8 h8 hb8 rb8 ob8 s8 n8
  have I8 := I.same (s3.trans s8)
  refine GoR.appendV rfl rfl rfl rfl rfl rfl I8.sv hb8 (fun i hi => .inl (List.mem_cons_of_mem _ hi)) (by omega) (by omega) (by rfl) ?_
  intro b9 c9 h9 hs9 k9 o9
  have m9 := k9.1
  have stl : st ∉ blk la := fun hi => by have := I.own _ hi; omega
  have gs9 := k9.get I8.sb stl
  have gn9 := k9.get (s8.get g3) (fun hi => by have := hsl _ hi; omega)
  have hno : h.n ∉ blk b9 := fun hi => by
    rcases o9 _ hi with x | x
    · have := hsl _ x; omega
    · omega
  (iterate 2 (first|refine GoR.end ?_|(refine GoR.gd rfl ?_;first|refine GoR.wanted' rfl rfl rfl rfl (g:=?_)|refine GoR.unwanted' rfl rfl rfl rfl (hd:=rfl) (hN:=rfl) (g:=?_)|refine GoR.unwantedU rfl rfl rfl rfl rfl rfl ?_)|(refine GoR.kk 0 rfl ?_;first|refine GoR.move rfl rfl rfl rfl rfl ?_|refine GoR.assign rfl rfl rfl rfl rfl ?_)|(refine GoR.kk 1 rfl ?_;first|refine GoR.load' rfl rfl rfl rfl rfl (g:=?_)|refine GoR.loadA' rfl rfl rfl rfl rfl (hv:=rfl) (g:=?_)|refine GoR.loadV' rfl rfl rfl rfl rfl (g:=?_)|refine GoR.loadVN' rfl rfl rfl rfl rfl (g:=?_))|(refine GoR.kk 2 rfl ?_;first|refine GoR.store' rfl rfl rfl rfl rfl (hl:=rfl) (h1:=rfl) (h3:=rfl) (g:=?_))|(refine GoR.kk 3 rfl ?_;first|refine GoR.fieldAddr rfl rfl rfl rfl rfl ?_|refine GoR.indexN' rfl rfl rfl rfl rfl rfl (g:=?_)|refine GoR.indexNs' rfl rfl rfl rfl rfl rfl (g:=?_)|refine GoR.indexV' rfl rfl rfl rfl rfl rfl (g:=?_)|refine GoR.indexA' rfl rfl rfl rfl rfl rfl (g:=?_)|refine GoR.fieldV' rfl rfl rfl rfl rfl (g:=?_))|(refine GoR.kk 4 rfl ?_;first|refine GoR.eq rfl rfl rfl rfl rfl rfl ?_|refine GoR.ne rfl rfl rfl rfl rfl rfl ?_|refine GoR.lt rfl rfl rfl rfl rfl rfl ?_|refine GoR.le rfl rfl rfl rfl rfl rfl ?_|refine GoR.gt rfl rfl rfl rfl rfl rfl ?_|refine GoR.ge rfl rfl rfl rfl rfl rfl ?_|refine GoR.addN' rfl rfl rfl rfl rfl rfl (g:=?_)|refine GoR.subN' rfl rfl rfl rfl rfl rfl (g:=?_)|refine GoR.add' rfl rfl rfl rfl rfl rfl (g:=?_)|refine GoR.sub' rfl rfl rfl rfl rfl rfl (g:=?_)|refine GoR.addM' rfl rfl rfl rfl rfl rfl (g:=?_)|refine GoR.subM' rfl rfl rfl rfl rfl rfl (g:=?_)|refine GoR.mulM' rfl rfl rfl rfl rfl rfl (g:=?_)|refine GoR.shrN rfl rfl rfl rfl rfl rfl rfl ?_|refine GoR.structEq rfl rfl rfl rfl rfl rfl (by rfl) (by rfl) ?_|refine GoR.structNe rfl rfl rfl rfl rfl rfl (by rfl) (by rfl) ?_|refine GoR.strEq rfl rfl rfl rfl rfl rfl ?_|refine GoR.strNe rfl rfl rfl rfl rfl rfl ?_|refine GoR.remN' rfl rfl rfl rfl rfl rfl (g:=?_)|refine GoR.quoN' rfl rfl rfl rfl rfl rfl (g:=?_)|refine GoR.shlN' rfl rfl rfl rfl rfl rfl rfl (g:=?_)|refine GoR.orN' rfl rfl rfl rfl rfl rfl (g:=?_))|(refine GoR.kk 5 rfl ?_;first|refine GoR.len rfl rfl rfl rfl rfl ?_|refine GoR.lenStr rfl rfl rfl rfl rfl ?_|refine GoR.capB rfl rfl rfl rfl rfl ?_)|(refine GoR.kk 7 rfl ?_;first|refine GoR.pickE' rfl rfl rfl rfl rfl (hx:=rfl) (hy:=rfl) (g:=?_)|refine GoR.pickN' rfl rfl rfl rfl rfl (hx:=rfl) (hy:=rfl) (g:=?_)|refine GoR.pickB rfl rfl rfl rfl rfl rfl rfl ?_)|(refine GoR.kk 8 rfl ?_;first|refine GoR.boxA rfl rfl rfl rfl rfl ?_|refine GoR.boxS rfl rfl rfl rfl rfl rfl ?_|refine GoR.alloc rfl rfl rfl rfl ?_)|(refine GoR.kk 9 rfl ?_;first|refine GoR.strV' rfl rfl rfl rfl rfl (g:=?_)|refine GoR.conv_u8 rfl rfl rfl rfl rfl ?_|refine GoR.convW' rfl rfl rfl rfl rfl (g:=?_)|refine GoR.conv_u16 rfl rfl rfl rfl rfl ?_|refine GoR.conv_u32 rfl rfl rfl rfl rfl ?_)|(refine GoR.kk 10 rfl ?_;first|refine GoR.build' rfl rfl rfl rfl rfl rfl (g:=?_))|(refine GoR.kk 11 rfl ?_;first|refine GoR.extract rfl rfl rfl rfl rfl rfl ?_|refine GoR.not rfl rfl rfl rfl rfl ?_|refine GoR.nilCheck rfl rfl rfl rfl rfl ?_|refine GoR.nilCheckF rfl rfl rfl rfl rfl ?_|refine GoR.makeFunc rfl rfl rfl rfl rfl rfl ?_)|(refine Go.kk 0 rfl ?_;refine Go.seq ?_)|(refine Go.kk 1 rfl ?_;refine Go.region (by kernel_rfl) rfl ?_)|(refine Go.kk 2 rfl ?_;refine Go.drawnQ rfl (by kernel_rfl) rfl ?_)|(refine Go.kk 3 rfl ?_;first|refine Go.cond_t' rfl (g:=?_)|refine Go.cond_f' rfl (g:=?_))|(refine Go.kk 4 rfl ?_;refine Go.block ?_)|(refine Go.kk 5 rfl ?_;first|refine Go.skip ?_|refine Go.ret ?_|refine Go.exit ?_|refine Go.scope ?_)|refine Go.leave_normal ?_|refine Go.leave_same ?_|refine Go.leave_ret ?_|refine Go.ret_code ?_|refine Go.exit_code ?_|refine Go.leave_other rfl ?_|refine Go.sc_normal ?_|refine Go.sc_ret ?_|refine Go.sc_exit ?_|refine Go.exit_back ?_|refine Go.ret_back ?_))
  refine GoR.store (off := 0) (n := 1) (v := .slice b9 (l.length + 1) c9) (l := [.slice b9 (l.length + 1) c9]) rfl rfl rfl rfl rfl gs9 rfl rfl (Nat.le_refl _) rfl rfl (.inl (by simp)) ?_
  refine GoR.name ?_
  intro h12 e12
  have k12 : Keeps [st] h9 h12 := by subst e12; exact (Keeps.rfl _ _).put (by simp) _
  have g12 : h12.get st = some (.cells [.slice b9 (l.length + 1) c9] 113) := by subst e12; exact AHeap.get_put_same _ (AHeap.lt gs9) _
  clear e12
  have n12 := k12.1
  (refine Go.run (g:=?_))
  (first|refine Go.finT (by first|exact .inr rfl|exact .inl rfl) rfl ?_|refine Go.fin1 (by first|exact .inr rfl|exact .inl rfl) rfl (hq:=?_))
  have ho : ∀ i ∈ blk b9, i ∈ blk la ∨ h.n ≤ i := fun i hi => by
    rcases o9 i hi with x | x
    · exact .inl x
    · exact .inr (by omega)
  have sb9 : st ∉ blk b9 := fun hi => by
    rcases o9 _ hi with x | x
    · exact stl x
    · omega
  have S8 := s3.trans s8
  have K : Keeps (st :: blk la) h h12 := ⟨by omega, fun i hi hn => by
    simp only [List.mem_cons, not_or] at hn
    rw [k12.2 i (by omega) (by simp only [List.mem_singleton]; exact hn.1), k9.2 i (by omega) hn.2, S8.2 i hi]⟩
  refine ⟨by simp [retV], b9, c9, h.n, ?_, Nat.le_refl _, ho⟩
  refine I.snoc K g12 (hs9.keeps k12 (fun i hi hm => ?_)) (Nat.le_refl _) (k12.get gn9 ?_) ho hno
  · simp only [List.mem_singleton] at hm
    subst hm
    exact sb9 hi
  · simp only [List.mem_singleton]
    omega
theorem same25_spec (r : List Int) (hr : r.length ≤ 1000000) (a b : Option Addr) (ca cb : Nat) (h : AHeap) (ha : Rv Try.prog h 1 a r.length ca (ints r)) (hb : Rv Try.prog h 1 b r.length cb (ints r)) : CallS Try.prog [] 19 [.slice a r.length ca, .slice b r.length cb] h fun v h' => v = .bool true ∧ h' = h := by
  (refine CallS.of2 Try.func19 rfl Try.ntmps19 Try.results19 rfl ?_)
  (refine Go.run (g:=?_))
  refine Go.loop (α := Nat) (fun i => [(14, .int .i64 i), (13, .int .i64 r.length), (12, .slice a r.length ca), (1, .slice b r.length cb)]) (fun _ => []) (fun _ => h) (fun i => i ≤ r.length) (fun i => r.length - i) 0 ?_ ?_ rfl rfl ?_
  · exact Nat.zero_le _
  · exact ⟨rfl, rfl, rfl, rfl, trivial⟩
  intro i hi
  rcases Nat.lt_or_ge i r.length with i0 | i0
  · have c0 := ints_get i0
    have hbe : i < (ints r).length := by rw [ints_len]; exact i0
    generalize r[i] = x at *
    (refine Go.run (g:=?_))
    exact Go.again (i + 1) i0 (by omega) ⟨rfl, rfl, rfl, rfl, trivial⟩ rfl rfl
  · (refine Go.run (g:=?_))
    (first|refine Go.finT (by first|exact .inr rfl|exact .inl rfl) rfl ?_|refine Go.fin1 (by first|exact .inr rfl|exact .inl rfl) rfl (hq:=?_))
    exact ⟨rfl, rfl⟩
end Go.Proofs.Ytacfneokhmnkbaa
namespace Go.Proofs.Ytacfneokhmnkbaa
set_option maxRecDepth 100000
abbrev ptr (b : Nat) : Value := .pointer (some ⟨b, 0, none⟩)
abbrev I64' (n : Int) : Prop := -9223372036854775808 ≤ n ∧ n ≤ 9223372036854775807
structure AC where
  wa : Option Addr
  wc : Nat
  ws : List Int
  sp : Bool
  pk : Int
  tl : Nat
def aC (x : AC) : List Value := [.slice x.wa x.ws.length x.wc, .bool x.sp, .int .i64 x.pk, .int .u8 x.tl]
def acs (l : List AC) : List Value := (l.map aC).flatten
theorem acs_cons (t : AC) (l : List AC) : acs (t :: l) = aC t ++ acs l := rfl
theorem aC_len (t : AC) : (aC t).length = 4 := rfl
theorem acs_len : ∀ l : List AC, (acs l).length = l.length * 4
  | [] => rfl
  | t :: l => by rw [acs_cons, List.length_append, aC_len, acs_len l, List.length_cons]; omega
theorem acs_get {l : List AC} {i : Nat} {t : AC} (h : l[i]? = some t) : ((acs l).drop (i * 4)).take 4 = [.slice t.wa t.ws.length t.wc, .bool t.sp, .int .i64 t.pk, .int .u8 t.tl] := by
  induction l generalizing i with
  | nil => simp at h
  | cons a l ih =>
    cases i with
    | zero =>
      simp at h; subst h
      rw [acs_cons, Nat.zero_mul, List.drop_zero]
      exact List.take_left' (aC_len _)
    | succ i =>
      rw [acs_cons, show (i + 1) * 4 = (aC a).length + i * 4 from by rw [aC_len]; omega, ← List.drop_drop, List.drop_left' rfl]
      exact ih (by simpa using h)
theorem acs_drop : ∀ (l : List AC) (k : Nat), (acs l).drop (k * 4) = acs (l.drop k)
  | [], k => by simp [acs]
  | a :: l, 0 => by simp
  | a :: l, k + 1 => by
    rw [acs_cons, show (k + 1) * 4 = (aC a).length + k * 4 from by rw [aC_len]; omega, ← List.drop_drop, List.drop_left' rfl, List.drop_succ_cons]
    exact acs_drop l k
structure AOk (B : Nat) (H : AHeap) (x : AC) : Prop where
  rv : Rv Try.prog H 1 x.wa x.ws.length x.wc (ints x.ws)
  lt : ∀ i ∈ blk x.wa, i < B
  ws : ∀ w ∈ x.ws, I64' w
  len : x.ws.length ≤ 200
  pk : I64' x.pk
  tl : x.tl < 256
structure ARow (B : Nat) (H : AHeap) (xa : Option Addr) (xc : Nat) (acts : List AC) : Prop where
  rv : Rv Try.prog H 4 xa acts.length xc (acs acts)
  lt : ∀ i ∈ blk xa, i < B
  ok : ∀ x ∈ acts, AOk B H x
  len : acts.length ≤ 200
theorem ARow.keeps {B : Nat} {H H' : AHeap} {xa : Option Addr} {xc : Nat} {acts : List AC} {wr : List Nat} (R : ARow B H xa xc acts) (k : Keeps wr H H') (hw : ∀ b ∈ wr, B ≤ b) : ARow B H' xa xc acts :=
  ⟨R.rv.keeps k (fun i hi hm => by have := R.lt i hi; have := hw i hm; omega), R.lt, fun x hx => by
    have o := R.ok x hx
    exact { o with rv := o.rv.keeps k (fun i hi hm => by have := o.lt i hi; have := hw i hm; omega) }, R.len⟩
structure CL where
  k : Nat
  xa : Option Addr
  xc : Nat
  acts : List AC
  at_ : Nat
abbrev cloP (k : Nat) : Value := .func (.func 64) #[] #[ptr k, ptr (k + 2), ptr (k + 3), ptr (k + 1)]
structure CI1 (B n0 pp : Nat) (col : Nat → Nat) (H : AHeap) (i : Nat) (c : CL) : Prop where
  g0 : H.get c.k = some (.cells [ptr pp] 30)
  g1 : H.get (c.k + 1) = some (.cells [.slice c.xa c.acts.length c.xc] 24)
  g2 : H.get (c.k + 2) = some (.cells [.int .i64 i] 3)
  g3 : H.get (c.k + 3) = some (.cells [.int .i64 c.at_] 3)
  at_ : c.at_ ≤ c.acts.length
  ge : n0 ≤ c.k
  col : ∀ r, r < 4 → col (c.k + r) = 10 * i + 2
  row : ARow B H c.xa c.xc c.acts
def CI (B n0 pp : Nat) (col : Nat → Nat) (H : AHeap) (i : Nat) (t : TK) (c : CL) : Prop := t.fn = .nilFunc ∨ t.fn = cloP c.k ∧ CI1 B n0 pp col H i c
theorem CI1.keeps {B n0 pp : Nat} {col : Nat → Nat} {H H' : AHeap} {i : Nat} {c : CL} {wr : List Nat} (C : CI1 B n0 pp col H i c) (k : Keeps wr H H') (h1 : ∀ b ∈ wr, B ≤ b) (h2 : ∀ b ∈ wr, b < n0 ∨ col b ≠ 10 * i + 2) : CI1 B n0 pp col H' i c := by
  have hge := C.ge
  have no : ∀ r, r < 4 → c.k + r ∉ wr := fun r hr hm => by
    rcases h2 _ hm with h | h
    · omega
    · exact h (C.col r hr)
  exact { C with g0 := k.get C.g0 (no 0 (by decide)), g1 := k.get C.g1 (no 1 (by decide)), g2 := k.get C.g2 (no 2 (by decide)), g3 := k.get C.g3 (no 3 (by decide)), row := C.row.keeps k h1 }
theorem CI.keeps {B n0 pp : Nat} {col : Nat → Nat} {H H' : AHeap} {i : Nat} {t : TK} {c : CL} {wr : List Nat} (C : CI B n0 pp col H i t c) (k : Keeps wr H H') (h1 : ∀ b ∈ wr, B ≤ b) (h2 : ∀ b ∈ wr, b < n0 ∨ col b % 10 ≠ 2) : CI B n0 pp col H' i t c :=
  C.imp id fun ⟨a, b⟩ => ⟨a, b.keeps k h1 fun x hx => (h2 x hx).imp id fun h e => h (by omega)⟩
structure PS where
  l : List TK
  la : Option Addr
  lc : Nat
  ra : Option Addr
  rc : Nat
  ta : Option Addr
  tc : Nat
  told : List Int
  cl : List CL
  left : Int
  deep : Nat
  col : Nat → Nat
abbrev PS.cs (S : PS) (st rr : Nat) : List Value := [ptr st, ptr rr, .slice S.ta S.l.length S.tc, .bool false, .int .i64 S.left, .int .i64 S.deep]
structure PW where
  B : Nat
  n0 : Nat
  pp : Nat
  rr : Nat
  st : Nat
structure PW.ok (w : PW) : Prop where
  p : w.B ≤ w.pp ∧ w.pp < w.n0
  r : w.B ≤ w.rr ∧ w.rr < w.n0
  s : w.B ≤ w.st ∧ w.st < w.n0
  ne : w.pp ≠ w.rr ∧ w.pp ≠ w.st ∧ w.rr ≠ w.st
structure PP (w : PW) (S : PS) (H : AHeap) : Prop where
  ok : w.ok
  si : SI w.n0 w.st S.l S.la S.lc H
  ri : RI w.n0 w.rr S.l S.ra S.rc H
  gp : H.get w.pp = some (.cells (S.cs w.st w.rr) 38)
  tv : Sv H 3 1 S.ta S.l.length S.tc (ints S.told)
  tl : S.told.length = S.l.length
  town : Own w.n0 S.ta
  cll : S.cl.length = S.l.length
  cli : ∀ (i : Nat) (t : TK) (c : CL), S.l[i]? = some t → S.cl[i]? = some c → CI w.B w.n0 w.pp S.col H i t c
  ctp : ∀ (i : Nat) (t : TK), S.l[i]? = some t → S.col t.p = 10 * i + 1
  cla : ∀ b ∈ blk S.la, S.col b = 3
  cra : ∀ b ∈ blk S.ra, S.col b = 4
  cta : ∀ b ∈ blk S.ta, S.col b = 5
  b1 : S.l.length + S.left.toNat ≤ 600
  b2 : ∀ t ∈ S.l, t.pk + S.left.toNat ≤ 600
  b3 : ∀ t ∈ S.l, t.is < 256
  ck : ∀ c ∈ S.cl, w.B ≤ c.k ∧ c.k + 3 < H.n
  nil3 : ∀ (i : Nat) (t : TK), S.l[i]? = some t → t.fn = .nilFunc → S.told[i]? = some 3
def wrS (w : PW) (S : PS) : List Nat := [w.pp, w.rr, w.st] ++ (blk S.la ++ (blk S.ra ++ (blk S.ta ++ (S.l.map (·.p) ++ S.cl.map (·.k + 3)))))
theorem mem_wrS {w : PW} {S : PS} {b : Nat} : b ∈ wrS w S ↔ b = w.pp ∨ b = w.rr ∨ b = w.st ∨ b ∈ blk S.la ∨ b ∈ blk S.ra ∨ b ∈ blk S.ta ∨ (∃ t ∈ S.l, t.p = b) ∨ ∃ c ∈ S.cl, c.k + 3 = b := by
  simp only [wrS, List.mem_append, List.mem_cons, List.not_mem_nil, or_false, List.mem_map, or_assoc]
section
variable {w : PW} {S : PS} {H H' : AHeap}
theorem PP.lt600 (P : PP w S H) : S.l.length ≤ 600 := by have := P.b1; omega
theorem PP.same (P : PP w S H) (s : Same H H') : PP w S H' :=
  { P with ck := fun c hc => ⟨(P.ck c hc).1, Nat.lt_of_lt_of_le (P.ck c hc).2 s.1⟩, si := P.si.same s, ri := P.ri.same s, gp := s.get P.gp, tv := P.tv.same s, cli := fun i t c h1 h2 => (P.cli i t c h1 h2).keeps (s.keeps []) (fun b hb => by cases hb) (fun b hb => by cases hb) }
theorem PP.setP (P : PP w S H) (k : Keeps [w.pp] H H') {left : Int} {deep : Nat} (hg : H'.get w.pp = some (.cells [ptr w.st, ptr w.rr, .slice S.ta S.l.length S.tc, .bool false, .int .i64 left, .int .i64 deep] 38)) (hb1 : S.l.length + left.toNat ≤ 600) (hb2 : ∀ t ∈ S.l, t.pk + left.toNat ≤ 600) : PP w { S with left := left, deep := deep } H' := by
  have o := P.ok
  have op := o.p
  have on := o.ne
  have m : ∀ {b : Nat}, b ∈ [w.pp] → b = w.pp := fun hb => by simpa using hb
  exact { P with
    si := P.si.keeps k (fun h => on.2.1 (m h).symm) (fun i hi hb => by have := m hi; have := P.si.own _ hb; omega) (fun t ht h => by have := m h; have := (P.si.ge t ht).1; omega)
    ri := P.ri.keeps k (fun h => on.1 (m h).symm) (fun i hi hb => by have := m hi; have := P.ri.own _ hb; omega)
    gp := hg
    tv := P.tv.keeps k (fun i hi h => by have := m h; have := P.town _ hi; omega)
    cli := fun i t c h1 h2 => (P.cli i t c h1 h2).keeps k (fun b hb => by have := m hb; omega) (fun b hb => .inl (by have := m hb; omega))
    b1 := hb1
    b2 := hb2
    ck := fun c hc => ⟨(P.ck c hc).1, Nat.lt_of_lt_of_le (P.ck c hc).2 k.1⟩ }
theorem PP.setTP (P : PP w S H) {j : Nat} {t t' : TK} (hj : S.l[j]? = some t) (hp : t'.p = t.p) (hf : t'.fn = t.fn) {deep : Nat} (hk : t'.pk + S.left.toNat ≤ 600) (h3 : t'.is < 256) (k : Keeps (w.pp :: t.p :: blk S.ra) H H') (hg : H'.get w.pp = some (.cells [ptr w.st, ptr w.rr, .slice S.ta S.l.length S.tc, .bool false, .int .i64 S.left, .int .i64 deep] 38)) (hS : SI w.n0 w.st (S.l.set j t') S.la S.lc H') (hR : RI w.n0 w.rr (S.l.set j t') S.ra S.rc H') : PP w { S with l := S.l.set j t', deep := deep } H' := by
  have o := P.ok
  have op := o.p
  have hjl := lt_of_some' hj
  have tm := List.mem_of_getElem? hj
  have tge := (P.si.ge t tm).1
  have tcol := P.ctp j t hj
  have m : ∀ {b : Nat}, b ∈ w.pp :: t.p :: blk S.ra → b = w.pp ∨ (w.n0 ≤ b ∧ (S.col b % 10 = 1 ∨ S.col b % 10 = 4)) := fun {b} hb => by
    simp only [List.mem_cons] at hb
    rcases hb with rfl | rfl | hb
    · exact .inl rfl
    · exact .inr ⟨tge, .inl (by omega)⟩
    · exact .inr ⟨P.ri.own _ hb, .inr (by rw [P.cra _ hb])⟩
  have mem : ∀ {i : Nat} {u : TK}, (S.l.set j t')[i]? = some u → ∃ v, S.l[i]? = some v ∧ u.p = v.p ∧ u.fn = v.fn := fun {i u} hu => by
    rw [List.getElem?_set] at hu
    split at hu
    · rename_i e; subst e
      simp only [hjl, if_true, Option.some.injEq] at hu
      subst hu
      exact ⟨t, hj, hp, hf⟩
    · exact ⟨u, hu, rfl, rfl⟩
  exact { P with
    si := hS
    ri := hR
    gp := by simp only [PS.cs, List.length_set]; exact hg
    tv := by rw [List.length_set]; exact P.tv.keeps k (fun i hi h => by have := P.cta i hi; have := P.town i hi; rcases m h with h | h <;> omega)
    tl := by rw [List.length_set]; exact P.tl
    cll := by rw [List.length_set]; exact P.cll
    cli := fun i u c h1 h2 => by
      obtain ⟨v, hv, e1, e2⟩ := mem h1
      have C := (P.cli i v c hv h2).keeps k (fun b hb => by rcases m hb with h | h <;> omega) (fun b hb => by rcases m hb with h | h <;> omega)
      unfold CI at C ⊢
      rw [e2]; exact C
    ctp := fun i u hu => by
      obtain ⟨v, hv, e1, -⟩ := mem hu
      rw [e1]; exact P.ctp i v hv
    b1 := by rw [List.length_set]; exact P.b1
    b2 := fun u hu => by
      rcases List.mem_or_eq_of_mem_set hu with hu | rfl
      · exact P.b2 u hu
      · exact hk
    b3 := fun u hu => by
      rcases List.mem_or_eq_of_mem_set hu with hu | rfl
      · exact P.b3 u hu
      · exact h3
    ck := fun c hc => ⟨(P.ck c hc).1, Nat.lt_of_lt_of_le (P.ck c hc).2 k.1⟩
    nil3 := fun i u hu hn => by
      obtain ⟨v, hv, -, e2⟩ := mem hu
      exact P.nil3 i v hv (by rw [← e2]; exact hn) }
theorem PP.setT (P : PP w S H) {j : Nat} {t t' : TK} (hj : S.l[j]? = some t) (hp : t'.p = t.p) (hf : t'.fn = t.fn) (hk : t'.pk + S.left.toNat ≤ 600) (h3 : t'.is < 256) (k : Keeps (t.p :: blk S.ra) H H') (hS : SI w.n0 w.st (S.l.set j t') S.la S.lc H') (hR : RI w.n0 w.rr (S.l.set j t') S.ra S.rc H') : PP w { S with l := S.l.set j t' } H' := by
  have tge := (P.si.ge t (List.mem_of_getElem? hj)).1
  have op := P.ok.p
  refine P.setTP hj hp hf hk h3 ⟨k.1, fun i hi hn => k.2 i hi (fun h => hn (List.mem_cons_of_mem _ h))⟩ (k.get P.gp (fun h => ?_)) hS hR
  rcases List.mem_cons.1 h with h | h
  · omega
  · have := P.ri.own _ h; omega
theorem PP.setTold (P : PP w S H) {told : List Int} (hl : told.length = S.told.length) (hn3 : ∀ (i : Nat) (t : TK), S.l[i]? = some t → t.fn = .nilFunc → told[i]? = some 3) (k : Keeps (blk S.ta) H H') (hv : Sv H' 3 1 S.ta S.l.length S.tc (ints told)) : PP w { S with told := told } H' := by
  have o := P.ok
  have op := o.p
  have or_ := o.r
  have os := o.s
  have ge : ∀ {b : Nat}, b ∈ blk S.ta → w.n0 ≤ b := fun hb => P.town _ hb
  exact { P with
    si := P.si.keeps k (fun h => by have := ge h; omega) (fun i hi hb => by have := P.cta i hi; have := P.cla i hb; omega) (fun t ht h => by
      obtain ⟨i, hi, hit⟩ := List.mem_iff_getElem.1 ht
      have := P.ctp i t (by rw [List.getElem?_eq_getElem hi, hit])
      have := P.cta _ h; omega)
    ri := P.ri.keeps k (fun h => by have := ge h; omega) (fun i hi hb => by have := P.cta i hi; have := P.cra i hb; omega)
    gp := k.get P.gp (fun h => by have := ge h; omega)
    tv := hv
    tl := hl.trans P.tl
    cli := fun i t c h1 h2 => (P.cli i t c h1 h2).keeps k (fun b hb => by have := ge hb; omega) (fun b hb => .inr (by rw [P.cta b hb]; decide))
    ck := fun c hc => ⟨(P.ck c hc).1, Nat.lt_of_lt_of_le (P.ck c hc).2 k.1⟩
    nil3 := hn3 }
theorem PP.setAt (P : PP w S H) {j : Nat} {c : CL} {t : TK} (hj : S.cl[j]? = some c) (ht : S.l[j]? = some t) (hf : t.fn ≠ .nilFunc) {a : Nat} (ha : a ≤ c.acts.length) (k : Keeps [c.k + 3] H H') (hg : H'.get (c.k + 3) = some (.cells [.int .i64 a] 3)) : PP w { S with cl := S.cl.set j { c with at_ := a } } H' := by
  have o := P.ok
  have op := o.p
  have or_ := o.r
  have os := o.s
  obtain ⟨hf1, C⟩ := (P.cli j t c ht hj).resolve_left hf
  have hge := C.ge
  have hcol := C.col 3 (by decide)
  have m : ∀ {b : Nat}, b ∈ [c.k + 3] → b = c.k + 3 := fun hb => by simpa using hb
  have hjl := lt_of_some' hj
  exact { P with
    si := P.si.keeps k (fun h => by have := m h; omega) (fun i hi hb => by have := P.cla i hb; rw [m hi] at this; omega) (fun t ht h => by
      obtain ⟨i, hi, hit⟩ := List.mem_iff_getElem.1 ht
      have := P.ctp i t (by rw [List.getElem?_eq_getElem hi, hit])
      rw [m h] at this; omega)
    ri := P.ri.keeps k (fun h => by have := m h; omega) (fun i hi hb => by have := P.cra i hb; rw [m hi] at this; omega)
    gp := k.get P.gp (fun h => by have := m h; omega)
    tv := P.tv.keeps k (fun i hi h => by have := P.cta i hi; rw [m h] at this; omega)
    cll := by rw [List.length_set]; exact P.cll
    ck := fun d hd => by
      rcases List.mem_or_eq_of_mem_set hd with hd | rfl
      · exact ⟨(P.ck d hd).1, Nat.lt_of_lt_of_le (P.ck d hd).2 k.1⟩
      · have := P.ck c (List.mem_of_getElem? hj); exact ⟨this.1, Nat.lt_of_lt_of_le this.2 k.1⟩
    cli := fun i u d h1 h2 => by
      rw [List.getElem?_set] at h2
      split at h2
      · rename_i e; subst e
        simp only [hjl, if_true, Option.some.injEq] at h2
        subst h2
        rw [ht] at h1
        obtain rfl := Option.some.inj h1
        have n3 : ∀ r, r < 3 → c.k + r ∉ [c.k + 3] := fun r hr h => by have := m h; omega
        refine .inr ⟨hf1, ⟨k.get C.g0 (n3 0 (by decide)), k.get C.g1 (n3 1 (by decide)), k.get C.g2 (n3 2 (by decide)), hg, ha, C.ge, C.col, C.row.keeps k (fun b hb => by have := m hb; omega)⟩⟩
      · rename_i hne
        exact (P.cli i u d h1 h2).imp id fun ⟨a, b⟩ => ⟨a, b.keeps k (fun x hx => by have := m hx; omega) (fun x hx => .inr (by rw [m hx, hcol]; omega))⟩ }
structure Ext (w : PW) (S S' : PS) (n : Nat) : Prop where
  wr : ∀ b ∈ wrS w S', b ∈ wrS w S ∨ n ≤ b
  l : ∀ (i : Nat) (t : TK), S.l[i]? = some t → ∃ t', S'.l[i]? = some t' ∧ t'.p = t.p ∧ t'.fn = t.fn ∧ (t.inn = true → t'.inn = true ∧ t'.is = t.is)
  cl : ∀ (i : Nat) (c : CL), S.cl[i]? = some c → ∃ c', S'.cl[i]? = some c' ∧ c'.k = c.k ∧ c'.acts = c.acts ∧ c'.xa = c.xa ∧ c'.xc = c.xc
theorem Ext.refl (w : PW) (S : PS) (n : Nat) : Ext w S S n := ⟨fun b hb => .inl hb, fun i t h => ⟨t, h, rfl, rfl, fun h => ⟨h, rfl⟩⟩, fun i c h => ⟨c, h, rfl, rfl, rfl, rfl⟩⟩
theorem Ext.trans {S S' S'' : PS} {n n' : Nat} (a : Ext w S S' n) (b : Ext w S' S'' n') (h : n ≤ n') : Ext w S S'' n := by
  refine ⟨fun x hx => ?_, fun i t ht => ?_, fun i c hc => ?_⟩
  · rcases b.wr x hx with h1 | h1
    · exact a.wr x h1
    · exact .inr (by omega)
  · obtain ⟨t', h1, h2, h3, h4⟩ := a.l i t ht
    obtain ⟨t'', k1, k2, k3, k4⟩ := b.l i t' h1
    exact ⟨t'', k1, k2.trans h2, k3.trans h3, fun e => ⟨(k4 (h4 e).1).1, ((k4 (h4 e).1).2).trans (h4 e).2⟩⟩
  · obtain ⟨c', h1, h2, h3, h4, h5⟩ := a.cl i c hc
    obtain ⟨c'', k1, k2, k3, k4, k5⟩ := b.cl i c' h1
    exact ⟨c'', k1, k2.trans h2, k3.trans h3, k4.trans h4, k5.trans h5⟩
theorem Ext.mono {S S' : PS} {n n' : Nat} (a : Ext w S S' n) (h : n' ≤ n) : Ext w S S' n' := ⟨fun b hb => (a.wr b hb).imp id fun h1 => by omega, a.l, a.cl⟩
theorem Ext.of {S S' : PS} (n : Nat) (h1 : S'.la = S.la) (h2 : S'.ra = S.ra) (h3 : S'.ta = S.ta) (h4 : ∀ (i : Nat) (t' : TK), S'.l[i]? = some t' → ∃ t, S.l[i]? = some t ∧ t'.p = t.p) (hl : ∀ (i : Nat) (t : TK), S.l[i]? = some t → ∃ t', S'.l[i]? = some t' ∧ t'.p = t.p ∧ t'.fn = t.fn ∧ (t.inn = true → t'.inn = true ∧ t'.is = t.is)) (h5 : ∀ (i : Nat) (c' : CL), S'.cl[i]? = some c' → ∃ c, S.cl[i]? = some c ∧ c'.k = c.k) (hc : ∀ (i : Nat) (c : CL), S.cl[i]? = some c → ∃ c', S'.cl[i]? = some c' ∧ c'.k = c.k ∧ c'.acts = c.acts ∧ c'.xa = c.xa ∧ c'.xc = c.xc) : Ext w S S' n := by
  refine ⟨fun b hb => .inl ?_, hl, hc⟩
  rw [mem_wrS] at hb ⊢
  rw [h1, h2, h3] at hb
  rcases hb with h | h | h | h | h | h | ⟨t, ht, rfl⟩ | ⟨c, hc, rfl⟩
  · exact .inl h
  · exact .inr (.inl h)
  · exact .inr (.inr (.inl h))
  · exact .inr (.inr (.inr (.inl h)))
  · exact .inr (.inr (.inr (.inr (.inl h))))
  · exact .inr (.inr (.inr (.inr (.inr (.inl h)))))
  · obtain ⟨i, hi, hit⟩ := List.mem_iff_getElem.1 ht
    obtain ⟨u, hu, e⟩ := h4 i t (by rw [List.getElem?_eq_getElem hi, hit])
    exact .inr (.inr (.inr (.inr (.inr (.inr (.inl ⟨u, List.mem_of_getElem? hu, e.symm⟩))))))
  · obtain ⟨i, hi, hit⟩ := List.mem_iff_getElem.1 hc
    obtain ⟨u, hu, e⟩ := h5 i c (by rw [List.getElem?_eq_getElem hi, hit])
    exact .inr (.inr (.inr (.inr (.inr (.inr (.inr ⟨u, List.mem_of_getElem? hu, by rw [e]⟩))))))
theorem Ext.setT (w : PW) (S : PS) (n : Nat) {j : Nat} {t t' : TK} (hj : S.l[j]? = some t) (hp : t'.p = t.p) (hf : t'.fn = t.fn) (hi : t.inn = true → t'.inn = true ∧ t'.is = t.is) : Ext w S { S with l := S.l.set j t' } n := by
  have hjl := lt_of_some' hj
  refine Ext.of n rfl rfl rfl (fun i u hu => ?_) (fun i u hu => ?_) (fun i c h => ⟨c, h, rfl⟩) (fun i c h => ⟨c, h, rfl, rfl, rfl, rfl⟩)
  · simp only [List.getElem?_set] at hu
    split at hu
    · rename_i e; subst e
      simp only [hjl, if_true, Option.some.injEq] at hu
      subst hu
      exact ⟨t, hj, hp⟩
    · exact ⟨u, hu, rfl⟩
  · simp only [List.getElem?_set]
    split
    · rename_i e; subst e
      rw [hj] at hu
      obtain rfl := Option.some.inj hu
      exact ⟨t', by simp [hjl], hp, hf, hi⟩
    · exact ⟨u, hu, rfl, rfl, fun h => ⟨h, rfl⟩⟩
theorem Ext.setAt (w : PW) (S : PS) (n : Nat) {j : Nat} {c : CL} (hj : S.cl[j]? = some c) (a : Nat) : Ext w S { S with cl := S.cl.set j { c with at_ := a } } n := by
  have hjl := lt_of_some' hj
  refine Ext.of n rfl rfl rfl (fun i u hu => ⟨u, hu, rfl⟩) (fun i u hu => ⟨u, hu, rfl, rfl, fun h => ⟨h, rfl⟩⟩) (fun i d hd => ?_) (fun i d hd => ?_)
  · simp only [List.getElem?_set] at hd
    split at hd
    · rename_i e; subst e
      simp only [hjl, if_true, Option.some.injEq] at hd
      subst hd
      exact ⟨c, hj, rfl⟩
    · exact ⟨d, hd, rfl⟩
  · simp only [List.getElem?_set]
    split
    · rename_i e; subst e
      rw [hj] at hd
      obtain rfl := Option.some.inj hd
      exact ⟨⟨c.k, c.xa, c.xc, c.acts, a⟩, by simp [hjl], rfl, rfl, rfl, rfl⟩
    · exact ⟨d, hd, rfl, rfl, rfl, rfl⟩
theorem Ext.same (w : PW) (S : PS) (n : Nat) (left : Int) (deep : Nat) (told : List Int) : Ext w S { S with left := left, deep := deep, told := told } n :=
  Ext.of n rfl rfl rfl (fun i u hu => ⟨u, hu, rfl⟩) (fun i u hu => ⟨u, hu, rfl, rfl, fun h => ⟨h, rfl⟩⟩) (fun i d hd => ⟨d, hd, rfl⟩) (fun i d hd => ⟨d, hd, rfl, rfl, rfl, rfl⟩)
theorem wrS_ge (P : PP w S H) : ∀ b ∈ wrS w S, w.B ≤ b := fun b hb => by
  have o := P.ok
  have op := o.p
  have or_ := o.r
  have os := o.s
  rw [mem_wrS] at hb
  rcases hb with rfl | rfl | rfl | h | h | h | ⟨t, ht, rfl⟩ | ⟨c, hc, rfl⟩
  · exact op.1
  · exact or_.1
  · exact os.1
  · have := P.si.own _ h; omega
  · have := P.ri.own _ h; omega
  · have := P.town _ h; omega
  · have := (P.si.ge t ht).1; omega
  · exact Nat.le_trans (P.ck c hc).1 (Nat.le_add_right _ _)
theorem wrS_lt (P : PP w S H) : ∀ b ∈ wrS w S, b < H.n := fun b hb => by
  have o := P.ok
  have op := o.p
  have or_ := o.r
  have os := o.s
  have hlt := P.si.lt
  rw [mem_wrS] at hb
  rcases hb with rfl | rfl | rfl | h | h | h | ⟨t, ht, rfl⟩ | ⟨c, hc, rfl⟩
  · omega
  · omega
  · omega
  · exact P.si.sv.lt _ h
  · exact P.ri.sv.lt _ h
  · exact P.tv.lt _ h
  · obtain ⟨i, hi, hit⟩ := List.mem_iff_getElem.1 ht
    exact AHeap.lt (P.si.tk i t (by rw [List.getElem?_eq_getElem hi, hit]))
  · exact (P.ck c hc).2
theorem wrS_set {j : Nat} {t t' : TK} {left : Int} {deep : Nat} (hj : S.l[j]? = some t) (hp : t'.p = t.p) : ∀ b ∈ wrS w { S with l := S.l.set j t', left := left, deep := deep }, b ∈ wrS w S := fun b hb => by
  rw [mem_wrS] at hb ⊢
  refine hb.imp id (Or.imp id (Or.imp id (Or.imp id (Or.imp id (Or.imp id (Or.imp (fun ⟨u, hu, e⟩ => ?_) id))))))
  rcases List.mem_or_eq_of_mem_set hu with hu | rfl
  · exact ⟨u, hu, e⟩
  · exact ⟨t, List.mem_of_getElem? hj, by rw [← e, hp]⟩
def Run1 (S : PS) (j k : Nat) (xa : Option Addr) (xc : Nat) (acts : List AC) : Prop := ∃ t c, S.l[j]? = some t ∧ S.cl[j]? = some c ∧ t.fn ≠ .nilFunc ∧ t.inn = true ∧ t.is = 1 ∧ c.k = k ∧ c.xa = xa ∧ c.xc = xc ∧ c.acts = acts
theorem Ext.run {S S' : PS} {n j k : Nat} {xa : Option Addr} {xc : Nat} {acts : List AC} (E : Ext w S S' n) (R : Run1 S j k xa xc acts) : Run1 S' j k xa xc acts := by
  obtain ⟨t, c, h1, h2, h3, h4, h5, h6, h7, h8, h9⟩ := R
  obtain ⟨t', a1, a2, a3, a4⟩ := E.l j t h1
  obtain ⟨c', b1, b2, b3, b4, b5⟩ := E.cl j c h2
  exact ⟨t', c', a1, b1, by rw [a3]; exact h3, (a4 h4).1, by rw [(a4 h4).2]; exact h5, b2.trans h6, b4.trans h7, b5.trans h8, b3.trans h9⟩
end
end Go.Proofs.Ytacfneokhmnkbaa
namespace Go.Proofs.Ytacfneokhmnkbaa
set_option maxRecDepth 100000
attribute [local irreducible] Go GoR GoL
theorem snoc_get {α : Type} {l : List α} {a b : α} {i : Nat} (h : (l ++ [a])[i]? = some b) : (i < l.length ∧ l[i]? = some b) ∨ (i = l.length ∧ a = b) := by
  rcases Nat.lt_or_ge i l.length with q | q
  · rw [List.getElem?_append_left q] at h
    exact .inl ⟨q, h⟩
  · rw [List.getElem?_append_right q] at h
    cases hq : i - l.length with
    | zero => rw [hq] at h; exact .inr ⟨by omega, by simpa using h⟩
    | succ n => rw [hq] at h; simp at h
def colX (n n9 n11 N : Nat) (la : Option Addr) (col : Nat → Nat) (b : Nat) : Nat :=
  if b < n then col b else if b < n + 4 then 10 * N + 2 else if b < n9 then 4 else if b < n11 then 5 else if b ∈ blk la then 3 else 10 * N + 1
theorem PP.snoc {w : PW} {S : PS} {H H' : AHeap} (P : PP w S H) {n9 n11 : Nat} {t : TK} {c : CL} {la' ra' ta' : Option Addr} {lc' rc' tc' : Nat} {left' : Int}
    (k : Keeps ([w.pp, w.rr, w.st] ++ (blk S.la ++ (blk S.ra ++ blk S.ta))) H H')
    (hSI : SI w.n0 w.st (S.l ++ [t]) la' lc' H') (hRI : RI w.n0 w.rr (S.l ++ [t]) ra' rc' H')
    (hgp : H'.get w.pp = some (.cells [ptr w.st, ptr w.rr, .slice ta' (S.l.length + 1) tc', .bool false, .int .i64 left', .int .i64 S.deep] 38))
    (htv : Sv H' 3 1 ta' (S.l.length + 1) tc' (ints (S.told ++ [3])))
    (hla : ∀ b ∈ blk la', b ∈ blk S.la ∨ n11 ≤ b) (hra : ∀ b ∈ blk ra', b ∈ blk S.ra ∨ (H.n + 4 ≤ b ∧ b < n9)) (hta : ∀ b ∈ blk ta', b ∈ blk S.ta ∨ (n9 ≤ b ∧ b < n11))
    (h9 : H.n + 4 ≤ n9) (h11 : n9 ≤ n11) (ht : n11 ≤ t.p) (hck : c.k = H.n)
    (hc : t.fn = .nilFunc ∨ t.fn = cloP H.n ∧ H'.get H.n = some (.cells [ptr w.pp] 30) ∧ H'.get (H.n + 1) = some (.cells [.slice c.xa c.acts.length c.xc] 24) ∧ H'.get (H.n + 2) = some (.cells [.int .i64 S.l.length] 3) ∧ H'.get (H.n + 3) = some (.cells [.int .i64 c.at_] 3) ∧ c.at_ ≤ c.acts.length ∧ ARow w.B H' c.xa c.xc c.acts)
    (hpk : t.pk = 0) (h3 : t.is < 256) (hl0 : 0 ≤ left') (hl1 : left' + 1 = S.left) :
    ∃ S' : PS, S' = ⟨S.l ++ [t], la', lc', ra', rc', ta', tc', S.told ++ [3], S.cl ++ [c], left', S.deep, colX H.n n9 n11 S.l.length la' S.col⟩ ∧ PP w S' H' ∧ Ext w S S' H.n := by
  refine ⟨_, rfl, ?_, ?_⟩
  · have o := P.ok
    have op := o.p
    have or_ := o.r
    have os := o.s
    have hlt := P.si.lt
    have hle := k.1
    have old : ∀ {b : Nat}, b < H.n → colX H.n n9 n11 S.l.length la' S.col b = S.col b := fun hb => if_pos hb
    have tpl : ∀ {i : Nat} {u : TK}, S.l[i]? = some u → u.p < H.n := fun hu => AHeap.lt (P.si.tk _ _ hu)
    have hge := hSI.ge t (by simp)
    have ge : ∀ {b : Nat}, b ∈ [w.pp, w.rr, w.st] ++ (blk S.la ++ (blk S.ra ++ blk S.ta)) → w.B ≤ b ∧ (b < w.n0 ∨ S.col b % 10 ≠ 2) := fun {b} hb => by
      simp only [List.mem_append, List.mem_cons, List.not_mem_nil, or_false] at hb
      rcases hb with (rfl | rfl | rfl) | hb | hb | hb
      · exact ⟨op.1, .inl op.2⟩
      · exact ⟨or_.1, .inl or_.2⟩
      · exact ⟨os.1, .inl os.2⟩
      · exact ⟨by have := P.si.own _ hb; omega, .inr (by rw [P.cla _ hb]; decide)⟩
      · exact ⟨by have := P.ri.own _ hb; omega, .inr (by rw [P.cra _ hb]; decide)⟩
      · exact ⟨by have := P.town _ hb; omega, .inr (by rw [P.cta _ hb]; decide)⟩
    have hb1 := P.b1
    refine ⟨P.ok, hSI, hRI, ?_, ?_, ?_, ?_, ?_, ?_, ?_, ?_, ?_, ?_, ?_, ?_, ?_, ?_, ?_⟩
    · simp only [PS.cs, List.length_append, List.length_cons, List.length_nil]; exact hgp
    · simp only [List.length_append, List.length_cons, List.length_nil]; exact htv
    · simp only [List.length_append, List.length_cons, List.length_nil, P.tl]
    · intro b hb
      rcases hta b hb with h | h
      · exact P.town _ h
      · omega
    · simp only [List.length_append, List.length_cons, List.length_nil, P.cll]
    · intro i u d hu hd
      rcases snoc_get hu with ⟨q, hu⟩ | ⟨q, rfl⟩ <;> rcases snoc_get hd with ⟨q', hd⟩ | ⟨q', rfl⟩
      · refine (P.cli i u d hu hd).imp id fun ⟨a, C⟩ => ⟨a, ?_⟩
        have C' := C.keeps k (fun b hb => (ge hb).1) (fun b hb => (ge hb).2.imp id fun h e => h (by omega))
        have l3 := AHeap.lt C.g3
        exact { C' with col := fun r hr => by show colX _ _ _ _ _ _ _ = _; rw [old (by omega)]; exact C.col r hr }
      · have := P.cll; omega
      · have := P.cll; omega
      · refine hc.imp id fun ⟨a, g0, g1, g2, g3, ha, row⟩ => ⟨by rw [hck]; exact a, ?_⟩
        subst q
        refine ⟨by rw [hck]; exact g0, by rw [hck]; exact g1, by rw [hck]; exact g2, by rw [hck]; exact g3, ha, by omega, fun r hr => ?_, row⟩
        rw [hck]
        show colX _ _ _ _ _ _ _ = _
        unfold colX
        rw [if_neg (by omega), if_pos (by omega)]
    · intro i u hu
      rcases snoc_get hu with ⟨q, hu⟩ | ⟨q, rfl⟩
      · show colX _ _ _ _ _ _ _ = _
        rw [old (tpl hu)]; exact P.ctp i u hu
      · show colX _ _ _ _ _ _ _ = _
        unfold colX
        rw [if_neg (by omega), if_neg (by omega), if_neg (by omega), if_neg (by omega), if_neg hge.2, q]
    · intro b hb
      show colX _ _ _ _ _ _ _ = _
      rcases hla b hb with h | h
      · rw [old (P.si.sv.lt b h)]; exact P.cla b h
      · unfold colX
        rw [if_neg (by omega), if_neg (by omega), if_neg (by omega), if_neg (by omega), if_pos hb]
    · intro b hb
      show colX _ _ _ _ _ _ _ = _
      rcases hra b hb with h | h
      · rw [old (P.ri.sv.lt b h)]; exact P.cra b h
      · unfold colX
        rw [if_neg (by omega), if_neg (by omega), if_pos (by omega)]
    · intro b hb
      show colX _ _ _ _ _ _ _ = _
      rcases hta b hb with h | h
      · rw [old (P.tv.lt b h)]; exact P.cta b h
      · unfold colX
        rw [if_neg (by omega), if_neg (by omega), if_neg (by omega), if_pos (by omega)]
    · simp only [List.length_append, List.length_cons, List.length_nil]; omega
    · intro u hu
      show u.pk + left'.toNat ≤ 600
      rcases List.mem_append.1 hu with hu | hu
      · have := P.b2 u hu; omega
      · obtain rfl := List.mem_singleton.1 hu
        omega
    · intro u hu
      rcases List.mem_append.1 hu with hu | hu
      · exact P.b3 u hu
      · obtain rfl := List.mem_singleton.1 hu
        exact h3
    · intro d hd
      rcases List.mem_append.1 hd with hd | hd
      · exact ⟨(P.ck d hd).1, Nat.lt_of_lt_of_le (P.ck d hd).2 hle⟩
      · obtain rfl := List.mem_singleton.1 hd
        exact ⟨by omega, by have := AHeap.lt (hSI.tk S.l.length t (by rw [List.getElem?_append_right (Nat.le_refl _), Nat.sub_self]; rfl)); omega⟩
    · intro i u hu hn
      rcases snoc_get hu with ⟨q, hu⟩ | ⟨q, rfl⟩
      · show (S.told ++ [3])[i]? = _
        rw [List.getElem?_append_left (by rw [P.tl]; exact q)]
        exact P.nil3 i u hu hn
      · show (S.told ++ [3])[i]? = _
        rw [List.getElem?_append_right (by rw [P.tl]; omega), P.tl, q, Nat.sub_self]
        rfl
  · refine ⟨fun b hb => ?_, fun i u hu => ?_, fun i d hd => ?_⟩
    · rw [mem_wrS] at hb ⊢
      simp only at hb
      rcases hb with h | h | h | h | h | h | ⟨u, hu, rfl⟩ | ⟨d, hd, rfl⟩
      · exact .inl (.inl h)
      · exact .inl (.inr (.inl h))
      · exact .inl (.inr (.inr (.inl h)))
      · rcases hla b h with h | h
        · exact .inl (.inr (.inr (.inr (.inl h))))
        · exact .inr (by omega)
      · rcases hra b h with h | h
        · exact .inl (.inr (.inr (.inr (.inr (.inl h)))))
        · exact .inr (by omega)
      · rcases hta b h with h | h
        · exact .inl (.inr (.inr (.inr (.inr (.inr (.inl h))))))
        · exact .inr (by omega)
      · rcases List.mem_append.1 hu with hu | hu
        · exact .inl (.inr (.inr (.inr (.inr (.inr (.inr (.inl ⟨u, hu, rfl⟩)))))))
        · obtain rfl := List.mem_singleton.1 hu
          exact .inr (by omega)
      · rcases List.mem_append.1 hd with hd | hd
        · exact .inl (.inr (.inr (.inr (.inr (.inr (.inr (.inr ⟨d, hd, rfl⟩)))))))
        · obtain rfl := List.mem_singleton.1 hd
          exact .inr (by omega)
    · exact ⟨u, by simp only; rw [List.getElem?_append_left (lt_of_some' hu)]; exact hu, rfl, rfl, fun h => ⟨h, rfl⟩⟩
    · exact ⟨d, by simp only; rw [List.getElem?_append_left (lt_of_some' hd)]; exact hd, rfl, rfl, rfl, rfl⟩
theorem mem_ra {w : PW} {S : PS} {b : Nat} (h : b ∈ blk S.ra) : b ∈ wrS w S := mem_wrS.2 (.inr (.inr (.inr (.inr (.inl h)))))
theorem mem_ta {w : PW} {S : PS} {b : Nat} (h : b ∈ blk S.ta) : b ∈ wrS w S := mem_wrS.2 (.inr (.inr (.inr (.inr (.inr (.inl h))))))
theorem mem_la {w : PW} {S : PS} {b : Nat} (h : b ∈ blk S.la) : b ∈ wrS w S := mem_wrS.2 (.inr (.inr (.inr (.inl h))))
theorem mem_st {w : PW} {S : PS} : w.st ∈ wrS w S := mem_wrS.2 (.inr (.inr (.inl rfl)))
set_option maxHeartbeats 8000000 in
theorem pspawn_spec (w : PW) (S : PS) (h : AHeap) (P : PP w S h) (hlo : -1000000000 ≤ S.left) (xa : Option Addr) (xc : Nat) (acts : List AC) (row : ARow w.B h xa xc acts) (none_ : Bool) : CallS Try.prog (wrS w S) 15 [ptr w.pp, .slice xa acts.length xc, .bool none_] h fun v h' => ∃ S', PP w S' h' ∧ Ext w S S' h.n ∧ S'.left = S.left - 1 ∧ S'.deep = S.deep := by
  have gp := P.gp
  have o := P.ok
  have op := o.p
  have or_ := o.r
  have os := o.s
  have one := o.ne
  have hlt := P.si.lt
  have hb1 := P.b1
  have hWp : w.pp ∈ wrS w S := mem_wrS.2 (.inl rfl)
  have hWr : w.rr ∈ wrS w S := mem_wrS.2 (.inr (.inl rfl))
  unfold PS.cs at gp
  (refine CallS.of3 Try.func15 rfl Try.ntmps15 Try.results15 rfl ?_)
  (refine Go.run (g:=?_))
  simp only [AHeap.n_push]
  refine GoR.name ?_
  intro h2 e2
  have s2 : Same h h2 := by subst e2; exact ((Same.refl h).push _).push _
  have n2 : h2.n = h.n + 2 := by subst e2; rfl
  have g0 : h2.get h.n = some (.cells [ptr w.pp] 30) := by subst e2; simp [AHeap.get_push]
  have g1 : h2.get (h.n + 1) = some (.cells [.slice xa acts.length xc] 24) := by subst e2; simp [AHeap.get_push]
  clear e2
  have gp2 := s2.get gp
  refine GoR.store (off := 0 + 4) (n := 1) (v := .int .i64 (S.left - 1)) (l := [.int .i64 (S.left - 1)]) rfl rfl rfl rfl rfl gp2 rfl rfl (show 5 ≤ 6 by decide) rfl rfl (.inl hWp) ?_
  refine GoR.name ?_
  intro h3 e3
  have k3 : Keeps [w.pp] h2 h3 := by subst e3; exact (Keeps.rfl _ _).put (by simp) _
  have n3 : h3.n = h2.n := by subst e3; rfl
  have gp3 : h3.get w.pp = some (.cells [ptr w.st, ptr w.rr, .slice S.ta S.l.length S.tc, .bool false, .int .i64 (S.left - 1), .int .i64 S.deep] 38) := by subst e3; exact AHeap.get_put_same _ (AHeap.lt gp2) _
  clear e3
  have m1 : ∀ r, h.n + r ∉ [w.pp] := fun r hm => by simp only [List.mem_singleton] at hm; omega
  have g03 := k3.get g0 (m1 0)
  have g13 := k3.get g1 (m1 1)
  by_cases neg : S.left - 1 < 0
  · (refine Go.run (g:=?_))
    (first|refine Go.finT (by first|exact .inr rfl|exact .inl rfl) rfl ?_|refine Go.fin1 (by first|exact .inr rfl|exact .inl rfl) rfl (hq:=?_))
    exact ⟨{ S with left := S.left - 1 }, (P.same s2).setP k3 gp3 (by omega) (fun t ht => by have := P.b2 t ht; omega), Ext.same w S h.n _ _ _, rfl, rfl⟩
  have P3 : PP w { S with left := S.left - 1 } h3 := (P.same s2).setP k3 gp3 (by omega) (fun t ht => by have := P.b2 t ht; omega)
  have gr3 := P3.ri.sb
  simp only at gr3
  clear gp gp2 g0 g1
  (repeat (first|refine GoR.end ?_|(refine GoR.gd rfl ?_;first|refine GoR.wanted' rfl rfl rfl rfl (g:=?_)|refine GoR.unwanted' rfl rfl rfl rfl (hd:=rfl) (hN:=rfl) (g:=?_)|refine GoR.unwantedU rfl rfl rfl rfl rfl rfl ?_)|(refine GoR.kk 0 rfl ?_;first|refine GoR.move rfl rfl rfl rfl rfl ?_|refine GoR.assign rfl rfl rfl rfl rfl ?_)|(refine GoR.kk 1 rfl ?_;first|refine GoR.load' rfl rfl rfl rfl rfl (g:=?_)|refine GoR.loadA' rfl rfl rfl rfl rfl (hv:=rfl) (g:=?_)|refine GoR.loadV' rfl rfl rfl rfl rfl (g:=?_)|refine GoR.loadVN' rfl rfl rfl rfl rfl (g:=?_))|(refine GoR.kk 2 rfl ?_;first|refine GoR.store' rfl rfl rfl rfl rfl (hl:=rfl) (h1:=rfl) (h3:=rfl) (g:=?_))|(refine GoR.kk 3 rfl ?_;first|refine GoR.fieldAddr rfl rfl rfl rfl rfl ?_|refine GoR.indexN' rfl rfl rfl rfl rfl rfl (g:=?_)|refine GoR.indexNs' rfl rfl rfl rfl rfl rfl (g:=?_)|refine GoR.indexV' rfl rfl rfl rfl rfl rfl (g:=?_)|refine GoR.indexA' rfl rfl rfl rfl rfl rfl (g:=?_)|refine GoR.fieldV' rfl rfl rfl rfl rfl (g:=?_))|(refine GoR.kk 4 rfl ?_;first|refine GoR.eq rfl rfl rfl rfl rfl rfl ?_|refine GoR.ne rfl rfl rfl rfl rfl rfl ?_|refine GoR.lt rfl rfl rfl rfl rfl rfl ?_|refine GoR.le rfl rfl rfl rfl rfl rfl ?_|refine GoR.gt rfl rfl rfl rfl rfl rfl ?_|refine GoR.ge rfl rfl rfl rfl rfl rfl ?_|refine GoR.addN' rfl rfl rfl rfl rfl rfl (g:=?_)|refine GoR.subN' rfl rfl rfl rfl rfl rfl (g:=?_)|refine GoR.add' rfl rfl rfl rfl rfl rfl (g:=?_)|refine GoR.sub' rfl rfl rfl rfl rfl rfl (g:=?_)|refine GoR.addM' rfl rfl rfl rfl rfl rfl (g:=?_)|refine GoR.subM' rfl rfl rfl rfl rfl rfl (g:=?_)|refine GoR.mulM' rfl rfl rfl rfl rfl rfl (g:=?_)|refine GoR.shrN rfl rfl rfl rfl rfl rfl rfl ?_|refine GoR.structEq rfl rfl rfl rfl rfl rfl (by rfl) (by rfl) ?_|refine GoR.structNe rfl rfl rfl rfl rfl rfl (by rfl) (by rfl) ?_|refine GoR.strEq rfl rfl rfl rfl rfl rfl ?_|refine GoR.strNe rfl rfl rfl rfl rfl rfl ?_|refine GoR.remN' rfl rfl rfl rfl rfl rfl (g:=?_)|refine GoR.quoN' rfl rfl rfl rfl rfl rfl (g:=?_)|refine GoR.shlN' rfl rfl rfl rfl rfl rfl rfl (g:=?_)|refine GoR.orN' rfl rfl rfl rfl rfl rfl (g:=?_))|(refine GoR.kk 5 rfl ?_;first|refine GoR.len rfl rfl rfl rfl rfl ?_|refine GoR.lenStr rfl rfl rfl rfl rfl ?_|refine GoR.capB rfl rfl rfl rfl rfl ?_)|(refine GoR.kk 7 rfl ?_;first|refine GoR.pickE' rfl rfl rfl rfl rfl (hx:=rfl) (hy:=rfl) (g:=?_)|refine GoR.pickN' rfl rfl rfl rfl rfl (hx:=rfl) (hy:=rfl) (g:=?_)|refine GoR.pickB rfl rfl rfl rfl rfl rfl rfl ?_)|(refine GoR.kk 8 rfl ?_;first|refine GoR.boxA rfl rfl rfl rfl rfl ?_|refine GoR.boxS rfl rfl rfl rfl rfl rfl ?_|refine GoR.alloc rfl rfl rfl rfl ?_)|(refine GoR.kk 9 rfl ?_;first|refine GoR.strV' rfl rfl rfl rfl rfl (g:=?_)|refine GoR.conv_u8 rfl rfl rfl rfl rfl ?_|refine GoR.convW' rfl rfl rfl rfl rfl (g:=?_)|refine GoR.conv_u16 rfl rfl rfl rfl rfl ?_|refine GoR.conv_u32 rfl rfl rfl rfl rfl ?_)|(refine GoR.kk 10 rfl ?_;first|refine GoR.build' rfl rfl rfl rfl rfl rfl (g:=?_))|(refine GoR.kk 11 rfl ?_;first|refine GoR.extract rfl rfl rfl rfl rfl rfl ?_|refine GoR.not rfl rfl rfl rfl rfl ?_|refine GoR.nilCheck rfl rfl rfl rfl rfl ?_|refine GoR.nilCheckF rfl rfl rfl rfl rfl ?_|refine GoR.makeFunc rfl rfl rfl rfl rfl rfl ?_)|(refine Go.kk 0 rfl ?_;refine Go.seq ?_)|(refine Go.kk 1 rfl ?_;refine Go.region (by kernel_rfl) rfl ?_)|(refine Go.kk 3 rfl ?_;first|refine Go.cond_t' rfl (g:=?_)|refine Go.cond_f' rfl (g:=?_))|(refine Go.kk 4 rfl ?_;refine Go.block ?_)|(refine Go.kk 5 rfl ?_;first|refine Go.skip ?_|refine Go.ret ?_|refine Go.exit ?_|refine Go.scope ?_)|refine Go.leave_normal ?_|refine Go.leave_same ?_|refine Go.leave_ret ?_|refine Go.ret_code ?_|refine Go.exit_code ?_|refine Go.leave_other rfl ?_|refine Go.sc_normal ?_|refine Go.sc_ret ?_|refine Go.sc_exit ?_|refine Go.exit_back ?_|refine Go.ret_back ?_))
  simp only [AHeap.n_push, n3, n2, Nat.add_assoc, Nat.reduceAdd]
  refine Go.name ?_
  intro h4 e4
  have s4 : Same h3 h4 := by subst e4; exact (((Same.refl h3).push _).push _).put (by omega) _ |>.put (by omega) _
  have n4 : h4.n = h.n + 4 := by subst e4; simp only [AHeap.n_put, AHeap.n_push]; omega
  have g24 : h4.get (h.n + 2) = some (.cells [.int .i64 S.l.length] 3) := by subst e4; simp [AHeap.get_put, AHeap.get_push, n3, n2]
  have g34 : h4.get (h.n + 3) = some (.cells [.int .i64 (0 : Nat)] 3) := by subst e4; simp [AHeap.get_put, AHeap.get_push, n3, n2]
  clear e4
  have g04 := s4.get g03
  have g14 := s4.get g13
  have gp4 := s4.get gp3
  have gr4 := s4.get gr3
  have ri4 : RI w.n0 w.rr S.l S.ra S.rc h4 := P3.ri.same s4
  have tv4 : Sv h4 3 1 S.ta S.l.length S.tc (ints S.told) := P3.tv.same s4
  have si4 : SI w.n0 w.st S.l S.la S.lc h4 := P3.si.same s4
  clear gp3 gr3 g03 g13
  cases none_
  · (repeat (first|refine GoR.end ?_|(refine GoR.gd rfl ?_;first|refine GoR.wanted' rfl rfl rfl rfl (g:=?_)|refine GoR.unwanted' rfl rfl rfl rfl (hd:=rfl) (hN:=rfl) (g:=?_)|refine GoR.unwantedU rfl rfl rfl rfl rfl rfl ?_)|(refine GoR.kk 0 rfl ?_;first|refine GoR.move rfl rfl rfl rfl rfl ?_|refine GoR.assign rfl rfl rfl rfl rfl ?_)|(refine GoR.kk 1 rfl ?_;first|refine GoR.load' rfl rfl rfl rfl rfl (g:=?_)|refine GoR.loadA' rfl rfl rfl rfl rfl (hv:=rfl) (g:=?_)|refine GoR.loadV' rfl rfl rfl rfl rfl (g:=?_)|refine GoR.loadVN' rfl rfl rfl rfl rfl (g:=?_))|(refine GoR.kk 2 rfl ?_;first|refine GoR.store' rfl rfl rfl rfl rfl (hl:=rfl) (h1:=rfl) (h3:=rfl) (g:=?_))|(refine GoR.kk 3 rfl ?_;first|refine GoR.fieldAddr rfl rfl rfl rfl rfl ?_|refine GoR.indexN' rfl rfl rfl rfl rfl rfl (g:=?_)|refine GoR.indexNs' rfl rfl rfl rfl rfl rfl (g:=?_)|refine GoR.indexV' rfl rfl rfl rfl rfl rfl (g:=?_)|refine GoR.indexA' rfl rfl rfl rfl rfl rfl (g:=?_)|refine GoR.fieldV' rfl rfl rfl rfl rfl (g:=?_))|(refine GoR.kk 4 rfl ?_;first|refine GoR.eq rfl rfl rfl rfl rfl rfl ?_|refine GoR.ne rfl rfl rfl rfl rfl rfl ?_|refine GoR.lt rfl rfl rfl rfl rfl rfl ?_|refine GoR.le rfl rfl rfl rfl rfl rfl ?_|refine GoR.gt rfl rfl rfl rfl rfl rfl ?_|refine GoR.ge rfl rfl rfl rfl rfl rfl ?_|refine GoR.addN' rfl rfl rfl rfl rfl rfl (g:=?_)|refine GoR.subN' rfl rfl rfl rfl rfl rfl (g:=?_)|refine GoR.add' rfl rfl rfl rfl rfl rfl (g:=?_)|refine GoR.sub' rfl rfl rfl rfl rfl rfl (g:=?_)|refine GoR.addM' rfl rfl rfl rfl rfl rfl (g:=?_)|refine GoR.subM' rfl rfl rfl rfl rfl rfl (g:=?_)|refine GoR.mulM' rfl rfl rfl rfl rfl rfl (g:=?_)|refine GoR.shrN rfl rfl rfl rfl rfl rfl rfl ?_|refine GoR.structEq rfl rfl rfl rfl rfl rfl (by rfl) (by rfl) ?_|refine GoR.structNe rfl rfl rfl rfl rfl rfl (by rfl) (by rfl) ?_|refine GoR.strEq rfl rfl rfl rfl rfl rfl ?_|refine GoR.strNe rfl rfl rfl rfl rfl rfl ?_|refine GoR.remN' rfl rfl rfl rfl rfl rfl (g:=?_)|refine GoR.quoN' rfl rfl rfl rfl rfl rfl (g:=?_)|refine GoR.shlN' rfl rfl rfl rfl rfl rfl rfl (g:=?_)|refine GoR.orN' rfl rfl rfl rfl rfl rfl (g:=?_))|(refine GoR.kk 5 rfl ?_;first|refine GoR.len rfl rfl rfl rfl rfl ?_|refine GoR.lenStr rfl rfl rfl rfl rfl ?_|refine GoR.capB rfl rfl rfl rfl rfl ?_)|(refine GoR.kk 7 rfl ?_;first|refine GoR.pickE' rfl rfl rfl rfl rfl (hx:=rfl) (hy:=rfl) (g:=?_)|refine GoR.pickN' rfl rfl rfl rfl rfl (hx:=rfl) (hy:=rfl) (g:=?_)|refine GoR.pickB rfl rfl rfl rfl rfl rfl rfl ?_)|(refine GoR.kk 8 rfl ?_;first|refine GoR.boxA rfl rfl rfl rfl rfl ?_|refine GoR.boxS rfl rfl rfl rfl rfl rfl ?_|refine GoR.alloc rfl rfl rfl rfl ?_)|(refine GoR.kk 9 rfl ?_;first|refine GoR.strV' rfl rfl rfl rfl rfl (g:=?_)|refine GoR.conv_u8 rfl rfl rfl rfl rfl ?_|refine GoR.convW' rfl rfl rfl rfl rfl (g:=?_)|refine GoR.conv_u16 rfl rfl rfl rfl rfl ?_|refine GoR.conv_u32 rfl rfl rfl rfl rfl ?_)|(refine GoR.kk 10 rfl ?_;first|refine GoR.build' rfl rfl rfl rfl rfl rfl (g:=?_))|(refine GoR.kk 11 rfl ?_;first|refine GoR.extract rfl rfl rfl rfl rfl rfl ?_|refine GoR.not rfl rfl rfl rfl rfl ?_|refine GoR.nilCheck rfl rfl rfl rfl rfl ?_|refine GoR.nilCheckF rfl rfl rfl rfl rfl ?_|refine GoR.makeFunc rfl rfl rfl rfl rfl rfl ?_)|(refine Go.kk 0 rfl ?_;refine Go.seq ?_)|(refine Go.kk 1 rfl ?_;refine Go.region (by kernel_rfl) rfl ?_)|(refine Go.kk 3 rfl ?_;first|refine Go.cond_t' rfl (g:=?_)|refine Go.cond_f' rfl (g:=?_))|(refine Go.kk 4 rfl ?_;refine Go.block ?_)|(refine Go.kk 5 rfl ?_;first|refine Go.skip ?_|refine Go.ret ?_|refine Go.exit ?_|refine Go.scope ?_)|refine Go.leave_normal ?_|refine Go.leave_same ?_|refine Go.leave_ret ?_|refine Go.ret_code ?_|refine Go.exit_code ?_|refine Go.leave_other rfl ?_|refine Go.sc_normal ?_|refine Go.sc_ret ?_|refine Go.sc_exit ?_|refine Go.exit_back ?_|refine Go.ret_back ?_))
    refine Go.loud (by kernel_rfl) rfl ?_
    (refine Go.runL (g:=?_))
    refine GoL.buildRo (c := [.int .i64 1, .bool false, .bool false, .int .u64 0]) rfl rfl rfl rfl rfl (by decide) (by rfl) (by rfl) ?_
    intro b5 h5 hb5 rb5 ob5 s5 n5
    refine GoL.appendV rfl rfl rfl rfl rfl rfl (ri4.sv.same s5) hb5 (fun i hi => .inl (mem_ra hi)) (by omega) (by omega) (by rfl) ?_
    intro ra' rc' h6 rd6 wr6 hwr6 hrd6 sv6 k6 o6
    have n6 := k6.1
    have gr6 := k6.get (s5.get gr4) (fun hi => by have := P.ri.own _ hi; omega)
    (refine Go.runL (g:=?_))
    refine GoL.store (off := 0) (n := 1) (v := .slice ra' (S.l.length + 1) rc') (l := [.slice ra' (S.l.length + 1) rc']) rfl rfl rfl rfl rfl gr6 rfl rfl (Nat.le_refl _) rfl rfl (.inl hWr) ?_
    have hdis : ∀ b ∈ wr6, b ≠ h.n ∧ b ≠ w.pp ∧ b ≠ w.rr ∧ b < h4.n := fun b hb => by
      have h1 := P.ri.own _ (hwr6 b hb)
      have h2 := P.ri.sv.lt _ (hwr6 b hb)
      omega
    refine GoL.end_ (hl := by (simp only [List.nil_append, List.cons_append]); repeat (first | exact loudP.nil | refine loudP.none ?_ | refine loudP.new (fun _ hb => absurd hb List.not_mem_nil) ?_ | refine loudP.row (by repeat (first | exact loudRowP.nil | refine loudRowP.none ?_ | refine loudRowP.bef (by decide +kernel) ?_ | refine loudRowP.apart (by first | exact .inl rfl | exact .inr (by simp)) rfl (fun i hi => by have hx := hdis _ hi; first | (simp; fail_if_success focus skip) | (simp; omega)) ?_)) ?_)) ?_
    clear hdis
    refine Go.name ?_
    intro h7 e7
    have k7 : Keeps [w.rr] h6 h7 := by subst e7; exact (Keeps.rfl _ _).put (by simp) _
    have n7 : h7.n = h6.n := by subst e7; rfl
    have gr7 : h7.get w.rr = some (.cells [.slice ra' (S.l.length + 1) rc'] 36) := by subst e7; exact AHeap.get_put_same _ (AHeap.lt gr6) _
    clear e7
    have K7 : Keeps (w.rr :: blk S.ra) h4 h7 := ⟨by have := s5.1; omega, fun i hi hn => by
      simp only [List.mem_cons, not_or] at hn
      have := s5.1
      rw [k7.2 i (by omega) (by simp only [List.mem_singleton]; exact hn.1), k6.2 i (by omega) hn.2, s5.2 i hi]⟩
    have hra6 : ∀ b ∈ blk ra', b ∈ blk S.ra ∨ (h.n + 4 ≤ b ∧ b < h7.n) := fun b hb => by
      have := s5.1
      rcases o6 b hb with h' | h'
      · exact .inl h'
      · exact .inr ⟨by omega, by have := sv6.lt b hb; omega⟩
    have sv7 := sv6.keeps k7 (fun i hi hm => by
      simp only [List.mem_singleton] at hm
      subst hm
      rcases o6 _ hi with h' | h'
      · have := P.ri.own _ h'; omega
      · have := s5.1; omega)
    have no7 : ∀ b, (b = w.pp ∨ (h.n ≤ b ∧ b < h.n + 4)) → b ∉ w.rr :: blk S.ra := fun b hb hm => by
      rcases List.mem_cons.1 hm with rfl | hm
      · omega
      · have := P.ri.own _ hm; have := P.ri.sv.lt _ hm; omega
    have g07 := K7.get g04 (no7 _ (.inr (by omega)))
    have g17 := K7.get g14 (no7 _ (.inr (by omega)))
    have g27 := K7.get g24 (no7 _ (.inr (by omega)))
    have g37 := K7.get g34 (no7 _ (.inr (by omega)))
    have gp7 := K7.get gp4 (no7 _ (.inl rfl))
    have tv7 := tv4.keeps K7 (fun i hi hm => by
      rcases List.mem_cons.1 hm with rfl | hm
      · have := P.town _ hi; omega
      · have := P.cta i hi; have := P.cra i hm; omega)
    clear g04 g14 g24 g34 gp4 gr4 gr6 tv4 sv6 hb5
    (repeat (first|refine GoR.end ?_|(refine GoR.gd rfl ?_;first|refine GoR.wanted' rfl rfl rfl rfl (g:=?_)|refine GoR.unwanted' rfl rfl rfl rfl (hd:=rfl) (hN:=rfl) (g:=?_)|refine GoR.unwantedU rfl rfl rfl rfl rfl rfl ?_)|(refine GoR.kk 0 rfl ?_;first|refine GoR.move rfl rfl rfl rfl rfl ?_|refine GoR.assign rfl rfl rfl rfl rfl ?_)|(refine GoR.kk 1 rfl ?_;first|refine GoR.load' rfl rfl rfl rfl rfl (g:=?_)|refine GoR.loadA' rfl rfl rfl rfl rfl (hv:=rfl) (g:=?_)|refine GoR.loadV' rfl rfl rfl rfl rfl (g:=?_)|refine GoR.loadVN' rfl rfl rfl rfl rfl (g:=?_))|(refine GoR.kk 2 rfl ?_;first|refine GoR.store' rfl rfl rfl rfl rfl (hl:=rfl) (h1:=rfl) (h3:=rfl) (g:=?_))|(refine GoR.kk 3 rfl ?_;first|refine GoR.fieldAddr rfl rfl rfl rfl rfl ?_|refine GoR.indexN' rfl rfl rfl rfl rfl rfl (g:=?_)|refine GoR.indexNs' rfl rfl rfl rfl rfl rfl (g:=?_)|refine GoR.indexV' rfl rfl rfl rfl rfl rfl (g:=?_)|refine GoR.indexA' rfl rfl rfl rfl rfl rfl (g:=?_)|refine GoR.fieldV' rfl rfl rfl rfl rfl (g:=?_))|(refine GoR.kk 4 rfl ?_;first|refine GoR.eq rfl rfl rfl rfl rfl rfl ?_|refine GoR.ne rfl rfl rfl rfl rfl rfl ?_|refine GoR.lt rfl rfl rfl rfl rfl rfl ?_|refine GoR.le rfl rfl rfl rfl rfl rfl ?_|refine GoR.gt rfl rfl rfl rfl rfl rfl ?_|refine GoR.ge rfl rfl rfl rfl rfl rfl ?_|refine GoR.addN' rfl rfl rfl rfl rfl rfl (g:=?_)|refine GoR.subN' rfl rfl rfl rfl rfl rfl (g:=?_)|refine GoR.add' rfl rfl rfl rfl rfl rfl (g:=?_)|refine GoR.sub' rfl rfl rfl rfl rfl rfl (g:=?_)|refine GoR.addM' rfl rfl rfl rfl rfl rfl (g:=?_)|refine GoR.subM' rfl rfl rfl rfl rfl rfl (g:=?_)|refine GoR.mulM' rfl rfl rfl rfl rfl rfl (g:=?_)|refine GoR.shrN rfl rfl rfl rfl rfl rfl rfl ?_|refine GoR.structEq rfl rfl rfl rfl rfl rfl (by rfl) (by rfl) ?_|refine GoR.structNe rfl rfl rfl rfl rfl rfl (by rfl) (by rfl) ?_|refine GoR.strEq rfl rfl rfl rfl rfl rfl ?_|refine GoR.strNe rfl rfl rfl rfl rfl rfl ?_|refine GoR.remN' rfl rfl rfl rfl rfl rfl (g:=?_)|refine GoR.quoN' rfl rfl rfl rfl rfl rfl (g:=?_)|refine GoR.shlN' rfl rfl rfl rfl rfl rfl rfl (g:=?_)|refine GoR.orN' rfl rfl rfl rfl rfl rfl (g:=?_))|(refine GoR.kk 5 rfl ?_;first|refine GoR.len rfl rfl rfl rfl rfl ?_|refine GoR.lenStr rfl rfl rfl rfl rfl ?_|refine GoR.capB rfl rfl rfl rfl rfl ?_)|(refine GoR.kk 7 rfl ?_;first|refine GoR.pickE' rfl rfl rfl rfl rfl (hx:=rfl) (hy:=rfl) (g:=?_)|refine GoR.pickN' rfl rfl rfl rfl rfl (hx:=rfl) (hy:=rfl) (g:=?_)|refine GoR.pickB rfl rfl rfl rfl rfl rfl rfl ?_)|(refine GoR.kk 8 rfl ?_;first|refine GoR.boxA rfl rfl rfl rfl rfl ?_|refine GoR.boxS rfl rfl rfl rfl rfl rfl ?_|refine GoR.alloc rfl rfl rfl rfl ?_)|(refine GoR.kk 9 rfl ?_;first|refine GoR.strV' rfl rfl rfl rfl rfl (g:=?_)|refine GoR.conv_u8 rfl rfl rfl rfl rfl ?_|refine GoR.convW' rfl rfl rfl rfl rfl (g:=?_)|refine GoR.conv_u16 rfl rfl rfl rfl rfl ?_|refine GoR.conv_u32 rfl rfl rfl rfl rfl ?_)|(refine GoR.kk 10 rfl ?_;first|refine GoR.build' rfl rfl rfl rfl rfl rfl (g:=?_))|(refine GoR.kk 11 rfl ?_;first|refine GoR.extract rfl rfl rfl rfl rfl rfl ?_|refine GoR.not rfl rfl rfl rfl rfl ?_|refine GoR.nilCheck rfl rfl rfl rfl rfl ?_|refine GoR.nilCheckF rfl rfl rfl rfl rfl ?_|refine GoR.makeFunc rfl rfl rfl rfl rfl rfl ?_)|(refine Go.kk 0 rfl ?_;refine Go.seq ?_)|(refine Go.kk 1 rfl ?_;refine Go.region (by kernel_rfl) rfl ?_)|(refine Go.kk 3 rfl ?_;first|refine Go.cond_t' rfl (g:=?_)|refine Go.cond_f' rfl (g:=?_))|(refine Go.kk 4 rfl ?_;refine Go.block ?_)|(refine Go.kk 5 rfl ?_;first|refine Go.skip ?_|refine Go.ret ?_|refine Go.exit ?_|refine Go.scope ?_)|refine Go.leave_normal ?_|refine Go.leave_same ?_|refine Go.leave_ret ?_|refine Go.ret_code ?_|refine Go.exit_code ?_|refine Go.leave_other rfl ?_|refine Go.sc_normal ?_|refine Go.sc_ret ?_|refine Go.sc_exit ?_|refine Go.exit_back ?_|refine Go.ret_back ?_))
    refine Go.loud (by kernel_rfl) rfl ?_
    (refine Go.runL (g:=?_))
    refine GoL.buildRo (c := [.int .i64 3]) rfl rfl rfl rfl rfl (by decide) (by rfl) (by rfl) ?_
    intro b8 h8 hb8 rb8 ob8 s8 n8
    refine GoL.appendV rfl rfl rfl rfl rfl rfl (tv7.same s8) hb8 (fun i hi => .inl (mem_ta hi)) (by omega) (by omega) (by rfl) ?_
    intro ta' tc' h9 rd9 wr9 hwr9 hrd9 sv9 k9 o9
    have n9 := k9.1
    have gp9 := k9.get (s8.get gp7) (fun hi => by have := P.town _ hi; omega)
    (refine Go.runL (g:=?_))
    refine GoL.store (off := 0 + 2) (n := 1) (v := .slice ta' (S.l.length + 1) tc') (l := [.slice ta' (S.l.length + 1) tc']) rfl rfl rfl rfl rfl gp9 rfl rfl (show 3 ≤ 6 by decide) rfl rfl (.inl hWp) ?_
    have hdis : ∀ b ∈ wr9, b ≠ h.n ∧ b ≠ w.pp ∧ b ≠ w.rr ∧ b < h7.n := fun b hb => by
      have h1 := P.town _ (hwr9 b hb)
      have h2 := P.tv.lt _ (hwr9 b hb)
      have := s5.1
      omega
    refine GoL.end_ (hl := by (simp only [List.nil_append, List.cons_append]); repeat (first | exact loudP.nil | refine loudP.none ?_ | refine loudP.new (fun _ hb => absurd hb List.not_mem_nil) ?_ | refine loudP.row (by repeat (first | exact loudRowP.nil | refine loudRowP.none ?_ | refine loudRowP.bef (by decide +kernel) ?_ | refine loudRowP.apart (by first | exact .inl rfl | exact .inr (by simp)) rfl (fun i hi => by have hx := hdis _ hi; first | (simp; fail_if_success focus skip) | (simp; omega)) ?_)) ?_)) ?_
    clear hdis
    refine Go.name ?_
    intro h10 e10
    have k10 : Keeps [w.pp] h9 h10 := by subst e10; exact (Keeps.rfl _ _).put (by simp) _
    have n10 : h10.n = h9.n := by subst e10; rfl
    have gp10 : h10.get w.pp = some (.cells [ptr w.st, ptr w.rr, .slice ta' (S.l.length + 1) tc', .bool false, .int .i64 (S.left - 1), .int .i64 S.deep] 38) := by subst e10; exact AHeap.get_put_same _ (AHeap.lt gp9) _
    clear e10
    have K10 : Keeps (w.pp :: blk S.ta) h7 h10 := ⟨by have := s8.1; omega, fun i hi hn => by
      simp only [List.mem_cons, not_or] at hn
      have := s8.1
      rw [k10.2 i (by omega) (by simp only [List.mem_singleton]; exact hn.1), k9.2 i (by omega) hn.2, s8.2 i hi]⟩
    have hta9 : ∀ b ∈ blk ta', b ∈ blk S.ta ∨ (h7.n ≤ b ∧ b < h10.n) := fun b hb => by
      have := s8.1
      rcases o9 b hb with h' | h'
      · exact .inl h'
      · exact .inr ⟨by omega, by have := sv9.lt b hb; omega⟩
    have tv10 := sv9.keeps k10 (fun i hi hm => by
      simp only [List.mem_singleton] at hm
      subst hm
      rcases o9 _ hi with h' | h'
      · have := P.town _ h'; omega
      · have := s8.1; have := s5.1; omega)
    have hn7 : h.n + 4 < h7.n := by have := s5.1; omega
    have hn10 : h7.n ≤ h10.n := K10.1
    have no10 : ∀ b, (b = w.rr ∨ b = w.st ∨ (h.n ≤ b ∧ b < h.n + 4)) → b ∉ w.pp :: blk S.ta := fun b hb hm => by
      rcases List.mem_cons.1 hm with rfl | hm
      · omega
      · have := P.town _ hm; have := P.tv.lt _ hm; omega
    have g010 := K10.get g07 (no10 _ (by omega))
    have g110 := K10.get g17 (no10 _ (by omega))
    have g210 := K10.get g27 (no10 _ (by omega))
    have g310 := K10.get g37 (no10 _ (by omega))
    have gr10 := K10.get gr7 (no10 _ (by omega))
    have sv10 := sv7.keeps K10 (fun i hi hm => by
      have h1 := sv7.lt i hi
      rcases List.mem_cons.1 hm with rfl | hm
      · rcases hra6 _ hi with h' | h'
        · have := P.ri.own _ h'; omega
        · omega
      · rcases hra6 _ hi with h' | h'
        · have := P.cra _ h'; have := P.cta _ hm; omega
        · have := P.tv.lt _ hm; omega)
    have KK : Keeps ([w.pp, w.rr] ++ (blk S.ra ++ blk S.ta)) h4 h10 := ⟨by have := K7.1; omega, fun i hi hn => by
      simp only [List.mem_append, List.mem_cons, List.not_mem_nil, or_false, not_or] at hn
      have := K7.1
      rw [K10.2 i (by omega) (by simp only [List.mem_cons, not_or]; exact ⟨hn.1.1, hn.2.2⟩), K7.2 i hi (by simp only [List.mem_cons, not_or]; exact ⟨hn.1.2, hn.2.1⟩)]⟩
    have ge4 : ∀ {i : Nat}, i ∈ [w.pp, w.rr] ++ (blk S.ra ++ blk S.ta) → (i = w.pp ∨ i = w.rr) ∨ (w.n0 ≤ i ∧ (S.col i = 4 ∨ S.col i = 5)) := fun {i} hm => by
      simp only [List.mem_append, List.mem_cons, List.not_mem_nil, or_false] at hm
      rcases hm with hm | hm | hm
      · exact .inl hm
      · exact .inr ⟨P.ri.own _ hm, .inl (P.cra _ hm)⟩
      · exact .inr ⟨P.town _ hm, .inr (P.cta _ hm)⟩
    have si10 : SI w.n0 w.st S.l S.la S.lc h10 := si4.keeps KK (fun hm => by rcases ge4 hm with h' | h' <;> omega) (fun i hi hb => by
      have := P.cla i hb
      have := P.si.own _ hb
      rcases ge4 hi with h' | h' <;> omega) (fun t ht hm => by
      obtain ⟨i, hi, hit⟩ := List.mem_iff_getElem.1 ht
      have := P.ctp i t (by rw [List.getElem?_eq_getElem hi, hit])
      have := (P.si.ge t ht).1
      rcases ge4 hm with h' | h' <;> omega)
    clear g07 g17 g27 g37 gp7 gr7 gp9 tv7 sv7 sv9 hb8
    (repeat (first|refine GoR.end ?_|(refine GoR.gd rfl ?_;first|refine GoR.wanted' rfl rfl rfl rfl (g:=?_)|refine GoR.unwanted' rfl rfl rfl rfl (hd:=rfl) (hN:=rfl) (g:=?_)|refine GoR.unwantedU rfl rfl rfl rfl rfl rfl ?_)|(refine GoR.kk 0 rfl ?_;first|refine GoR.move rfl rfl rfl rfl rfl ?_|refine GoR.assign rfl rfl rfl rfl rfl ?_)|(refine GoR.kk 1 rfl ?_;first|refine GoR.load' rfl rfl rfl rfl rfl (g:=?_)|refine GoR.loadA' rfl rfl rfl rfl rfl (hv:=rfl) (g:=?_)|refine GoR.loadV' rfl rfl rfl rfl rfl (g:=?_)|refine GoR.loadVN' rfl rfl rfl rfl rfl (g:=?_))|(refine GoR.kk 2 rfl ?_;first|refine GoR.store' rfl rfl rfl rfl rfl (hl:=rfl) (h1:=rfl) (h3:=rfl) (g:=?_))|(refine GoR.kk 3 rfl ?_;first|refine GoR.fieldAddr rfl rfl rfl rfl rfl ?_|refine GoR.indexN' rfl rfl rfl rfl rfl rfl (g:=?_)|refine GoR.indexNs' rfl rfl rfl rfl rfl rfl (g:=?_)|refine GoR.indexV' rfl rfl rfl rfl rfl rfl (g:=?_)|refine GoR.indexA' rfl rfl rfl rfl rfl rfl (g:=?_)|refine GoR.fieldV' rfl rfl rfl rfl rfl (g:=?_))|(refine GoR.kk 4 rfl ?_;first|refine GoR.eq rfl rfl rfl rfl rfl rfl ?_|refine GoR.ne rfl rfl rfl rfl rfl rfl ?_|refine GoR.lt rfl rfl rfl rfl rfl rfl ?_|refine GoR.le rfl rfl rfl rfl rfl rfl ?_|refine GoR.gt rfl rfl rfl rfl rfl rfl ?_|refine GoR.ge rfl rfl rfl rfl rfl rfl ?_|refine GoR.addN' rfl rfl rfl rfl rfl rfl (g:=?_)|refine GoR.subN' rfl rfl rfl rfl rfl rfl (g:=?_)|refine GoR.add' rfl rfl rfl rfl rfl rfl (g:=?_)|refine GoR.sub' rfl rfl rfl rfl rfl rfl (g:=?_)|refine GoR.addM' rfl rfl rfl rfl rfl rfl (g:=?_)|refine GoR.subM' rfl rfl rfl rfl rfl rfl (g:=?_)|refine GoR.mulM' rfl rfl rfl rfl rfl rfl (g:=?_)|refine GoR.shrN rfl rfl rfl rfl rfl rfl rfl ?_|refine GoR.structEq rfl rfl rfl rfl rfl rfl (by rfl) (by rfl) ?_|refine GoR.structNe rfl rfl rfl rfl rfl rfl (by rfl) (by rfl) ?_|refine GoR.strEq rfl rfl rfl rfl rfl rfl ?_|refine GoR.strNe rfl rfl rfl rfl rfl rfl ?_|refine GoR.remN' rfl rfl rfl rfl rfl rfl (g:=?_)|refine GoR.quoN' rfl rfl rfl rfl rfl rfl (g:=?_)|refine GoR.shlN' rfl rfl rfl rfl rfl rfl rfl (g:=?_)|refine GoR.orN' rfl rfl rfl rfl rfl rfl (g:=?_))|(refine GoR.kk 5 rfl ?_;first|refine GoR.len rfl rfl rfl rfl rfl ?_|refine GoR.lenStr rfl rfl rfl rfl rfl ?_|refine GoR.capB rfl rfl rfl rfl rfl ?_)|(refine GoR.kk 7 rfl ?_;first|refine GoR.pickE' rfl rfl rfl rfl rfl (hx:=rfl) (hy:=rfl) (g:=?_)|refine GoR.pickN' rfl rfl rfl rfl rfl (hx:=rfl) (hy:=rfl) (g:=?_)|refine GoR.pickB rfl rfl rfl rfl rfl rfl rfl ?_)|(refine GoR.kk 8 rfl ?_;first|refine GoR.boxA rfl rfl rfl rfl rfl ?_|refine GoR.boxS rfl rfl rfl rfl rfl rfl ?_|refine GoR.alloc rfl rfl rfl rfl ?_)|(refine GoR.kk 9 rfl ?_;first|refine GoR.strV' rfl rfl rfl rfl rfl (g:=?_)|refine GoR.conv_u8 rfl rfl rfl rfl rfl ?_|refine GoR.convW' rfl rfl rfl rfl rfl (g:=?_)|refine GoR.conv_u16 rfl rfl rfl rfl rfl ?_|refine GoR.conv_u32 rfl rfl rfl rfl rfl ?_)|(refine GoR.kk 10 rfl ?_;first|refine GoR.build' rfl rfl rfl rfl rfl rfl (g:=?_))|(refine GoR.kk 11 rfl ?_;first|refine GoR.extract rfl rfl rfl rfl rfl rfl ?_|refine GoR.not rfl rfl rfl rfl rfl ?_|refine GoR.nilCheck rfl rfl rfl rfl rfl ?_|refine GoR.nilCheckF rfl rfl rfl rfl rfl ?_|refine GoR.makeFunc rfl rfl rfl rfl rfl rfl ?_)|(refine Go.kk 0 rfl ?_;refine Go.seq ?_)|(refine Go.kk 1 rfl ?_;refine Go.region (by kernel_rfl) rfl ?_)|(refine Go.kk 3 rfl ?_;first|refine Go.cond_t' rfl (g:=?_)|refine Go.cond_f' rfl (g:=?_))|(refine Go.kk 4 rfl ?_;refine Go.block ?_)|(refine Go.kk 5 rfl ?_;first|refine Go.skip ?_|refine Go.ret ?_|refine Go.exit ?_|refine Go.scope ?_)|refine Go.leave_normal ?_|refine Go.leave_same ?_|refine Go.leave_ret ?_|refine Go.ret_code ?_|refine Go.exit_code ?_|refine Go.leave_other rfl ?_|refine Go.sc_normal ?_|refine Go.sc_ret ?_|refine Go.sc_exit ?_|refine Go.exit_back ?_|refine Go.ret_back ?_))
    refine Go.loud (by kernel_rfl) rfl ?_
    (refine Go.runL (g:=?_))
    refine GoL.call rfl rfl rfl rfl rfl rfl rfl (((spawn_spec w.n0 w.st S.l (by omega) S.la S.lc h10 si10 64 #[ptr h.n, ptr (h.n + 2), ptr (h.n + 3), ptr (h.n + 1)]).argA).mono ?_)
    rintro _ h11 ⟨rfl, la', lc', p, SI11, hp, ho⟩ k11
    have n11 := k11.1
    refine ⟨fun i hi => .inl ?_, ?_⟩
    · rcases List.mem_cons.1 hi with rfl | hi
      · exact mem_st
      · exact mem_la hi
    have no11 : ∀ b, (b = w.rr ∨ b = w.pp ∨ (h.n ≤ b ∧ b < h.n + 4)) → b ∉ w.st :: blk S.la := fun b hb hm => by
      rcases List.mem_cons.1 hm with rfl | hm
      · omega
      · have := P.si.own _ hm; have := P.si.sv.lt _ hm; omega
    have g011 := k11.get g010 (no11 _ (by omega))
    have g111 := k11.get g110 (no11 _ (by omega))
    have g211 := k11.get g210 (no11 _ (by omega))
    have g311 := k11.get g310 (no11 _ (by omega))
    have gr11 := k11.get gr10 (no11 _ (by omega))
    have gp11 := k11.get gp10 (no11 _ (by omega))
    have tv11 := tv10.keeps k11 (fun i hi hm => by
      rcases List.mem_cons.1 hm with rfl | hm
      · rcases hta9 _ hi with h' | h'
        · have := P.town _ h'; omega
        · omega
      · rcases hta9 _ hi with h' | h'
        · have := P.cta _ h'; have := P.cla _ hm; omega
        · have := P.si.sv.lt _ hm; omega)
    have sv11 := sv10.keeps k11 (fun i hi hm => by
      rcases List.mem_cons.1 hm with rfl | hm
      · rcases hra6 _ hi with h' | h'
        · have := P.ri.own _ h'; omega
        · omega
      · rcases hra6 _ hi with h' | h'
        · have := P.cra _ h'; have := P.cla _ hm; omega
        · have := P.si.sv.lt _ hm; omega)
    have hdis : ∀ b ∈ w.st :: blk S.la, b ≠ h.n + 2 ∧ b < h10.n := fun b hb => by
      rcases List.mem_cons.1 hb with rfl | hm
      · omega
      · have := P.si.own _ hm; have := P.si.sv.lt _ hm; omega
    clear g010 g110 g210 g310 gr10 gp10 tv10 sv10
    (refine Go.runL (g:=?_))
    refine GoL.end_ (hl := by (simp only [List.nil_append, List.cons_append]); repeat (first | exact loudP.nil | refine loudP.none ?_ | refine loudP.new (fun _ hb => absurd hb List.not_mem_nil) ?_ | refine loudP.row (by repeat (first | exact loudRowP.nil | refine loudRowP.none ?_ | refine loudRowP.bef (by decide +kernel) ?_ | refine loudRowP.apart (by first | exact .inl rfl | exact .inr (by simp)) rfl (fun i hi => by have hx := hdis _ hi; first | (simp; fail_if_success focus skip) | (simp; omega)) ?_)) ?_)) ?_
    clear hdis
    (refine Go.run (g:=?_))
    (first|refine Go.finT (by first|exact .inr rfl|exact .inl rfl) rfl ?_|refine Go.fin1 (by first|exact .inr rfl|exact .inl rfl) rfl (hq:=?_))
    have RI' : RI w.n0 w.rr (S.l ++ [⟨p, cloP h.n, 1, false, false, 0⟩]) ra' rc' h11 := ⟨by rw [List.length_append]; exact gr11, by rw [rcs_snoc, List.length_append]; exact sv11, (fun i hi => by
      rcases hra6 i hi with h' | h'
      · exact P.ri.own _ h'
      · omega), by omega, or_.2⟩
    have KF : Keeps ([w.pp, w.rr, w.st] ++ (blk S.la ++ (blk S.ra ++ blk S.ta))) h h11 := ⟨by omega, fun i hi hn => by
      simp only [List.mem_append, List.mem_cons, List.not_mem_nil, or_false, not_or] at hn
      obtain ⟨⟨a1, a2, a3⟩, a4, a5, a6⟩ := hn
      rw [k11.2 i (by omega) (by simp only [List.mem_cons, not_or]; exact ⟨a3, a4⟩), KK.2 i (by omega) (by simp only [List.mem_append, List.mem_cons, List.not_mem_nil, or_false, not_or]; exact ⟨⟨a1, a2⟩, a5, a6⟩), s4.2 i (by omega), k3.2 i (by omega) (by simp only [List.mem_singleton]; exact a1), s2.2 i hi]⟩
    have rowF : ARow w.B h11 xa xc acts := row.keeps KF (fun b hb => by
      simp only [List.mem_append, List.mem_cons, List.not_mem_nil, or_false] at hb
      rcases hb with (rfl | rfl | rfl) | hb | hb | hb
      · exact op.1
      · exact or_.1
      · exact os.1
      · have := P.si.own _ hb; omega
      · have := P.ri.own _ hb; omega
      · have := P.town _ hb; omega)
    obtain ⟨S', e, P', E⟩ := P.snoc (n9 := h7.n) (n11 := h10.n) (c := ⟨h.n, xa, xc, acts, 0⟩) KF SI11 RI' gp11 (by rw [ints_snoc]; exact tv11) ho hra6 hta9 (by omega) hn10 hp rfl (.inr ⟨rfl, g011, g111, g211, g311, Nat.zero_le _, rowF⟩) rfl (show 1 < 256 by decide) (by omega) (by omega)
    exact ⟨S', P', E, by rw [e], by rw [e]⟩
  · (repeat (first|refine GoR.end ?_|(refine GoR.gd rfl ?_;first|refine GoR.wanted' rfl rfl rfl rfl (g:=?_)|refine GoR.unwanted' rfl rfl rfl rfl (hd:=rfl) (hN:=rfl) (g:=?_)|refine GoR.unwantedU rfl rfl rfl rfl rfl rfl ?_)|(refine GoR.kk 0 rfl ?_;first|refine GoR.move rfl rfl rfl rfl rfl ?_|refine GoR.assign rfl rfl rfl rfl rfl ?_)|(refine GoR.kk 1 rfl ?_;first|refine GoR.load' rfl rfl rfl rfl rfl (g:=?_)|refine GoR.loadA' rfl rfl rfl rfl rfl (hv:=rfl) (g:=?_)|refine GoR.loadV' rfl rfl rfl rfl rfl (g:=?_)|refine GoR.loadVN' rfl rfl rfl rfl rfl (g:=?_))|(refine GoR.kk 2 rfl ?_;first|refine GoR.store' rfl rfl rfl rfl rfl (hl:=rfl) (h1:=rfl) (h3:=rfl) (g:=?_))|(refine GoR.kk 3 rfl ?_;first|refine GoR.fieldAddr rfl rfl rfl rfl rfl ?_|refine GoR.indexN' rfl rfl rfl rfl rfl rfl (g:=?_)|refine GoR.indexNs' rfl rfl rfl rfl rfl rfl (g:=?_)|refine GoR.indexV' rfl rfl rfl rfl rfl rfl (g:=?_)|refine GoR.indexA' rfl rfl rfl rfl rfl rfl (g:=?_)|refine GoR.fieldV' rfl rfl rfl rfl rfl (g:=?_))|(refine GoR.kk 4 rfl ?_;first|refine GoR.eq rfl rfl rfl rfl rfl rfl ?_|refine GoR.ne rfl rfl rfl rfl rfl rfl ?_|refine GoR.lt rfl rfl rfl rfl rfl rfl ?_|refine GoR.le rfl rfl rfl rfl rfl rfl ?_|refine GoR.gt rfl rfl rfl rfl rfl rfl ?_|refine GoR.ge rfl rfl rfl rfl rfl rfl ?_|refine GoR.addN' rfl rfl rfl rfl rfl rfl (g:=?_)|refine GoR.subN' rfl rfl rfl rfl rfl rfl (g:=?_)|refine GoR.add' rfl rfl rfl rfl rfl rfl (g:=?_)|refine GoR.sub' rfl rfl rfl rfl rfl rfl (g:=?_)|refine GoR.addM' rfl rfl rfl rfl rfl rfl (g:=?_)|refine GoR.subM' rfl rfl rfl rfl rfl rfl (g:=?_)|refine GoR.mulM' rfl rfl rfl rfl rfl rfl (g:=?_)|refine GoR.shrN rfl rfl rfl rfl rfl rfl rfl ?_|refine GoR.structEq rfl rfl rfl rfl rfl rfl (by rfl) (by rfl) ?_|refine GoR.structNe rfl rfl rfl rfl rfl rfl (by rfl) (by rfl) ?_|refine GoR.strEq rfl rfl rfl rfl rfl rfl ?_|refine GoR.strNe rfl rfl rfl rfl rfl rfl ?_|refine GoR.remN' rfl rfl rfl rfl rfl rfl (g:=?_)|refine GoR.quoN' rfl rfl rfl rfl rfl rfl (g:=?_)|refine GoR.shlN' rfl rfl rfl rfl rfl rfl rfl (g:=?_)|refine GoR.orN' rfl rfl rfl rfl rfl rfl (g:=?_))|(refine GoR.kk 5 rfl ?_;first|refine GoR.len rfl rfl rfl rfl rfl ?_|refine GoR.lenStr rfl rfl rfl rfl rfl ?_|refine GoR.capB rfl rfl rfl rfl rfl ?_)|(refine GoR.kk 7 rfl ?_;first|refine GoR.pickE' rfl rfl rfl rfl rfl (hx:=rfl) (hy:=rfl) (g:=?_)|refine GoR.pickN' rfl rfl rfl rfl rfl (hx:=rfl) (hy:=rfl) (g:=?_)|refine GoR.pickB rfl rfl rfl rfl rfl rfl rfl ?_)|(refine GoR.kk 8 rfl ?_;first|refine GoR.boxA rfl rfl rfl rfl rfl ?_|refine GoR.boxS rfl rfl rfl rfl rfl rfl ?_|refine GoR.alloc rfl rfl rfl rfl ?_)|(refine GoR.kk 9 rfl ?_;first|refine GoR.strV' rfl rfl rfl rfl rfl (g:=?_)|refine GoR.conv_u8 rfl rfl rfl rfl rfl ?_|refine GoR.convW' rfl rfl rfl rfl rfl (g:=?_)|refine GoR.conv_u16 rfl rfl rfl rfl rfl ?_|refine GoR.conv_u32 rfl rfl rfl rfl rfl ?_)|(refine GoR.kk 10 rfl ?_;first|refine GoR.build' rfl rfl rfl rfl rfl rfl (g:=?_))|(refine GoR.kk 11 rfl ?_;first|refine GoR.extract rfl rfl rfl rfl rfl rfl ?_|refine GoR.not rfl rfl rfl rfl rfl ?_|refine GoR.nilCheck rfl rfl rfl rfl rfl ?_|refine GoR.nilCheckF rfl rfl rfl rfl rfl ?_|refine GoR.makeFunc rfl rfl rfl rfl rfl rfl ?_)|(refine Go.kk 0 rfl ?_;refine Go.seq ?_)|(refine Go.kk 1 rfl ?_;refine Go.region (by kernel_rfl) rfl ?_)|(refine Go.kk 3 rfl ?_;first|refine Go.cond_t' rfl (g:=?_)|refine Go.cond_f' rfl (g:=?_))|(refine Go.kk 4 rfl ?_;refine Go.block ?_)|(refine Go.kk 5 rfl ?_;first|refine Go.skip ?_|refine Go.ret ?_|refine Go.exit ?_|refine Go.scope ?_)|refine Go.leave_normal ?_|refine Go.leave_same ?_|refine Go.leave_ret ?_|refine Go.ret_code ?_|refine Go.exit_code ?_|refine Go.leave_other rfl ?_|refine Go.sc_normal ?_|refine Go.sc_ret ?_|refine Go.sc_exit ?_|refine Go.exit_back ?_|refine Go.ret_back ?_))
    refine Go.loud (by kernel_rfl) rfl ?_
    (refine Go.runL (g:=?_))
    refine GoL.buildRo (c := [.int .i64 1, .bool false, .bool false, .int .u64 0]) rfl rfl rfl rfl rfl (by decide) (by rfl) (by rfl) ?_
    intro b5 h5 hb5 rb5 ob5 s5 n5
    refine GoL.appendV rfl rfl rfl rfl rfl rfl (ri4.sv.same s5) hb5 (fun i hi => .inl (mem_ra hi)) (by omega) (by omega) (by rfl) ?_
    intro ra' rc' h6 rd6 wr6 hwr6 hrd6 sv6 k6 o6
    have n6 := k6.1
    have gr6 := k6.get (s5.get gr4) (fun hi => by have := P.ri.own _ hi; omega)
    (refine Go.runL (g:=?_))
    refine GoL.store (off := 0) (n := 1) (v := .slice ra' (S.l.length + 1) rc') (l := [.slice ra' (S.l.length + 1) rc']) rfl rfl rfl rfl rfl gr6 rfl rfl (Nat.le_refl _) rfl rfl (.inl hWr) ?_
    have hdis : ∀ b ∈ wr6, b ≠ h.n ∧ b ≠ w.pp ∧ b ≠ w.rr ∧ b < h4.n := fun b hb => by
      have h1 := P.ri.own _ (hwr6 b hb)
      have h2 := P.ri.sv.lt _ (hwr6 b hb)
      omega
    refine GoL.end_ (hl := by (simp only [List.nil_append, List.cons_append]); repeat (first | exact loudP.nil | refine loudP.none ?_ | refine loudP.new (fun _ hb => absurd hb List.not_mem_nil) ?_ | refine loudP.row (by repeat (first | exact loudRowP.nil | refine loudRowP.none ?_ | refine loudRowP.bef (by decide +kernel) ?_ | refine loudRowP.apart (by first | exact .inl rfl | exact .inr (by simp)) rfl (fun i hi => by have hx := hdis _ hi; first | (simp; fail_if_success focus skip) | (simp; omega)) ?_)) ?_)) ?_
    clear hdis
    refine Go.name ?_
    intro h7 e7
    have k7 : Keeps [w.rr] h6 h7 := by subst e7; exact (Keeps.rfl _ _).put (by simp) _
    have n7 : h7.n = h6.n := by subst e7; rfl
    have gr7 : h7.get w.rr = some (.cells [.slice ra' (S.l.length + 1) rc'] 36) := by subst e7; exact AHeap.get_put_same _ (AHeap.lt gr6) _
    clear e7
    have K7 : Keeps (w.rr :: blk S.ra) h4 h7 := ⟨by have := s5.1; omega, fun i hi hn => by
      simp only [List.mem_cons, not_or] at hn
      have := s5.1
      rw [k7.2 i (by omega) (by simp only [List.mem_singleton]; exact hn.1), k6.2 i (by omega) hn.2, s5.2 i hi]⟩
    have hra6 : ∀ b ∈ blk ra', b ∈ blk S.ra ∨ (h.n + 4 ≤ b ∧ b < h7.n) := fun b hb => by
      have := s5.1
      rcases o6 b hb with h' | h'
      · exact .inl h'
      · exact .inr ⟨by omega, by have := sv6.lt b hb; omega⟩
    have sv7 := sv6.keeps k7 (fun i hi hm => by
      simp only [List.mem_singleton] at hm
      subst hm
      rcases o6 _ hi with h' | h'
      · have := P.ri.own _ h'; omega
      · have := s5.1; omega)
    have no7 : ∀ b, (b = w.pp ∨ (h.n ≤ b ∧ b < h.n + 4)) → b ∉ w.rr :: blk S.ra := fun b hb hm => by
      rcases List.mem_cons.1 hm with rfl | hm
      · omega
      · have := P.ri.own _ hm; have := P.ri.sv.lt _ hm; omega
    have g07 := K7.get g04 (no7 _ (.inr (by omega)))
    have g17 := K7.get g14 (no7 _ (.inr (by omega)))
    have g27 := K7.get g24 (no7 _ (.inr (by omega)))
    have g37 := K7.get g34 (no7 _ (.inr (by omega)))
    have gp7 := K7.get gp4 (no7 _ (.inl rfl))
    have tv7 := tv4.keeps K7 (fun i hi hm => by
      rcases List.mem_cons.1 hm with rfl | hm
      · have := P.town _ hi; omega
      · have := P.cta i hi; have := P.cra i hm; omega)
    clear g04 g14 g24 g34 gp4 gr4 gr6 tv4 sv6 hb5
    (repeat (first|refine GoR.end ?_|(refine GoR.gd rfl ?_;first|refine GoR.wanted' rfl rfl rfl rfl (g:=?_)|refine GoR.unwanted' rfl rfl rfl rfl (hd:=rfl) (hN:=rfl) (g:=?_)|refine GoR.unwantedU rfl rfl rfl rfl rfl rfl ?_)|(refine GoR.kk 0 rfl ?_;first|refine GoR.move rfl rfl rfl rfl rfl ?_|refine GoR.assign rfl rfl rfl rfl rfl ?_)|(refine GoR.kk 1 rfl ?_;first|refine GoR.load' rfl rfl rfl rfl rfl (g:=?_)|refine GoR.loadA' rfl rfl rfl rfl rfl (hv:=rfl) (g:=?_)|refine GoR.loadV' rfl rfl rfl rfl rfl (g:=?_)|refine GoR.loadVN' rfl rfl rfl rfl rfl (g:=?_))|(refine GoR.kk 2 rfl ?_;first|refine GoR.store' rfl rfl rfl rfl rfl (hl:=rfl) (h1:=rfl) (h3:=rfl) (g:=?_))|(refine GoR.kk 3 rfl ?_;first|refine GoR.fieldAddr rfl rfl rfl rfl rfl ?_|refine GoR.indexN' rfl rfl rfl rfl rfl rfl (g:=?_)|refine GoR.indexNs' rfl rfl rfl rfl rfl rfl (g:=?_)|refine GoR.indexV' rfl rfl rfl rfl rfl rfl (g:=?_)|refine GoR.indexA' rfl rfl rfl rfl rfl rfl (g:=?_)|refine GoR.fieldV' rfl rfl rfl rfl rfl (g:=?_))|(refine GoR.kk 4 rfl ?_;first|refine GoR.eq rfl rfl rfl rfl rfl rfl ?_|refine GoR.ne rfl rfl rfl rfl rfl rfl ?_|refine GoR.lt rfl rfl rfl rfl rfl rfl ?_|refine GoR.le rfl rfl rfl rfl rfl rfl ?_|refine GoR.gt rfl rfl rfl rfl rfl rfl ?_|refine GoR.ge rfl rfl rfl rfl rfl rfl ?_|refine GoR.addN' rfl rfl rfl rfl rfl rfl (g:=?_)|refine GoR.subN' rfl rfl rfl rfl rfl rfl (g:=?_)|refine GoR.add' rfl rfl rfl rfl rfl rfl (g:=?_)|refine GoR.sub' rfl rfl rfl rfl rfl rfl (g:=?_)|refine GoR.addM' rfl rfl rfl rfl rfl rfl (g:=?_)|refine GoR.subM' rfl rfl rfl rfl rfl rfl (g:=?_)|refine GoR.mulM' rfl rfl rfl rfl rfl rfl (g:=?_)|refine GoR.shrN rfl rfl rfl rfl rfl rfl rfl ?_|refine GoR.structEq rfl rfl rfl rfl rfl rfl (by rfl) (by rfl) ?_|refine GoR.structNe rfl rfl rfl rfl rfl rfl (by rfl) (by rfl) ?_|refine GoR.strEq rfl rfl rfl rfl rfl rfl ?_|refine GoR.strNe rfl rfl rfl rfl rfl rfl ?_|refine GoR.remN' rfl rfl rfl rfl rfl rfl (g:=?_)|refine GoR.quoN' rfl rfl rfl rfl rfl rfl (g:=?_)|refine GoR.shlN' rfl rfl rfl rfl rfl rfl rfl (g:=?_)|refine GoR.orN' rfl rfl rfl rfl rfl rfl (g:=?_))|(refine GoR.kk 5 rfl ?_;first|refine GoR.len rfl rfl rfl rfl rfl ?_|refine GoR.lenStr rfl rfl rfl rfl rfl ?_|refine GoR.capB rfl rfl rfl rfl rfl ?_)|(refine GoR.kk 7 rfl ?_;first|refine GoR.pickE' rfl rfl rfl rfl rfl (hx:=rfl) (hy:=rfl) (g:=?_)|refine GoR.pickN' rfl rfl rfl rfl rfl (hx:=rfl) (hy:=rfl) (g:=?_)|refine GoR.pickB rfl rfl rfl rfl rfl rfl rfl ?_)|(refine GoR.kk 8 rfl ?_;first|refine GoR.boxA rfl rfl rfl rfl rfl ?_|refine GoR.boxS rfl rfl rfl rfl rfl rfl ?_|refine GoR.alloc rfl rfl rfl rfl ?_)|(refine GoR.kk 9 rfl ?_;first|refine GoR.strV' rfl rfl rfl rfl rfl (g:=?_)|refine GoR.conv_u8 rfl rfl rfl rfl rfl ?_|refine GoR.convW' rfl rfl rfl rfl rfl (g:=?_)|refine GoR.conv_u16 rfl rfl rfl rfl rfl ?_|refine GoR.conv_u32 rfl rfl rfl rfl rfl ?_)|(refine GoR.kk 10 rfl ?_;first|refine GoR.build' rfl rfl rfl rfl rfl rfl (g:=?_))|(refine GoR.kk 11 rfl ?_;first|refine GoR.extract rfl rfl rfl rfl rfl rfl ?_|refine GoR.not rfl rfl rfl rfl rfl ?_|refine GoR.nilCheck rfl rfl rfl rfl rfl ?_|refine GoR.nilCheckF rfl rfl rfl rfl rfl ?_|refine GoR.makeFunc rfl rfl rfl rfl rfl rfl ?_)|(refine Go.kk 0 rfl ?_;refine Go.seq ?_)|(refine Go.kk 1 rfl ?_;refine Go.region (by kernel_rfl) rfl ?_)|(refine Go.kk 3 rfl ?_;first|refine Go.cond_t' rfl (g:=?_)|refine Go.cond_f' rfl (g:=?_))|(refine Go.kk 4 rfl ?_;refine Go.block ?_)|(refine Go.kk 5 rfl ?_;first|refine Go.skip ?_|refine Go.ret ?_|refine Go.exit ?_|refine Go.scope ?_)|refine Go.leave_normal ?_|refine Go.leave_same ?_|refine Go.leave_ret ?_|refine Go.ret_code ?_|refine Go.exit_code ?_|refine Go.leave_other rfl ?_|refine Go.sc_normal ?_|refine Go.sc_ret ?_|refine Go.sc_exit ?_|refine Go.exit_back ?_|refine Go.ret_back ?_))
    refine Go.loud (by kernel_rfl) rfl ?_
    (refine Go.runL (g:=?_))
    refine GoL.buildRo (c := [.int .i64 3]) rfl rfl rfl rfl rfl (by decide) (by rfl) (by rfl) ?_
    intro b8 h8 hb8 rb8 ob8 s8 n8
    refine GoL.appendV rfl rfl rfl rfl rfl rfl (tv7.same s8) hb8 (fun i hi => .inl (mem_ta hi)) (by omega) (by omega) (by rfl) ?_
    intro ta' tc' h9 rd9 wr9 hwr9 hrd9 sv9 k9 o9
    have n9 := k9.1
    have gp9 := k9.get (s8.get gp7) (fun hi => by have := P.town _ hi; omega)
    (refine Go.runL (g:=?_))
    refine GoL.store (off := 0 + 2) (n := 1) (v := .slice ta' (S.l.length + 1) tc') (l := [.slice ta' (S.l.length + 1) tc']) rfl rfl rfl rfl rfl gp9 rfl rfl (show 3 ≤ 6 by decide) rfl rfl (.inl hWp) ?_
    have hdis : ∀ b ∈ wr9, b ≠ h.n ∧ b ≠ w.pp ∧ b ≠ w.rr ∧ b < h7.n := fun b hb => by
      have h1 := P.town _ (hwr9 b hb)
      have h2 := P.tv.lt _ (hwr9 b hb)
      have := s5.1
      omega
    refine GoL.end_ (hl := by (simp only [List.nil_append, List.cons_append]); repeat (first | exact loudP.nil | refine loudP.none ?_ | refine loudP.new (fun _ hb => absurd hb List.not_mem_nil) ?_ | refine loudP.row (by repeat (first | exact loudRowP.nil | refine loudRowP.none ?_ | refine loudRowP.bef (by decide +kernel) ?_ | refine loudRowP.apart (by first | exact .inl rfl | exact .inr (by simp)) rfl (fun i hi => by have hx := hdis _ hi; first | (simp; fail_if_success focus skip) | (simp; omega)) ?_)) ?_)) ?_
    clear hdis
    refine Go.name ?_
    intro h10 e10
    have k10 : Keeps [w.pp] h9 h10 := by subst e10; exact (Keeps.rfl _ _).put (by simp) _
    have n10 : h10.n = h9.n := by subst e10; rfl
    have gp10 : h10.get w.pp = some (.cells [ptr w.st, ptr w.rr, .slice ta' (S.l.length + 1) tc', .bool false, .int .i64 (S.left - 1), .int .i64 S.deep] 38) := by subst e10; exact AHeap.get_put_same _ (AHeap.lt gp9) _
    clear e10
    have K10 : Keeps (w.pp :: blk S.ta) h7 h10 := ⟨by have := s8.1; omega, fun i hi hn => by
      simp only [List.mem_cons, not_or] at hn
      have := s8.1
      rw [k10.2 i (by omega) (by simp only [List.mem_singleton]; exact hn.1), k9.2 i (by omega) hn.2, s8.2 i hi]⟩
    have hta9 : ∀ b ∈ blk ta', b ∈ blk S.ta ∨ (h7.n ≤ b ∧ b < h10.n) := fun b hb => by
      have := s8.1
      rcases o9 b hb with h' | h'
      · exact .inl h'
      · exact .inr ⟨by omega, by have := sv9.lt b hb; omega⟩
    have tv10 := sv9.keeps k10 (fun i hi hm => by
      simp only [List.mem_singleton] at hm
      subst hm
      rcases o9 _ hi with h' | h'
      · have := P.town _ h'; omega
      · have := s8.1; have := s5.1; omega)
    have hn7 : h.n + 4 < h7.n := by have := s5.1; omega
    have hn10 : h7.n ≤ h10.n := K10.1
    have no10 : ∀ b, (b = w.rr ∨ b = w.st ∨ (h.n ≤ b ∧ b < h.n + 4)) → b ∉ w.pp :: blk S.ta := fun b hb hm => by
      rcases List.mem_cons.1 hm with rfl | hm
      · omega
      · have := P.town _ hm; have := P.tv.lt _ hm; omega
    have g010 := K10.get g07 (no10 _ (by omega))
    have g110 := K10.get g17 (no10 _ (by omega))
    have g210 := K10.get g27 (no10 _ (by omega))
    have g310 := K10.get g37 (no10 _ (by omega))
    have gr10 := K10.get gr7 (no10 _ (by omega))
    have sv10 := sv7.keeps K10 (fun i hi hm => by
      have h1 := sv7.lt i hi
      rcases List.mem_cons.1 hm with rfl | hm
      · rcases hra6 _ hi with h' | h'
        · have := P.ri.own _ h'; omega
        · omega
      · rcases hra6 _ hi with h' | h'
        · have := P.cra _ h'; have := P.cta _ hm; omega
        · have := P.tv.lt _ hm; omega)
    have KK : Keeps ([w.pp, w.rr] ++ (blk S.ra ++ blk S.ta)) h4 h10 := ⟨by have := K7.1; omega, fun i hi hn => by
      simp only [List.mem_append, List.mem_cons, List.not_mem_nil, or_false, not_or] at hn
      have := K7.1
      rw [K10.2 i (by omega) (by simp only [List.mem_cons, not_or]; exact ⟨hn.1.1, hn.2.2⟩), K7.2 i hi (by simp only [List.mem_cons, not_or]; exact ⟨hn.1.2, hn.2.1⟩)]⟩
    have ge4 : ∀ {i : Nat}, i ∈ [w.pp, w.rr] ++ (blk S.ra ++ blk S.ta) → (i = w.pp ∨ i = w.rr) ∨ (w.n0 ≤ i ∧ (S.col i = 4 ∨ S.col i = 5)) := fun {i} hm => by
      simp only [List.mem_append, List.mem_cons, List.not_mem_nil, or_false] at hm
      rcases hm with hm | hm | hm
      · exact .inl hm
      · exact .inr ⟨P.ri.own _ hm, .inl (P.cra _ hm)⟩
      · exact .inr ⟨P.town _ hm, .inr (P.cta _ hm)⟩
    have si10 : SI w.n0 w.st S.l S.la S.lc h10 := si4.keeps KK (fun hm => by rcases ge4 hm with h' | h' <;> omega) (fun i hi hb => by
      have := P.cla i hb
      have := P.si.own _ hb
      rcases ge4 hi with h' | h' <;> omega) (fun t ht hm => by
      obtain ⟨i, hi, hit⟩ := List.mem_iff_getElem.1 ht
      have := P.ctp i t (by rw [List.getElem?_eq_getElem hi, hit])
      have := (P.si.ge t ht).1
      rcases ge4 hm with h' | h' <;> omega)
    clear g07 g17 g27 g37 gp7 gr7 gp9 tv7 sv7 sv9 hb8
    (repeat (first|refine GoR.end ?_|(refine GoR.gd rfl ?_;first|refine GoR.wanted' rfl rfl rfl rfl (g:=?_)|refine GoR.unwanted' rfl rfl rfl rfl (hd:=rfl) (hN:=rfl) (g:=?_)|refine GoR.unwantedU rfl rfl rfl rfl rfl rfl ?_)|(refine GoR.kk 0 rfl ?_;first|refine GoR.move rfl rfl rfl rfl rfl ?_|refine GoR.assign rfl rfl rfl rfl rfl ?_)|(refine GoR.kk 1 rfl ?_;first|refine GoR.load' rfl rfl rfl rfl rfl (g:=?_)|refine GoR.loadA' rfl rfl rfl rfl rfl (hv:=rfl) (g:=?_)|refine GoR.loadV' rfl rfl rfl rfl rfl (g:=?_)|refine GoR.loadVN' rfl rfl rfl rfl rfl (g:=?_))|(refine GoR.kk 2 rfl ?_;first|refine GoR.store' rfl rfl rfl rfl rfl (hl:=rfl) (h1:=rfl) (h3:=rfl) (g:=?_))|(refine GoR.kk 3 rfl ?_;first|refine GoR.fieldAddr rfl rfl rfl rfl rfl ?_|refine GoR.indexN' rfl rfl rfl rfl rfl rfl (g:=?_)|refine GoR.indexNs' rfl rfl rfl rfl rfl rfl (g:=?_)|refine GoR.indexV' rfl rfl rfl rfl rfl rfl (g:=?_)|refine GoR.indexA' rfl rfl rfl rfl rfl rfl (g:=?_)|refine GoR.fieldV' rfl rfl rfl rfl rfl (g:=?_))|(refine GoR.kk 4 rfl ?_;first|refine GoR.eq rfl rfl rfl rfl rfl rfl ?_|refine GoR.ne rfl rfl rfl rfl rfl rfl ?_|refine GoR.lt rfl rfl rfl rfl rfl rfl ?_|refine GoR.le rfl rfl rfl rfl rfl rfl ?_|refine GoR.gt rfl rfl rfl rfl rfl rfl ?_|refine GoR.ge rfl rfl rfl rfl rfl rfl ?_|refine GoR.addN' rfl rfl rfl rfl rfl rfl (g:=?_)|refine GoR.subN' rfl rfl rfl rfl rfl rfl (g:=?_)|refine GoR.add' rfl rfl rfl rfl rfl rfl (g:=?_)|refine GoR.sub' rfl rfl rfl rfl rfl rfl (g:=?_)|refine GoR.addM' rfl rfl rfl rfl rfl rfl (g:=?_)|refine GoR.subM' rfl rfl rfl rfl rfl rfl (g:=?_)|refine GoR.mulM' rfl rfl rfl rfl rfl rfl (g:=?_)|refine GoR.shrN rfl rfl rfl rfl rfl rfl rfl ?_|refine GoR.structEq rfl rfl rfl rfl rfl rfl (by rfl) (by rfl) ?_|refine GoR.structNe rfl rfl rfl rfl rfl rfl (by rfl) (by rfl) ?_|refine GoR.strEq rfl rfl rfl rfl rfl rfl ?_|refine GoR.strNe rfl rfl rfl rfl rfl rfl ?_|refine GoR.remN' rfl rfl rfl rfl rfl rfl (g:=?_)|refine GoR.quoN' rfl rfl rfl rfl rfl rfl (g:=?_)|refine GoR.shlN' rfl rfl rfl rfl rfl rfl rfl (g:=?_)|refine GoR.orN' rfl rfl rfl rfl rfl rfl (g:=?_))|(refine GoR.kk 5 rfl ?_;first|refine GoR.len rfl rfl rfl rfl rfl ?_|refine GoR.lenStr rfl rfl rfl rfl rfl ?_|refine GoR.capB rfl rfl rfl rfl rfl ?_)|(refine GoR.kk 7 rfl ?_;first|refine GoR.pickE' rfl rfl rfl rfl rfl (hx:=rfl) (hy:=rfl) (g:=?_)|refine GoR.pickN' rfl rfl rfl rfl rfl (hx:=rfl) (hy:=rfl) (g:=?_)|refine GoR.pickB rfl rfl rfl rfl rfl rfl rfl ?_)|(refine GoR.kk 8 rfl ?_;first|refine GoR.boxA rfl rfl rfl rfl rfl ?_|refine GoR.boxS rfl rfl rfl rfl rfl rfl ?_|refine GoR.alloc rfl rfl rfl rfl ?_)|(refine GoR.kk 9 rfl ?_;first|refine GoR.strV' rfl rfl rfl rfl rfl (g:=?_)|refine GoR.conv_u8 rfl rfl rfl rfl rfl ?_|refine GoR.convW' rfl rfl rfl rfl rfl (g:=?_)|refine GoR.conv_u16 rfl rfl rfl rfl rfl ?_|refine GoR.conv_u32 rfl rfl rfl rfl rfl ?_)|(refine GoR.kk 10 rfl ?_;first|refine GoR.build' rfl rfl rfl rfl rfl rfl (g:=?_))|(refine GoR.kk 11 rfl ?_;first|refine GoR.extract rfl rfl rfl rfl rfl rfl ?_|refine GoR.not rfl rfl rfl rfl rfl ?_|refine GoR.nilCheck rfl rfl rfl rfl rfl ?_|refine GoR.nilCheckF rfl rfl rfl rfl rfl ?_|refine GoR.makeFunc rfl rfl rfl rfl rfl rfl ?_)|(refine Go.kk 0 rfl ?_;refine Go.seq ?_)|(refine Go.kk 1 rfl ?_;refine Go.region (by kernel_rfl) rfl ?_)|(refine Go.kk 3 rfl ?_;first|refine Go.cond_t' rfl (g:=?_)|refine Go.cond_f' rfl (g:=?_))|(refine Go.kk 4 rfl ?_;refine Go.block ?_)|(refine Go.kk 5 rfl ?_;first|refine Go.skip ?_|refine Go.ret ?_|refine Go.exit ?_|refine Go.scope ?_)|refine Go.leave_normal ?_|refine Go.leave_same ?_|refine Go.leave_ret ?_|refine Go.ret_code ?_|refine Go.exit_code ?_|refine Go.leave_other rfl ?_|refine Go.sc_normal ?_|refine Go.sc_ret ?_|refine Go.sc_exit ?_|refine Go.exit_back ?_|refine Go.ret_back ?_))
    refine Go.loud (by kernel_rfl) rfl ?_
    (refine Go.runL (g:=?_))
    refine GoL.call rfl rfl rfl rfl rfl rfl rfl (((spawn_nil w.n0 w.st S.l (by omega) S.la S.lc h10 si10).argA).mono ?_)
    rintro _ h11 ⟨rfl, la', lc', p, SI11, hp, ho⟩ k11
    have n11 := k11.1
    refine ⟨fun i hi => .inl ?_, ?_⟩
    · rcases List.mem_cons.1 hi with rfl | hi
      · exact mem_st
      · exact mem_la hi
    have no11 : ∀ b, (b = w.rr ∨ b = w.pp ∨ (h.n ≤ b ∧ b < h.n + 4)) → b ∉ w.st :: blk S.la := fun b hb hm => by
      rcases List.mem_cons.1 hm with rfl | hm
      · omega
      · have := P.si.own _ hm; have := P.si.sv.lt _ hm; omega
    have g011 := k11.get g010 (no11 _ (by omega))
    have g111 := k11.get g110 (no11 _ (by omega))
    have g211 := k11.get g210 (no11 _ (by omega))
    have g311 := k11.get g310 (no11 _ (by omega))
    have gr11 := k11.get gr10 (no11 _ (by omega))
    have gp11 := k11.get gp10 (no11 _ (by omega))
    have tv11 := tv10.keeps k11 (fun i hi hm => by
      rcases List.mem_cons.1 hm with rfl | hm
      · rcases hta9 _ hi with h' | h'
        · have := P.town _ h'; omega
        · omega
      · rcases hta9 _ hi with h' | h'
        · have := P.cta _ h'; have := P.cla _ hm; omega
        · have := P.si.sv.lt _ hm; omega)
    have sv11 := sv10.keeps k11 (fun i hi hm => by
      rcases List.mem_cons.1 hm with rfl | hm
      · rcases hra6 _ hi with h' | h'
        · have := P.ri.own _ h'; omega
        · omega
      · rcases hra6 _ hi with h' | h'
        · have := P.cra _ h'; have := P.cla _ hm; omega
        · have := P.si.sv.lt _ hm; omega)
    have hdis : ∀ b ∈ w.st :: blk S.la, b ≠ h.n + 2 ∧ b < h10.n := fun b hb => by
      rcases List.mem_cons.1 hb with rfl | hm
      · omega
      · have := P.si.own _ hm; have := P.si.sv.lt _ hm; omega
    clear g010 g110 g210 g310 gr10 gp10 tv10 sv10
    (refine Go.runL (g:=?_))
    refine GoL.end_ (hl := by (simp only [List.nil_append, List.cons_append]); repeat (first | exact loudP.nil | refine loudP.none ?_ | refine loudP.new (fun _ hb => absurd hb List.not_mem_nil) ?_ | refine loudP.row (by repeat (first | exact loudRowP.nil | refine loudRowP.none ?_ | refine loudRowP.bef (by decide +kernel) ?_ | refine loudRowP.apart (by first | exact .inl rfl | exact .inr (by simp)) rfl (fun i hi => by have hx := hdis _ hi; first | (simp; fail_if_success focus skip) | (simp; omega)) ?_)) ?_)) ?_
    clear hdis
    (refine Go.run (g:=?_))
    (first|refine Go.finT (by first|exact .inr rfl|exact .inl rfl) rfl ?_|refine Go.fin1 (by first|exact .inr rfl|exact .inl rfl) rfl (hq:=?_))
    have RI' : RI w.n0 w.rr (S.l ++ [⟨p, .nilFunc, 1, false, false, 0⟩]) ra' rc' h11 := ⟨by rw [List.length_append]; exact gr11, by rw [rcs_snoc, List.length_append]; exact sv11, (fun i hi => by
      rcases hra6 i hi with h' | h'
      · exact P.ri.own _ h'
      · omega), by omega, or_.2⟩
    have KF : Keeps ([w.pp, w.rr, w.st] ++ (blk S.la ++ (blk S.ra ++ blk S.ta))) h h11 := ⟨by omega, fun i hi hn => by
      simp only [List.mem_append, List.mem_cons, List.not_mem_nil, or_false, not_or] at hn
      obtain ⟨⟨a1, a2, a3⟩, a4, a5, a6⟩ := hn
      rw [k11.2 i (by omega) (by simp only [List.mem_cons, not_or]; exact ⟨a3, a4⟩), KK.2 i (by omega) (by simp only [List.mem_append, List.mem_cons, List.not_mem_nil, or_false, not_or]; exact ⟨⟨a1, a2⟩, a5, a6⟩), s4.2 i (by omega), k3.2 i (by omega) (by simp only [List.mem_singleton]; exact a1), s2.2 i hi]⟩
    have rowF : ARow w.B h11 xa xc acts := row.keeps KF (fun b hb => by
      simp only [List.mem_append, List.mem_cons, List.not_mem_nil, or_false] at hb
      rcases hb with (rfl | rfl | rfl) | hb | hb | hb
      · exact op.1
      · exact or_.1
      · exact os.1
      · have := P.si.own _ hb; omega
      · have := P.ri.own _ hb; omega
      · have := P.town _ hb; omega)
    obtain ⟨S', e, P', E⟩ := P.snoc (n9 := h7.n) (n11 := h10.n) (c := ⟨h.n, xa, xc, acts, 0⟩) KF SI11 RI' gp11 (by rw [ints_snoc]; exact tv11) ho hra6 hta9 (by omega) hn10 hp rfl (.inl rfl) rfl (show 1 < 256 by decide) (by omega) (by omega)
    exact ⟨S', P', E, by rw [e], by rw [e]⟩
end Go.Proofs.Ytacfneokhmnkbaa