/- What the law leans on, part 6. No conditions. -/
import Derived.Test.YtacfneokhmnkbaaProg
import Derived.KernelRfl
import Derived.ProofKit
import Derived.OpenShut
import Derived.ChangeOld
import Derived.Test.YtacfneokhmnkbaaTaskPicksPart5
set_option linter.unusedVariables false
set_option linter.unusedSimpArgs false
namespace Go.Proofs.Ytacfneokhmnkbaa
instance : CT Try.prog 3 none := ⟨by kernel_rfl⟩
instance : SZ Try.prog 3 1 := ⟨by kernel_rfl⟩
instance : AL Try.prog 3 [.int .i64 0] := ⟨by kernel_rfl⟩
instance : CT Try.prog 4 none := ⟨by kernel_rfl⟩
instance : SZ Try.prog 4 1 := ⟨by kernel_rfl⟩
instance : CT Try.prog 5 none := ⟨by kernel_rfl⟩
instance : SZ Try.prog 5 1 := ⟨by kernel_rfl⟩
theorem un5 : Try.prog.underlying 5 = some (.int .u8) := by kernel_rfl
instance : AL Try.prog 5 [.int .u8 0] := ⟨by kernel_rfl⟩
instance : EL Try.prog 27 (none, 1) := ⟨by kernel_rfl⟩
instance : UN Try.prog 27 (.slice 3) := ⟨by kernel_rfl⟩
instance : BS Try.prog 27 3 1 (.int .i64 0) := .of (by kernel_rfl) (by kernel_rfl) (by kernel_rfl) (by kernel_rfl) (by kernel_rfl)
instance : AP Try.prog 27 27 3 1 8 := .of (inf := Try.t3) (z := .int .i64 0) (e₂ := 3) (by kernel_rfl) (by kernel_rfl) (by kernel_rfl) (by kernel_rfl) (by kernel_rfl) (by kernel_rfl) (by decide) (by kernel_rfl) (by kernel_rfl)
instance : CT Try.prog 44 none := ⟨by kernel_rfl⟩
instance : SZ Try.prog 44 1 := ⟨by kernel_rfl⟩
theorem un44 : Try.prog.underlying 44 = some (.int .u64) := by kernel_rfl
instance : EL Try.prog 49 (none, 1) := ⟨by kernel_rfl⟩
instance : UN Try.prog 49 (.slice 5) := ⟨by kernel_rfl⟩
instance : CT Try.prog 51 none := ⟨by kernel_rfl⟩
instance : SZ Try.prog 51 1 := ⟨by kernel_rfl⟩
instance : CT Try.prog 54 none := ⟨by kernel_rfl⟩
instance : CT Try.prog 56 none := ⟨by kernel_rfl⟩
instance : SZ Try.prog 56 1 := ⟨by kernel_rfl⟩
instance : EL Try.prog 56 (none, 1) := ⟨by kernel_rfl⟩
instance : MK Try.prog 56 44 8 (.int .u64 0) := .of (inf := Try.t44) (by kernel_rfl) (by kernel_rfl) (by kernel_rfl) (by kernel_rfl) (by kernel_rfl) (by kernel_rfl) (by kernel_rfl)
instance : AL Try.prog 56 [.slice none 0 0] := ⟨by kernel_rfl⟩
instance : CT Try.prog 111 none := ⟨by kernel_rfl⟩
instance : SZ Try.prog 111 1 := ⟨by kernel_rfl⟩
instance : EL Try.prog 111 (none, 1) := ⟨by kernel_rfl⟩
instance : UN Try.prog 111 (.slice 116) := ⟨by kernel_rfl⟩
instance : BS Try.prog 111 116 1 (.pointer none) := .of (by kernel_rfl) (by kernel_rfl) (by kernel_rfl) (by kernel_rfl) (by kernel_rfl)
instance : AP Try.prog 111 111 116 1 8 := .of (inf := Try.t116) (z := .pointer none) (e₂ := 116) (by kernel_rfl) (by kernel_rfl) (by kernel_rfl) (by kernel_rfl) (by kernel_rfl) (by kernel_rfl) (by decide) (by kernel_rfl) (by kernel_rfl)
instance : SZ Try.prog 113 1 := ⟨by kernel_rfl⟩
instance : FO Try.prog 113 0 0 := ⟨by kernel_rfl⟩
instance : ST Try.prog 113 [.slice none 0 0] [(0, 1)] := .of (z := .agg #[.slice none 0 0]) (fs := (match Try.prog.underlying 113 with | some (.struct fs) => fs | _ => #[])) (by kernel_rfl) (by kernel_rfl) (by kernel_rfl) (by kernel_rfl) (by kernel_rfl)
instance : CT Try.prog 116 none := ⟨by kernel_rfl⟩
instance : SZ Try.prog 116 1 := ⟨by kernel_rfl⟩
instance : SZ Try.prog 119 5 := ⟨by kernel_rfl⟩
instance : FO Try.prog 119 0 0 := ⟨by kernel_rfl⟩
instance : FO Try.prog 119 1 1 := ⟨by kernel_rfl⟩
instance : FO Try.prog 119 2 2 := ⟨by kernel_rfl⟩
instance : FO Try.prog 119 3 3 := ⟨by kernel_rfl⟩
instance : FO Try.prog 119 4 4 := ⟨by kernel_rfl⟩
instance : ST Try.prog 119 [.nilFunc, .int .u8 0, .bool false, .bool false, .int .u64 0] [(0, 1), (1, 1), (2, 1), (3, 1), (4, 1)] := .of (z := .agg #[.nilFunc, .int .u8 0, .bool false, .bool false, .int .u64 0]) (fs := (match Try.prog.underlying 119 with | some (.struct fs) => fs | _ => #[])) (by kernel_rfl) (by kernel_rfl) (by kernel_rfl) (by kernel_rfl) (by kernel_rfl)
instance : IC Try.prog 5 44 .u64 := .of un5 un44
theorem noGlobals : Try.prog.globals.size = 0 := by kernel_rfl
end Go.Proofs.Ytacfneokhmnkbaa
namespace Go.Proofs.Ytacfneokhmnkbaa
set_option maxRecDepth 100000
attribute [local irreducible] Go GoR GoL
theorem boolU : Try.prog.underlying 4 = some .bool := by kernel_rfl
def ints (l : List Int) : List Value := l.map (.int .i64 ·)
section
variable {α : Type} {f : α → List Value} (hf : ∀ x, (f x).length = 2)
include hf
end
theorem ints_len (l : List Int) : (ints l).length = l.length := by simp [ints]
theorem ints_get {l : List Int} {i : Nat} (hi : i < l.length) : (ints l)[i]? = some (.int .i64 l[i]) := by simp [ints, hi]
theorem ints_snoc (l : List Int) (x : Int) : ints (l ++ [x]) = ints l ++ [.int .i64 x] := by simp [ints]
theorem Same.ownO {n : Nat} {a : Option Addr} {h₀ h h' : AHeap} (s : Same h₀ h) (k : Keeps (blk a) h h') (o : Own n a) (hn : h₀.n ≤ n) : Same h₀ h' := s.own k fun i hi => Nat.le_trans hn (o i hi)
theorem Keeps.trans {wr : List Nat} {a b c : AHeap} (h : Keeps wr a b) (k : Keeps wr b c) : Keeps wr a c := ⟨Nat.le_trans h.1 k.1, fun i hi hn => (k.2 i (by have := h.1; omega) hn).trans (h.2 i hi hn)⟩
theorem Keeps.rfl (wr : List Nat) (h : AHeap) : Keeps wr h h := ⟨Nat.le_refl _, fun _ _ _ => Eq.refl _⟩
theorem Keeps.put {wr : List Nat} {h h' : AHeap} (k : Keeps wr h h') {b : Nat} (hb : b ∈ wr) (o : Option AObj) : Keeps wr h (h'.put b o) := ⟨k.1, fun i hi hn => by rw [AHeap.get_put_ne _ _ (fun e => hn (by rw [← e]; exact hb))]; exact k.2 i hi hn⟩
end Go.Proofs.Ytacfneokhmnkbaa
namespace Go.Proofs.Ytacfneokhmnkbaa
set_option maxRecDepth 100000
attribute [local irreducible] Go GoR GoL
structure TK where
  p : Nat
  fn : Value
  is : Nat
  inn : Bool
  wk : Bool
  pk : Nat
abbrev TK.cs (t : TK) : List Value := [t.fn, .int .u8 t.is, .bool t.inn, .bool t.wk, .int .u64 t.pk]
def pcs (l : List TK) : List Value := l.map fun t => .pointer (some ⟨t.p, 0, none⟩)
theorem pcs_len (l : List TK) : (pcs l).length = l.length := by simp [pcs]
theorem pcs_get {l : List TK} {i : Nat} (hi : i < l.length) : (pcs l)[i]? = some (.pointer (some ⟨l[i].p, 0, none⟩)) := by simp [pcs, hi]
theorem pcs_snoc (l : List TK) (t : TK) : pcs (l ++ [t]) = pcs l ++ [.pointer (some ⟨t.p, 0, none⟩)] := by simp [pcs]
structure SI (n0 st : Nat) (l : List TK) (la : Option Addr) (lc : Nat) (H : AHeap) : Prop where
  sb : H.get st = some (.cells [.slice la l.length lc] 113)
  sv : Sv H 116 1 la l.length lc (pcs l)
  own : Own n0 la
  lt : n0 ≤ H.n
  st : st < n0
  tk : ∀ (i : Nat) (t : TK), l[i]? = some t → H.get t.p = some (.cells t.cs 119)
  ge : ∀ t ∈ l, n0 ≤ t.p ∧ t.p ∉ blk la
  ap : ∀ (i j : Nat) (t t' : TK), l[i]? = some t → l[j]? = some t' → t.p = t'.p → i = j
theorem SI.same {n0 st : Nat} {l : List TK} {la : Option Addr} {lc : Nat} {H H' : AHeap} (I : SI n0 st l la lc H) (s : Same H H') : SI n0 st l la lc H' := ⟨s.get I.sb, I.sv.same s, I.own, Nat.le_trans I.lt s.1, I.st, fun i t ht => s.get (I.tk i t ht), I.ge, I.ap⟩
theorem SI.keeps {n0 st : Nat} {l : List TK} {la : Option Addr} {lc : Nat} {wr : List Nat} {H H' : AHeap} (I : SI n0 st l la lc H) (k : Keeps wr H H') (h1 : st ∉ wr) (h2 : ∀ i ∈ wr, i ∉ blk la) (h3 : ∀ t ∈ l, t.p ∉ wr) : SI n0 st l la lc H' := ⟨k.get I.sb h1, I.sv.keeps k (fun i hi hw => h2 i hw hi), I.own, Nat.le_trans I.lt k.1, I.st, fun i t ht => k.get (I.tk i t ht) (h3 t (List.mem_of_getElem? ht)), I.ge, I.ap⟩
theorem SI.set {n0 st : Nat} {l : List TK} {la : Option Addr} {lc : Nat} {H H' : AHeap} (I : SI n0 st l la lc H) {j : Nat} (hj : j < l.length) {t' : TK} {wr : List Nat} (k : Keeps (l[j].p :: wr) H H') (h1 : st ∉ wr) (h2 : ∀ i ∈ wr, i ∉ blk la) (h3 : ∀ t ∈ l, t.p ∉ wr) (hp : t'.p = l[j].p) (hg : H'.get t'.p = some (.cells t'.cs 119)) : SI n0 st (l.set j t') la lc H' := by
  have hm : l[j] ∈ l := List.getElem_mem hj
  have hge := I.ge _ hm
  have hst := I.st
  have hjs : l[j]? = some l[j] := List.getElem?_eq_getElem hj
  have e : pcs (l.set j t') = pcs l := by
    unfold pcs
    rw [List.map_set, hp]
    apply List.ext_getElem?
    intro i
    rw [List.getElem?_set]
    split
    · rename_i e; subst e
      simp [hj]
    · rfl
  refine ⟨?_, ?_, I.own, Nat.le_trans I.lt k.1, I.st, ?_, ?_, ?_⟩
  · rw [List.length_set]; exact k.get I.sb (by simp only [List.mem_cons, not_or]; exact ⟨by omega, h1⟩)
  · rw [e, List.length_set]; exact I.sv.keeps k (fun i hi hw => by
      rcases List.mem_cons.1 hw with rfl | hw
      · exact hge.2 hi
      · exact h2 i hw hi)
  · intro i t ht
    rw [List.getElem?_set] at ht
    split at ht
    · rename_i e; subst e
      simp only [hj, if_true, Option.some.injEq] at ht
      subst ht
      exact hg
    · rename_i hne
      refine k.get (I.tk i t ht) ?_
      simp only [List.mem_cons, not_or]
      exact ⟨fun e => hne (I.ap _ _ _ _ ht hjs e).symm, h3 t (List.mem_of_getElem? ht)⟩
  · intro t ht
    rcases List.mem_or_eq_of_mem_set ht with ht | rfl
    · exact I.ge t ht
    · rw [hp]; exact hge
  · have h : ∀ (i : Nat) (t : TK), (l.set j t')[i]? = some t → ∃ u, l[i]? = some u ∧ u.p = t.p := by
      intro i t ht
      rw [List.getElem?_set] at ht
      split at ht
      · rename_i e; subst e
        simp only [hj, if_true, Option.some.injEq] at ht
        subst ht
        exact ⟨_, hjs, hp.symm⟩
      · exact ⟨t, ht, rfl⟩
    intro i j' t u ht hu e
    obtain ⟨a, ha, ea⟩ := h i t ht
    obtain ⟨b, hb, eb⟩ := h j' u hu
    exact I.ap _ _ _ _ ha hb (by rw [ea, eb, e])
theorem SI.snoc {n0 st : Nat} {l : List TK} {la la' : Option Addr} {lc lc' : Nat} {H H' : AHeap} (I : SI n0 st l la lc H) {t' : TK} (k : Keeps (st :: blk la) H H') (hb : H'.get st = some (.cells [.slice la' (l.length + 1) lc'] 113)) (hs : Sv H' 116 1 la' (l.length + 1) lc' (pcs l ++ [.pointer (some ⟨t'.p, 0, none⟩)])) (hn : H.n ≤ t'.p) (hg : H'.get t'.p = some (.cells t'.cs 119)) (ho : ∀ i ∈ blk la', i ∈ blk la ∨ H.n ≤ i) (hno : t'.p ∉ blk la') : SI n0 st (l ++ [t']) la' lc' H' := by
  have hlt := I.lt
  have hst := I.st
  have hsl := I.sv.lt
  refine ⟨?_, ?_, ?_, Nat.le_trans I.lt k.1, I.st, ?_, ?_, ?_⟩
  · rw [List.length_append]; exact hb
  · rw [pcs_snoc, List.length_append]; exact hs
  · intro i hi
    rcases ho i hi with h | h
    · exact I.own i h
    · omega
  · intro i t ht
    rcases Nat.lt_or_ge i l.length with q | q
    · rw [List.getElem?_append_left q] at ht
      have hm := List.mem_of_getElem? ht
      have hge := I.ge t hm
      refine k.get (I.tk i t ht) ?_
      simp only [List.mem_cons, not_or]
      exact ⟨by omega, hge.2⟩
    · rw [List.getElem?_append_right q] at ht
      obtain rfl : t' = t := by
        cases hq : i - l.length with
        | zero => rw [hq] at ht; simpa using ht
        | succ n => rw [hq] at ht; simp at ht
      exact hg
  · intro t ht
    rcases List.mem_append.1 ht with ht | ht
    · have hge := I.ge t ht
      obtain ⟨i, hi, hit⟩ := List.mem_iff_getElem.1 ht
      have hl := AHeap.lt (I.tk i t (by rw [List.getElem?_eq_getElem hi, hit]))
      refine ⟨hge.1, fun h => ?_⟩
      rcases ho _ h with h | h
      · exact hge.2 h
      · omega
    · obtain rfl := List.mem_singleton.1 ht
      exact ⟨by omega, hno⟩
  · have h1 : ∀ (i : Nat) (t : TK), (l ++ [t'])[i]? = some t → (i < l.length ∧ l[i]? = some t ∧ t.p < H.n) ∨ (i = l.length ∧ t = t') := by
      intro i t ht
      rcases Nat.lt_or_ge i l.length with q | q
      · rw [List.getElem?_append_left q] at ht
        exact .inl ⟨q, ht, AHeap.lt (I.tk i t ht)⟩
      · rw [List.getElem?_append_right q] at ht
        cases hq : i - l.length with
        | zero => rw [hq] at ht; exact .inr ⟨by omega, by simpa using ht.symm⟩
        | succ n => rw [hq] at ht; simp at ht
    intro i j t u ht hu e
    rcases h1 i t ht with ⟨a1, a2, a3⟩ | ⟨a1, rfl⟩ <;> rcases h1 j u hu with ⟨b1, b2, b3⟩ | ⟨b1, rfl⟩
    · exact I.ap _ _ _ _ a2 b2 e
    · omega
    · omega
    · omega
def idx (p : TK → Bool) : List TK → Nat → List Int
  | [], _ => []
  | t :: l, i => (if p t = true then [(i : Int)] else []) ++ idx p l (i + 1)
theorem idx_snoc (p : TK → Bool) (t : TK) : ∀ (l : List TK) (i : Nat), idx p (l ++ [t]) i = idx p l i ++ (if p t = true then [((i + l.length : Nat) : Int)] else [])
  | [], i => by simp [idx]
  | a :: l, i => by
    simp only [List.cons_append, idx, idx_snoc p t l (i + 1), List.append_assoc, List.length_cons]
    rw [show i + 1 + l.length = i + (l.length + 1) from by omega]
theorem idx_mem {p : TK → Bool} : ∀ {l : List TK} {i : Nat} {x : Int}, x ∈ idx p l i → ∃ j, x = ((i + j : Nat) : Int) ∧ ∃ h : j < l.length, p l[j] = true
  | [], i, x, h => by simp [idx] at h
  | a :: l, i, x, h => by
    simp only [idx, List.mem_append] at h
    rcases h with h | h
    · split at h
      · rename_i hp
        exact ⟨0, by simpa using h, by simp, hp⟩
      · simp at h
    · obtain ⟨j, e, h1, h2⟩ := idx_mem h
      exact ⟨j + 1, by rw [e]; omega, by simp only [List.length_cons]; omega, h2⟩
theorem idx_le (p : TK → Bool) : ∀ (l : List TK) (i : Nat), (idx p l i).length ≤ l.length
  | [], i => by simp [idx]
  | a :: l, i => by
    have := idx_le p l (i + 1)
    simp only [idx, List.length_append, List.length_cons]
    split <;> simp <;> omega
theorem aEq_some {P : Program} {h : AHeap} {t e : TypeId} (hu : P.underlying t = some (.pointer e)) (a : Addr) : aEq P h t (.pointer (some a)) (.pointer none) = some (false, []) := by
  unfold aEq
  rw [hu]
theorem schedU : Try.prog.underlying 31 = some (.pointer 113) := by kernel_rfl
theorem oneU : Try.prog.underlying 116 = some (.pointer 119) := by kernel_rfl
def runB (t : TK) : Bool := decide (t.is = 1) && !t.inn
theorem run1_spec (t : TK) (h : AHeap) (g : h.get t.p = some (.cells t.cs 119)) : CallS Try.prog [] 69 [.pointer (some ⟨t.p, 0, none⟩)] h fun v h' => v = .bool (runB t) ∧ h' = h := by
  unfold TK.cs at g
  (refine CallS.of1 Try.func69 rfl Try.ntmps69 Try.results69 rfl ?_)
  by_cases c1 : t.is = 1
  · have c1' : (t.is : Int) = 1 := by omega
    (refine Go.run (g:=?_))
    (first|refine Go.finT (by first|exact .inr rfl|exact .inl rfl) rfl ?_|refine Go.fin1 (by first|exact .inr rfl|exact .inl rfl) rfl (hq:=?_))
    exact ⟨by simp [retV, runB, c1, c1'], rfl⟩
  · have c1' : ¬ (t.is : Int) = 1 := by omega
    (refine Go.run (g:=?_))
    (first|refine Go.finT (by first|exact .inr rfl|exact .inl rfl) rfl ?_|refine Go.fin1 (by first|exact .inr rfl|exact .inl rfl) rfl (hq:=?_))
    exact ⟨by simp [retV, runB, c1, c1'], rfl⟩
theorem take_snoc' {α : Type} {l : List α} {i : Nat} (hi : i < l.length) : l.take (i + 1) = l.take i ++ [l[i]] := by rw [List.take_add_one, List.getElem?_eq_getElem hi]; rfl
set_option maxHeartbeats 2000000 in
theorem thoseR_spec (n0 st : Nat) (l : List TK) (hl : l.length ≤ 1000000) (la : Option Addr) (lc : Nat) (h : AHeap) (I : SI n0 st l la lc h) : CallS Try.prog [] 68 [.pointer (some ⟨st, 0, none⟩), .func (.func 69) #[] #[]] h fun v h' => ∃ b c, v = .slice b (idx runB l 0).length c ∧ Sv h' 3 1 b (idx runB l 0).length c (ints (idx runB l 0)) ∧ Own h.n b := by
  have gb := I.sb
  obtain ⟨pp, hpp⟩ : ∃ pp, pp = runB := ⟨_, rfl⟩
  have cl_spec := run1_spec
  rw [← hpp] at cl_spec ⊢
  clear hpp
  (refine CallS.of2 Try.func68 rfl Try.ntmps68 Try.results68 rfl ?_)
  (refine Go.run (g:=?_))
  refine GoR.eqRef rfl rfl rfl rfl (.inl rfl) rfl rfl (aEq_some schedU _) ?_
  (refine Go.run (g:=?_))
  refine Go.loop (α := Nat × Option Addr × Nat × AHeap) (fun x => [(15, .int .i64 x.1), (14, .int .i64 l.length), (13, .slice la l.length lc), (5, .slice x.2.1 (idx pp (l.take x.1) 0).length x.2.2.1), (1, .func (.func 69) #[] #[]), (0, .pointer (some ⟨st, 0, none⟩))]) (fun _ => []) (fun x => x.2.2.2) (fun x => x.1 ≤ l.length ∧ Same h x.2.2.2 ∧ Sv x.2.2.2 3 1 x.2.1 (idx pp (l.take x.1) 0).length x.2.2.1 (ints (idx pp (l.take x.1) 0)) ∧ Own h.n x.2.1) (fun x => l.length - x.1) (0, none, 0, h) ?_ ?_ rfl rfl ?_
  · exact ⟨Nat.zero_le _, Same.refl _, .nil, Own.nil _⟩
  · exact ⟨rfl, rfl, rfl, rfl, rfl, rfl, trivial⟩
  rintro ⟨i, b, c, h2⟩ ⟨hi, s2, hb, ob⟩
  simp only at hi s2 hb ob ⊢
  have m2 := s2.1
  have I2 := I.same s2
  have gb2 := I2.sb
  have hz2 := I2.sv.rv (P := Try.prog)
  rcases Nat.lt_or_ge i l.length with i0 | i0
  · have c0 := pcs_get i0
    have hbe : i < (pcs l).length := by rw [pcs_len]; exact i0
    have hti : l[i]? = some l[i] := List.getElem?_eq_getElem i0
    have e1 : idx pp (l.take (i + 1)) 0 = idx pp (l.take i) 0 ++ (if pp l[i] = true then [(i : Int)] else []) := by
      rw [take_snoc' i0, idx_snoc, List.length_take, Nat.min_eq_left (by omega), Nat.zero_add]
    have hfl : (idx pp (l.take i) 0).length ≤ i := Nat.le_trans (idx_le _ _ _) (by simp; omega)
    generalize l[i] = t at *
    generalize idx pp (l.take i) 0 = out at *
    have gt := I2.tk i t hti
    (refine Go.run (g:=?_))
    refine GoR.call rfl rfl rfl rfl rfl rfl rfl (((cl_spec t _ gt).args (by first | rfl | (simp; fail_if_success focus skip) | (simp; omega) | (congr 2; omega))).mono ?_)
    rintro _ h3 ⟨rfl, rfl⟩ s3
    cases hp : pp t
    · rw [hp] at e1
      simp only [Bool.false_eq_true, if_false, List.append_nil] at e1
      (refine Go.run (g:=?_))
      exact Go.again (i + 1, b, c, h3) ⟨by simp only; omega, s2, by simp only; rw [e1]; exact hb, ob⟩ (by simp only; omega) ⟨rfl, rfl, rfl, by simp only; rw [e1]; rfl, rfl, rfl, trivial⟩ rfl rfl
    · rw [hp] at e1
      simp only [if_true] at e1
      (refine Go.run (g:=?_))
      refine GoR.buildRo (c := [.int .i64 i]) rfl rfl rfl rfl rfl (by decide) (by rfl) (by rfl) ?_
      intro b8 h8 hb8 rb8 ob8 s8 n8
      refine GoR.appendV rfl rfl rfl rfl rfl rfl (hb.same s8) hb8 (Own.ok ob (by omega)) (by omega) (by omega) (by rfl) ?_
      intro b9 c9 h9 hs9 k9 o9
      have m9 := k9.1
      have hs9' : Sv h9 3 1 b9 (out ++ [(i : Int)]).length c9 (ints (out ++ [(i : Int)])) := by rw [ints_snoc, List.length_append]; exact hs9
      (refine Go.run (g:=?_))
      refine Go.again (i + 1, b9, c9, h9) ⟨by simp only; omega, (s2.trans s8).ownO k9 ob (Nat.le_refl _), by simp only; rw [e1]; exact hs9', ?_⟩ (by simp only; omega) ⟨rfl, rfl, rfl, by simp only; rw [e1, List.length_append]; rfl, rfl, rfl, trivial⟩ rfl rfl
      intro j hj
      rcases o9 j hj with x | x
      · exact ob j x
      · omega
  · (refine Go.run (g:=?_))
    (first|refine Go.finT (by first|exact .inr rfl|exact .inl rfl) rfl ?_|refine Go.fin1 (by first|exact .inr rfl|exact .inl rfl) rfl (hq:=?_))
    rw [List.take_of_length_le i0] at hb
    exact ⟨b, c, by simp only [List.take_of_length_le i0]; rfl, hb, ob⟩
theorem runnable_spec (n0 st : Nat) (l : List TK) (hl : l.length ≤ 1000000) (la : Option Addr) (lc : Nat) (h : AHeap) (I : SI n0 st l la lc h) : CallS Try.prog [] 20 [.pointer (some ⟨st, 0, none⟩)] h fun v h' => ∃ b c, v = .slice b (idx runB l 0).length c ∧ Sv h' 3 1 b (idx runB l 0).length c (ints (idx runB l 0)) ∧ Own h.n b := by
  (refine CallS.of1 Try.func20 rfl Try.ntmps20 Try.results20 rfl ?_)
  (refine Go.run (g:=?_))
  refine GoR.call rfl rfl rfl rfl rfl rfl rfl (((thoseR_spec n0 st l hl la lc _ I).args (by first | rfl | (simp; fail_if_success focus skip) | (simp; omega) | (congr 2; omega))).mono ?_)
  rintro _ h3 ⟨b, c, rfl, hs, ob⟩ s3
  (refine Go.run (g:=?_))
  (first|refine Go.finT (by first|exact .inr rfl|exact .inl rfl) rfl ?_|refine Go.fin1 (by first|exact .inr rfl|exact .inl rfl) rfl (hq:=?_))
  exact ⟨b, c, rfl, hs, ob⟩
theorem find_in (n0 st : Nat) (l : List TK) (hl : l.length ≤ 1000000) (la : Option Addr) (lc : Nat) (h : AHeap) (I : SI n0 st l la lc h) (n : Nat) (hn : n < l.length) : CallS Try.prog [] 67 [.pointer (some ⟨st, 0, none⟩), .int .i64 n] h fun v h' => v = .pointer (some ⟨l[n].p, 0, none⟩) ∧ h' = h := by
  have gb := I.sb
  have hz2 := I.sv.rv (P := Try.prog)
  have c0 := pcs_get hn
  have hbe : n < (pcs l).length := by rw [pcs_len]; exact hn
  (refine CallS.of2 Try.func67 rfl Try.ntmps67 Try.results67 rfl ?_)
  have n1 : ¬ (n : Int) < 0 := by omega
  have n2 : ¬ (l.length : Int) ≤ n := by omega
  (refine Go.run (g:=?_))
  refine GoR.eqRef rfl rfl rfl rfl (.inl rfl) rfl rfl (aEq_some schedU _) ?_
  (refine Go.run (g:=?_))
  (first|refine Go.finT (by first|exact .inr rfl|exact .inl rfl) rfl ?_|refine Go.fin1 (by first|exact .inr rfl|exact .inl rfl) rfl (hq:=?_))
  exact ⟨rfl, rfl⟩
theorem done_in (n0 st : Nat) (l : List TK) (hl : l.length ≤ 1000000) (la : Option Addr) (lc : Nat) (h : AHeap) (I : SI n0 st l la lc h) (n : Nat) (hn : n < l.length) : CallS Try.prog [] 24 [.pointer (some ⟨st, 0, none⟩), .int .i64 n] h fun v h' => v = .bool (decide (l[n].is = 3)) ∧ h' = h := by
  (refine CallS.of2 Try.func24 rfl Try.ntmps24 Try.results24 rfl ?_)
  (refine Go.run (g:=?_))
  refine GoR.call rfl rfl rfl rfl rfl rfl rfl (((find_in n0 st l hl la lc _ I n hn).args (by first | rfl | (simp; fail_if_success focus skip) | (simp; omega) | (congr 2; omega))).mono ?_)
  rintro _ h3 ⟨rfl, rfl⟩ -
  have gt := I.tk n _ (List.getElem?_eq_getElem hn)
  generalize l[n] = t at *
  unfold TK.cs at gt
  (refine Go.run (g:=?_))
  refine GoR.eqRef rfl rfl rfl rfl (.inr rfl) rfl rfl (aEq_some oneU _) ?_
  by_cases c1 : t.is = 3
  · have c1' : (t.is : Int) = 3 := by omega
    (refine Go.run (g:=?_))
    (first|refine Go.finT (by first|exact .inr rfl|exact .inl rfl) rfl ?_|refine Go.fin1 (by first|exact .inr rfl|exact .inl rfl) rfl (hq:=?_))
    exact ⟨by simp [retV, c1, c1'], rfl⟩
  · have c1' : ¬ (t.is : Int) = 3 := by omega
    (refine Go.run (g:=?_))
    (first|refine Go.finT (by first|exact .inr rfl|exact .inl rfl) rfl ?_|refine Go.fin1 (by first|exact .inr rfl|exact .inl rfl) rfl (hq:=?_))
    exact ⟨by simp [retV, c1, c1'], rfl⟩
theorem picks_in (n0 st : Nat) (l : List TK) (hl : l.length ≤ 1000000) (la : Option Addr) (lc : Nat) (h : AHeap) (I : SI n0 st l la lc h) (n : Nat) (hn : n < l.length) : CallS Try.prog [] 25 [.pointer (some ⟨st, 0, none⟩), .int .i64 n] h fun v h' => v = .int .u64 l[n].pk ∧ h' = h := by
  (refine CallS.of2 Try.func25 rfl Try.ntmps25 Try.results25 rfl ?_)
  (refine Go.run (g:=?_))
  refine GoR.call rfl rfl rfl rfl rfl rfl rfl (((find_in n0 st l hl la lc _ I n hn).args (by first | rfl | (simp; fail_if_success focus skip) | (simp; omega) | (congr 2; omega))).mono ?_)
  rintro _ h3 ⟨rfl, rfl⟩ -
  have gt := I.tk n _ (List.getElem?_eq_getElem hn)
  generalize l[n] = t at *
  unfold TK.cs at gt
  (refine Go.run (g:=?_))
  refine GoR.eqRef rfl rfl rfl rfl (.inl rfl) rfl rfl (aEq_some oneU _) ?_
  (refine Go.run (g:=?_))
  (first|refine Go.finT (by first|exact .inr rfl|exact .inl rfl) rfl ?_|refine Go.fin1 (by first|exact .inr rfl|exact .inl rfl) rfl (hq:=?_))
  exact ⟨rfl, rfl⟩
set_option maxHeartbeats 2000000 in
theorem spawn_spec (n0 st : Nat) (l : List TK) (hl : l.length ≤ 1000000) (la : Option Addr) (lc : Nat) (h : AHeap) (I : SI n0 st l la lc h) (F : FuncId) (cp : Array Value) : CallS Try.prog (st :: blk la) 26 [.pointer (some ⟨st, 0, none⟩), .func (.func F) #[] cp] h fun v h' => v = .int .i64 l.length ∧ ∃ la' lc' p, SI n0 st (l ++ [⟨p, .func (.func F) #[] cp, 1, false, false, 0⟩]) la' lc' h' ∧ h.n ≤ p ∧ (∀ i ∈ blk la', i ∈ blk la ∨ h.n ≤ i) := by
  have gb := I.sb
  have hlt := I.lt
  have hst := I.st
  have hsl := I.sv.lt
  (refine CallS.of2 Try.func26 rfl Try.ntmps26 Try.results26 rfl ?_)
  (refine Go.run (g:=?_))
  refine GoR.eqRef rfl rfl rfl rfl (.inl rfl) rfl rfl (aEq_some schedU _) ?_
  (refine Go.run (g:=?_))
  refine GoR.name ?_
  intro h3 e3
  have g3 : h3.get h.n = some (.cells [.func (.func F) #[] cp, .int .u8 1, .bool false, .bool false, .int .u64 0] 119) := by subst e3; exact AHeap.get_push_same h _
  have s3 : Same h h3 := by subst e3; exact (Same.refl h).push _
  have n3 : h3.n = h.n + 1 := by subst e3; rfl
  clear e3
  refine GoR.buildRo (c := [.pointer (some ⟨h.n, 0, none⟩)]) rfl rfl rfl rfl rfl (by decide) (by rfl) (by rfl) ?_
  intro b8 h8 hb8 rb8 ob8 s8 n8
  have I8 := I.same (s3.trans s8)
  refine GoR.appendV rfl rfl rfl rfl rfl rfl I8.sv hb8 (fun i hi => .inl (List.mem_cons_of_mem _ hi)) (by omega) (by omega) (by rfl) ?_
  intro b9 c9 h9 hs9 k9 o9
  have m9 := k9.1
  have stl : st ∉ blk la := fun hi => by have := I.own _ hi; omega
  have gs9 := k9.get I8.sb stl
  have gn9 := k9.get (s8.get g3) (fun hi => by have := hsl _ hi; omega)
  have hno : h.n ∉ blk b9 := fun hi => by
    rcases o9 _ hi with x | x
    · have := hsl _ x; omega
    · omega
  (iterate 2 (first|refine GoR.end ?_|(refine GoR.gd rfl ?_;first|refine GoR.wanted' rfl rfl rfl rfl (g:=?_)|refine GoR.unwanted' rfl rfl rfl rfl (hd:=rfl) (hN:=rfl) (g:=?_)|refine GoR.unwantedU rfl rfl rfl rfl rfl rfl ?_)|(refine GoR.kk 0 rfl ?_;first|refine GoR.move rfl rfl rfl rfl rfl ?_|refine GoR.assign rfl rfl rfl rfl rfl ?_)|(refine GoR.kk 1 rfl ?_;first|refine GoR.load' rfl rfl rfl rfl rfl (g:=?_)|refine GoR.loadA' rfl rfl rfl rfl rfl (hv:=rfl) (g:=?_)|refine GoR.loadV' rfl rfl rfl rfl rfl (g:=?_)|refine GoR.loadVN' rfl rfl rfl rfl rfl (g:=?_))|(refine GoR.kk 2 rfl ?_;first|refine GoR.store' rfl rfl rfl rfl rfl (hl:=rfl) (h1:=rfl) (h3:=rfl) (g:=?_))|(refine GoR.kk 3 rfl ?_;first|refine GoR.fieldAddr rfl rfl rfl rfl rfl ?_|refine GoR.indexN' rfl rfl rfl rfl rfl rfl (g:=?_)|refine GoR.indexNs' rfl rfl rfl rfl rfl rfl (g:=?_)|refine GoR.indexV' rfl rfl rfl rfl rfl rfl (g:=?_)|refine GoR.indexA' rfl rfl rfl rfl rfl rfl (g:=?_)|refine GoR.fieldV' rfl rfl rfl rfl rfl (g:=?_))|(refine GoR.kk 4 rfl ?_;first|refine GoR.eq rfl rfl rfl rfl rfl rfl ?_|refine GoR.ne rfl rfl rfl rfl rfl rfl ?_|refine GoR.lt rfl rfl rfl rfl rfl rfl ?_|refine GoR.le rfl rfl rfl rfl rfl rfl ?_|refine GoR.gt rfl rfl rfl rfl rfl rfl ?_|refine GoR.ge rfl rfl rfl rfl rfl rfl ?_|refine GoR.addN' rfl rfl rfl rfl rfl rfl (g:=?_)|refine GoR.subN' rfl rfl rfl rfl rfl rfl (g:=?_)|refine GoR.add' rfl rfl rfl rfl rfl rfl (g:=?_)|refine GoR.sub' rfl rfl rfl rfl rfl rfl (g:=?_)|refine GoR.addM' rfl rfl rfl rfl rfl rfl (g:=?_)|refine GoR.subM' rfl rfl rfl rfl rfl rfl (g:=?_)|refine GoR.mulM' rfl rfl rfl rfl rfl rfl (g:=?_)|refine GoR.shrN rfl rfl rfl rfl rfl rfl rfl ?_|refine GoR.structEq rfl rfl rfl rfl rfl rfl (by rfl) (by rfl) ?_|refine GoR.structNe rfl rfl rfl rfl rfl rfl (by rfl) (by rfl) ?_|refine GoR.strEq rfl rfl rfl rfl rfl rfl ?_|refine GoR.strNe rfl rfl rfl rfl rfl rfl ?_|refine GoR.remN' rfl rfl rfl rfl rfl rfl (g:=?_)|refine GoR.quoN' rfl rfl rfl rfl rfl rfl (g:=?_)|refine GoR.shlN' rfl rfl rfl rfl rfl rfl rfl (g:=?_)|refine GoR.orN' rfl rfl rfl rfl rfl rfl (g:=?_))|(refine GoR.kk 5 rfl ?_;first|refine GoR.len rfl rfl rfl rfl rfl ?_|refine GoR.lenStr rfl rfl rfl rfl rfl ?_|refine GoR.capB rfl rfl rfl rfl rfl ?_)|(refine GoR.kk 7 rfl ?_;first|refine GoR.pickE' rfl rfl rfl rfl rfl (hx:=rfl) (hy:=rfl) (g:=?_)|refine GoR.pickN' rfl rfl rfl rfl rfl (hx:=rfl) (hy:=rfl) (g:=?_)|refine GoR.pickB rfl rfl rfl rfl rfl rfl rfl ?_)|(refine GoR.kk 8 rfl ?_;first|refine GoR.boxA rfl rfl rfl rfl rfl ?_|refine GoR.boxS rfl rfl rfl rfl rfl rfl ?_|refine GoR.alloc rfl rfl rfl rfl ?_)|(refine GoR.kk 9 rfl ?_;first|refine GoR.strV' rfl rfl rfl rfl rfl (g:=?_)|refine GoR.conv_u8 rfl rfl rfl rfl rfl ?_|refine GoR.convW' rfl rfl rfl rfl rfl (g:=?_)|refine GoR.conv_u16 rfl rfl rfl rfl rfl ?_|refine GoR.conv_u32 rfl rfl rfl rfl rfl ?_)|(refine GoR.kk 10 rfl ?_;first|refine GoR.build' rfl rfl rfl rfl rfl rfl (g:=?_))|(refine GoR.kk 11 rfl ?_;first|refine GoR.extract rfl rfl rfl rfl rfl rfl ?_|refine GoR.not rfl rfl rfl rfl rfl ?_|refine GoR.nilCheck rfl rfl rfl rfl rfl ?_|refine GoR.nilCheckF rfl rfl rfl rfl rfl ?_|refine GoR.makeFunc rfl rfl rfl rfl rfl rfl ?_)|(refine Go.kk 0 rfl ?_;refine Go.seq ?_)|(refine Go.kk 1 rfl ?_;refine Go.region (by kernel_rfl) rfl ?_)|(refine Go.kk 2 rfl ?_;refine Go.drawnQ rfl (by kernel_rfl) rfl ?_)|(refine Go.kk 3 rfl ?_;first|refine Go.cond_t' rfl (g:=?_)|refine Go.cond_f' rfl (g:=?_))|(refine Go.kk 4 rfl ?_;refine Go.block ?_)|(refine Go.kk 5 rfl ?_;first|refine Go.skip ?_|refine Go.ret ?_|refine Go.exit ?_|refine Go.scope ?_)|refine Go.leave_normal ?_|refine Go.leave_same ?_|refine Go.leave_ret ?_|refine Go.ret_code ?_|refine Go.exit_code ?_|refine Go.leave_other rfl ?_|refine Go.sc_normal ?_|refine Go.sc_ret ?_|refine Go.sc_exit ?_|refine Go.exit_back ?_|refine Go.ret_back ?_))
  refine GoR.store (off := 0) (n := 1) (v := .slice b9 (l.length + 1) c9) (l := [.slice b9 (l.length + 1) c9]) rfl rfl rfl rfl rfl gs9 rfl rfl (Nat.le_refl _) rfl rfl (.inl (by simp)) ?_
  refine GoR.name ?_
  intro h12 e12
  have k12 : Keeps [st] h9 h12 := by subst e12; exact (Keeps.rfl _ _).put (by simp) _
  have g12 : h12.get st = some (.cells [.slice b9 (l.length + 1) c9] 113) := by subst e12; exact AHeap.get_put_same _ (AHeap.lt gs9) _
  clear e12
  have n12 := k12.1
  (refine Go.run (g:=?_))
  (first|refine Go.finT (by first|exact .inr rfl|exact .inl rfl) rfl ?_|refine Go.fin1 (by first|exact .inr rfl|exact .inl rfl) rfl (hq:=?_))
  have ho : ∀ i ∈ blk b9, i ∈ blk la ∨ h.n ≤ i := fun i hi => by
    rcases o9 i hi with x | x
    · exact .inl x
    · exact .inr (by omega)
  have sb9 : st ∉ blk b9 := fun hi => by
    rcases o9 _ hi with x | x
    · exact stl x
    · omega
  have S8 := s3.trans s8
  have K : Keeps (st :: blk la) h h12 := ⟨by omega, fun i hi hn => by
    simp only [List.mem_cons, not_or] at hn
    rw [k12.2 i (by omega) (by simp only [List.mem_singleton]; exact hn.1), k9.2 i (by omega) hn.2, S8.2 i hi]⟩
  refine ⟨by simp [retV], b9, c9, h.n, ?_, Nat.le_refl _, ho⟩
  refine I.snoc K g12 (hs9.keeps k12 (fun i hi hm => ?_)) (Nat.le_refl _) (k12.get gn9 ?_) ho hno
  · simp only [List.mem_singleton] at hm
    subst hm
    exact sb9 hi
  · simp only [List.mem_singleton]
    omega
theorem iRem_int {k : IntKind} {x : Int} {y : Nat} (hy : 0 < y) : iBin .rem k x y = some (.int k (x.tmod y)) := by
  have h0 : ¬ ((y : Int) = 0) := by omega
  simp only [iBin, if_neg h0]
def pickN (n : Int) (L : Nat) : Nat := ((n.tmod L + L).tmod L).toNat
theorem tmod_bounds (n : Int) {L : Nat} (h : 0 < L) : -(L : Int) < n.tmod L ∧ n.tmod L < L := by
  constructor
  · have := Int.lt_tmod_of_pos n (b := (L : Int)) (by omega); omega
  · exact Int.tmod_lt_of_pos n (by omega)
theorem pickN_lt (n : Int) {L : Nat} (h : 0 < L) : pickN n L < L ∧ (n.tmod L + L).tmod L = (pickN n L : Int) := by
  obtain ⟨h1, h2⟩ := tmod_bounds n h
  have h3 := Int.tmod_lt_of_pos (n.tmod L + L) (b := L) (by omega)
  have h4 := Int.tmod_nonneg (a := n.tmod L + L) (L : Int) (by omega)
  unfold pickN
  omega
end Go.Proofs.Ytacfneokhmnkbaa
namespace Go.Proofs.Ytacfneokhmnkbaa
set_option maxRecDepth 100000
attribute [local irreducible] Go GoR GoL
def us (l : List Nat) : List Value := l.map fun (n : Nat) => .int .u64 (n : Int)
theorem us_len (l : List Nat) : (us l).length = l.length := by simp [us]
theorem us_get {l : List Nat} {i c : Nat} (h : l[i]? = some c) : (us l)[i]? = some (.int .u64 c) := by simp [us, h]
theorem us_set (l : List Nat) (i c : Nat) : (us l).set i (.int .u64 c) = us (l.set i c) := by simp [us, List.map_set]
theorem tpStep_spec (c6 x y : Nat) (cb : Option Addr) (n cap : Nat) (cs : List Nat) (j z c : Nat) (h : AHeap) (g6 : h.get c6 = some (.cells [.slice cb n cap] 56)) (sv : Sv h 44 1 cb n cap (us cs)) (hlen : cs.length = n) (gx : h.get x = some (.cells [.int .i64 j] 3)) (gy : h.get y = some (.cells [.int .u8 z] 5)) (hj : j < n) (hn : n ≤ 1000000) (hz : z < 256) (hcj : cs[j]? = some c) (hc : c < 1000) (n6 : c6 ∉ blk cb) (nx : x ∉ blk cb) (ny : y ∉ blk cb) : CallS Try.prog (blk cb) 30 [.pointer (some ⟨c6, 0, none⟩), .pointer (some ⟨x, 0, none⟩), .pointer (some ⟨y, 0, none⟩)] h fun v h' => v = .int .u8 (if z % 8 < c + 1 then 3 else 1) ∧ Sv h' 44 1 cb n cap (us (cs.set j (c + 1))) := by
  have c0 := us_get hcj
  have hbe : j < (us cs).length := by rw [us_len]; omega
  have r := sv.rv (P := Try.prog)
  (refine CallS.of3 Try.func30 rfl Try.ntmps30 Try.results30 rfl ?_)
  (refine Go.run (g:=?_))
  refine GoR.store1' rfl rfl rfl rfl rfl rfl (hS := sv) (hw := fun i hi => .inl hi) (g := ?_)
  intro h4 sv4 k4 n4
  rw [us_set] at sv4
  have g64 := k4.get g6 n6
  have gx4 := k4.get gx nx
  have gy4 := k4.get gy ny
  clear g6 gx gy r sv c0 hbe
  have c0 : (us (cs.set j (c + 1)))[j]? = some (.int .u64 (c + 1 : Nat)) := us_get (by rw [List.getElem?_set_self]; omega)
  have hbe : j < (us (cs.set j (c + 1))).length := by rw [us_len, List.length_set]; omega
  have r := sv4.rv (P := Try.prog)
  by_cases q : z % 8 < c + 1
  · rw [if_pos q]
    (refine Go.run (g:=?_))
    (first|refine Go.finT (by first|exact .inr rfl|exact .inl rfl) rfl ?_|refine Go.fin1 (by first|exact .inr rfl|exact .inl rfl) rfl (hq:=?_))
    exact ⟨rfl, sv4⟩
  · rw [if_neg q]
    (refine Go.run (g:=?_))
    (first|refine Go.finT (by first|exact .inr rfl|exact .inl rfl) rfl ?_|refine Go.fin1 (by first|exact .inr rfl|exact .inl rfl) rfl (hq:=?_))
    exact ⟨rfl, sv4⟩
abbrev clo (c6 x y : Nat) : Value := .func (.func 30) #[] #[.pointer (some ⟨c6, 0, none⟩), .pointer (some ⟨x, 0, none⟩), .pointer (some ⟨y, 0, none⟩)]
structure EV1 (n0 c6 : Nat) (la : Option Addr) (l : List TK) (zs : List Nat) (H : AHeap) (i : Nat) (t : TK) (x y z : Nat) : Prop where
  fn : t.fn = clo c6 x y
  gx : H.get x = some (.cells [.int .i64 i] 3)
  gy : H.get y = some (.cells [.int .u8 z] 5)
  zz : zs[i]? = some z
  hz : z < 256
  gex : n0 ≤ x
  gey : n0 ≤ y
  px : ∀ t' ∈ l, t'.p ≠ x ∧ t'.p ≠ y
  lx : x ∉ blk la
  ly : y ∉ blk la
def EV (n0 c6 : Nat) (la : Option Addr) (l : List TK) (zs : List Nat) (H : AHeap) : Prop := ∀ (i : Nat) (t : TK), l[i]? = some t → ∃ x y z, EV1 n0 c6 la l zs H i t x y z
theorem EV.keeps {n0 c6 : Nat} {la : Option Addr} {l : List TK} {zs : List Nat} {wr : List Nat} {H H' : AHeap} (E : EV n0 c6 la l zs H) (k : Keeps wr H H') (hw : ∀ i ∈ wr, i < n0 ∨ i ∈ blk la ∨ ∃ t ∈ l, t.p = i) : EV n0 c6 la l zs H' := fun i t ht => by
  obtain ⟨x, y, z, e⟩ := E i t ht
  refine ⟨x, y, z, { e with gx := k.get e.gx fun h => ?_, gy := k.get e.gy fun h => ?_ }⟩
  · rcases hw _ h with h | h | ⟨u, hu, rfl⟩
    · have := e.gex; omega
    · exact e.lx h
    · exact (e.px u hu).1 rfl
  · rcases hw _ h with h | h | ⟨u, hu, rfl⟩
    · have := e.gey; omega
    · exact e.ly h
    · exact (e.px u hu).2 rfl
theorem EV.set {n0 c6 : Nat} {la : Option Addr} {l : List TK} {zs : List Nat} {H : AHeap} (E : EV n0 c6 la l zs H) {j : Nat} (hj : j < l.length) {t' : TK} (hp : t'.p = l[j].p) (hf : t'.fn = l[j].fn) : EV n0 c6 la (l.set j t') zs H := fun i t ht => by
  have hpx : ∀ {x y : Nat}, (∀ u ∈ l, u.p ≠ x ∧ u.p ≠ y) → ∀ u ∈ l.set j t', u.p ≠ x ∧ u.p ≠ y := fun h u hu => by
    rcases List.mem_or_eq_of_mem_set hu with hu | rfl
    · exact h u hu
    · rw [hp]; exact h _ (List.getElem_mem hj)
  rw [List.getElem?_set] at ht
  split at ht
  · rename_i e; subst e
    simp only [hj, if_true, Option.some.injEq] at ht
    subst ht
    obtain ⟨x, y, z, e⟩ := E j _ (List.getElem?_eq_getElem hj)
    exact ⟨x, y, z, { e with fn := hf.trans e.fn, px := hpx e.px }⟩
  · obtain ⟨x, y, z, e⟩ := E i t ht
    exact ⟨x, y, z, { e with px := hpx e.px }⟩
theorem aEq_fn {P : Program} {h : AHeap} {t : TypeId} (hu : (match P.underlying t with | some (.func _ _ _) => true | _ => false) = true) (F : Fn) (ts cp : Array Value) : aEq P h t (.func F ts cp) .nilFunc = some (false, []) := by
  unfold aEq
  split at hu
  · rename_i e; rw [e]
  · cases hu
theorem stepU : (match Try.prog.underlying 54 with | some (.func _ _ _) => true | _ => false) = true := by kernel_rfl
set_option maxHeartbeats 8000000 in
theorem tpPick_spec (n0 st : Nat) (l : List TK) (hl : l.length ≤ 1000000) (la : Option Addr) (lc : Nat) (h : AHeap) (I : SI n0 st l la lc h) (c6 : Nat) (zs : List Nat) (E : EV n0 c6 la l zs h) (cb : Option Addr) (N cap : Nat) (cs : List Nat) (g6 : h.get c6 = some (.cells [.slice cb N cap] 56)) (sv : Sv h 44 1 cb N cap (us cs)) (hlen : cs.length = N) (hN : l.length = N) (l6 : c6 < n0) (lb : ∀ i ∈ blk cb, i < n0 ∧ i ≠ st ∧ i ≠ c6) (hcs : ∀ (i : Nat) (t : TK), l[i]? = some t → cs[i]? = some t.pk ∧ t.pk < 999) (n : Int) (hn : -9223372036854775808 ≤ n ∧ n ≤ 9223372036854775807) : CallS Try.prog (l.map (·.p) ++ blk cb) 28 [.pointer (some ⟨st, 0, none⟩), .int .i64 n] h fun v h' =>
    (idx runB l 0 = [] ∧ v = .tuple #[.int .i64 0, .bool false] ∧ Same h h') ∨
    (∃ (j : Nat) (hj : j < l.length) (z : Nat), (idx runB l 0)[pickN n (idx runB l 0).length]? = some (j : Int) ∧ runB l[j] = true ∧ zs[j]? = some z ∧ v = .tuple #[.int .i64 j, .bool true] ∧ SI n0 st (l.set j ⟨l[j].p, l[j].fn, if z % 8 < l[j].pk + 1 then 3 else 1, false, false, l[j].pk + 1⟩) la lc h' ∧ EV n0 c6 la (l.set j ⟨l[j].p, l[j].fn, if z % 8 < l[j].pk + 1 then 3 else 1, false, false, l[j].pk + 1⟩) zs h' ∧ h'.get c6 = some (.cells [.slice cb N cap] 56) ∧ Sv h' 44 1 cb N cap (us (cs.set j (l[j].pk + 1)))) := by
  have hlt := I.lt
  have hst := I.st
  (refine CallS.of2 Try.func28 rfl Try.ntmps28 Try.results28 rfl ?_)
  (refine Go.run (g:=?_))
  refine GoR.call rfl rfl rfl rfl rfl rfl rfl (((runnable_spec n0 st l hl la lc _ I).args (by first | rfl | (simp; fail_if_success focus skip) | (simp; omega) | (congr 2; omega))).mono ?_)
  rintro _ h3 ⟨b, rc, rfl, hs, ob⟩ s3
  have m3 := s3.1
  have hrl := idx_le runB l 0
  have hmem := fun x => @idx_mem runB l 0 x
  generalize idx runB l 0 = r at *
  rcases Nat.eq_zero_or_pos r.length with q | q
  · have q' : (r.length : Int) = 0 := by omega
    (refine Go.run (g:=?_))
    (first|refine Go.finT (by first|exact .inr rfl|exact .inl rfl) rfl ?_|refine Go.fin1 (by first|exact .inr rfl|exact .inl rfl) rfl (hq:=?_))
    exact .inl ⟨List.eq_nil_of_length_eq_zero q, rfl, s3⟩
  have q' : ¬ (r.length : Int) = 0 := by omega
  obtain ⟨b1, b2⟩ := tmod_bounds n q
  obtain ⟨p1, p2⟩ := pickN_lt n q
  generalize pickN n r.length = k at *
  obtain ⟨j, hj0, hjl, hrun⟩ := hmem r[k] (List.getElem_mem p1)
  rw [Nat.zero_add] at hj0
  have hkj : r[k]? = some (j : Int) := by rw [List.getElem?_eq_getElem p1, hj0]
  have c0 : (ints r)[k]? = some (.int .i64 (j : Int)) := by rw [ints_get p1, hj0]
  have hbe : k < (ints r).length := by rw [ints_len]; exact p1
  have hrv := hs.rv (P := Try.prog)
  have I3 := I.same s3
  have E3 : EV n0 c6 la l zs h3 := E.keeps (s3.keeps []) (fun i hi => by cases hi)
  have gb3 := I3.sb
  have hz3 := I3.sv.rv (P := Try.prog)
  have c1 := pcs_get hjl
  have hbe1 : j < (pcs l).length := by rw [pcs_len]; exact hjl
  have hjs : l[j]? = some l[j] := List.getElem?_eq_getElem hjl
  have hjm : l[j] ∈ l := List.getElem_mem hjl
  have gt := I3.tk j _ hjs
  obtain ⟨x, y, z, ev⟩ := E3 j _ hjs
  obtain ⟨hc1, hc2⟩ := hcs j _ hjs
  have hge := I.ge _ hjm
  have hW : l[j].p ∈ l.map (·.p) ++ blk cb := List.mem_append.2 (.inl (List.mem_map.2 ⟨_, hjm, rfl⟩))
  clear hmem hj0
  obtain ⟨t, ht⟩ : ∃ t, t = l[j] := ⟨_, rfl⟩
  rw [← ht] at hrun c1 hjs hjm gt ev hc1 hc2 hge hW
  have hpx := ev.px _ hjm
  unfold TK.cs at gt
  rw [ev.fn] at gt
  (refine Go.run (g:=?_))
  refine GoR.binE _ rfl rfl rfl rfl rfl rfl (iRem_int q) ?_
  generalize n.tmod r.length = m at *
  (refine Go.run (g:=?_))
  refine GoR.binE _ rfl rfl rfl rfl rfl rfl (iRem_int q) ?_
  rw [p2]
  (refine Go.run (g:=?_))
  refine GoR.store (off := 0 + 4) (n := 1) (v := .int .u64 (t.pk + 1 : Nat)) (l := [.int .u64 (t.pk + 1 : Nat)]) rfl rfl rfl rfl rfl gt rfl rfl (Nat.le_refl _) rfl rfl (.inl hW) ?_
  refine GoR.name ?_
  intro h4 e4
  have k4 : Keeps [t.p] h3 h4 := by subst e4; exact (Keeps.rfl _ _).put (by simp) _
  have g4 : h4.get t.p = some (.cells [clo c6 x y, .int .u8 t.is, .bool t.inn, .bool t.wk, .int .u64 (t.pk + 1 : Nat)] 119) := by subst e4; exact AHeap.get_put_same _ (AHeap.lt gt) _
  clear e4
  have n4 := k4.1
  (refine Go.run (g:=?_))
  refine GoR.store (off := 0 + 2) (n := 1) (v := .bool true) (l := [.bool true]) rfl rfl rfl rfl rfl g4 rfl rfl (show 3 ≤ 5 by decide) rfl rfl (.inl hW) ?_
  refine GoR.name ?_
  intro h5 e5
  have k5 : Keeps [t.p] h3 h5 := by subst e5; exact k4.put (by simp) _
  have g5 : h5.get t.p = some (.cells [clo c6 x y, .int .u8 t.is, .bool true, .bool t.wk, .int .u64 (t.pk + 1 : Nat)] 119) := by subst e5; exact AHeap.get_put_same _ (AHeap.lt g4) _
  clear e5 k4 n4 g4
  have n5 := k5.1
  (refine Go.run (g:=?_))
  refine GoR.store (off := 0 + 3) (n := 1) (v := .bool false) (l := [.bool false]) rfl rfl rfl rfl rfl g5 rfl rfl (show 4 ≤ 5 by decide) rfl rfl (.inl hW) ?_
  refine GoR.name ?_
  intro h6 e6
  have k6 : Keeps [t.p] h3 h6 := by subst e6; exact k5.put (by simp) _
  have g7 : h6.get t.p = some (.cells [clo c6 x y, .int .u8 t.is, .bool true, .bool false, .int .u64 (t.pk + 1 : Nat)] 119) := by subst e6; exact AHeap.get_put_same _ (AHeap.lt g5) _
  clear e6 k5 n5 g5
  have n6 := k6.1
  unfold clo at g7
  (refine Go.run (g:=?_))
  refine GoR.eqRef rfl rfl rfl rfl (.inr rfl) rfl rfl (aEq_fn stepU _ _ _) ?_
  (refine Go.run (g:=?_))
  have q6 : t.p ≠ c6 := by omega
  have qb : t.p ∉ blk cb := fun hi => by have := lb _ hi; omega
  have sv6 := (sv.same s3).keeps k6 (fun i hi hm => by simp only [List.mem_singleton] at hm; subst hm; exact qb hi)
  have g66 := k6.get (s3.get g6) (by simp only [List.mem_singleton]; exact fun e => q6 e.symm)
  have gx6 := k6.get ev.gx (by simp only [List.mem_singleton]; exact fun e => hpx.1 e.symm)
  have gy6 := k6.get ev.gy (by simp only [List.mem_singleton]; exact fun e => hpx.2 e.symm)
  have hgx := ev.gex
  have hgy := ev.gey
  refine GoR.callW rfl rfl rfl rfl rfl rfl rfl (((tpStep_spec c6 x y cb N cap cs j z t.pk h6 g66 sv6 hlen gx6 gy6 (by omega) (by omega) ev.hz hc1 (by omega) (fun hi => (lb _ hi).2.2 rfl) (fun hi => by have := lb _ hi; omega) (fun hi => by have := lb _ hi; omega)).args (by first | rfl | (simp; fail_if_success focus skip) | (simp; omega) | (congr 2; omega))).mono ?_)
  rintro _ h7 ⟨rfl, sv7⟩ k7
  refine ⟨fun i hi => .inl (List.mem_append.2 (.inr hi)), ?_⟩
  have n7 := k7.1
  have g77 := k7.get g7 qb
  (refine Go.run (g:=?_))
  refine GoR.store (off := 0 + 2) (n := 1) (v := .bool false) (l := [.bool false]) rfl rfl rfl rfl rfl g77 rfl rfl (show 3 ≤ 5 by decide) rfl rfl (.inl hW) ?_
  refine GoR.name ?_
  intro h8 e8
  have k8 : Keeps [t.p] h7 h8 := by subst e8; exact (Keeps.rfl _ _).put (by simp) _
  have g8 : h8.get t.p = some (.cells [clo c6 x y, .int .u8 t.is, .bool false, .bool false, .int .u64 (t.pk + 1 : Nat)] 119) := by subst e8; exact AHeap.get_put_same _ (AHeap.lt g77) _
  clear e8
  have n8 := k8.1
  have K8 : Keeps (t.p :: blk cb) h3 h8 := ⟨by omega, fun i hi hm => by
    simp only [List.mem_cons, not_or] at hm
    rw [k8.2 i (by omega) (by simp only [List.mem_singleton]; exact hm.1), k7.2 i (by omega) hm.2, k6.2 i hi (by simp only [List.mem_singleton]; exact hm.1)]⟩
  have sv8 := sv7.keeps k8 (fun i hi hm => by simp only [List.mem_singleton] at hm; subst hm; exact qb hi)
  have g68 := k8.get (k7.get g66 (fun hi => (lb _ hi).2.2 rfl)) (by simp only [List.mem_singleton]; exact fun e => q6 e.symm)
  clear gt g7 g77 g66 gx6 gy6 sv6 sv7 k6 k7 k8 gb3 hz3 c0 c1 hrv hbe hbe1
  unfold clo at g8
  by_cases hq : z % 8 < t.pk + 1
  · rw [if_pos hq]
    (refine Go.run (g:=?_))
    refine GoR.store (off := 0 + 1) (n := 1) (v := .int .u8 3) (l := [.int .u8 3]) rfl rfl rfl rfl rfl g8 rfl rfl (show 2 ≤ 5 by decide) rfl rfl (.inl hW) ?_
    refine GoR.name ?_
    intro h9 e9
    have k9 : Keeps [t.p] h8 h9 := by subst e9; exact (Keeps.rfl _ _).put (by simp) _
    have g9 : h9.get t.p = some (.cells [clo c6 x y, .int .u8 3, .bool false, .bool false, .int .u64 (t.pk + 1 : Nat)] 119) := by subst e9; exact AHeap.get_put_same _ (AHeap.lt g8) _
    have K9 : Keeps (t.p :: blk cb) h3 h9 := by subst e9; exact K8.put (by simp) _
    clear e9
    (refine Go.run (g:=?_))
    (first|refine Go.finT (by first|exact .inr rfl|exact .inl rfl) rfl ?_|refine Go.fin1 (by first|exact .inr rfl|exact .inl rfl) rfl (hq:=?_))
    refine .inr ⟨j, hjl, z, hkj, by rw [← ht]; exact hrun, ev.zz, rfl, ?_⟩
    have S := I3.set hjl (t' := ⟨l[j].p, l[j].fn, if z % 8 < l[j].pk + 1 then 3 else 1, false, false, l[j].pk + 1⟩) (wr := blk cb) (by rw [← ht]; exact K9) (fun hi => (lb _ hi).2.1 rfl) (fun i hi hm => by have := (lb _ hi).1; have := I.own _ hm; omega) (fun u hu hi => by have := (lb _ hi).1; have := (I.ge u hu).1; omega) rfl (by simp only [← ht, hq, ev.fn, if_true, if_false]; exact g9)
    refine ⟨S, EV.set (E3.keeps K9 fun i hi => ?_) hjl rfl rfl, k9.get g68 (by simp only [List.mem_singleton]; exact fun e => q6 e.symm), ?_⟩
    · rcases List.mem_cons.1 hi with rfl | hi
      · exact .inr (.inr ⟨t, hjm, rfl⟩)
      · exact .inl (lb _ hi).1
    · rw [← ht]
      exact sv8.keeps k9 (fun i hi hm => by simp only [List.mem_singleton] at hm; subst hm; exact qb hi)
  · rw [if_neg hq]
    (refine Go.run (g:=?_))
    refine GoR.store (off := 0 + 1) (n := 1) (v := .int .u8 1) (l := [.int .u8 1]) rfl rfl rfl rfl rfl g8 rfl rfl (show 2 ≤ 5 by decide) rfl rfl (.inl hW) ?_
    refine GoR.name ?_
    intro h9 e9
    have k9 : Keeps [t.p] h8 h9 := by subst e9; exact (Keeps.rfl _ _).put (by simp) _
    have g9 : h9.get t.p = some (.cells [clo c6 x y, .int .u8 1, .bool false, .bool false, .int .u64 (t.pk + 1 : Nat)] 119) := by subst e9; exact AHeap.get_put_same _ (AHeap.lt g8) _
    have K9 : Keeps (t.p :: blk cb) h3 h9 := by subst e9; exact K8.put (by simp) _
    clear e9
    (refine Go.run (g:=?_))
    (first|refine Go.finT (by first|exact .inr rfl|exact .inl rfl) rfl ?_|refine Go.fin1 (by first|exact .inr rfl|exact .inl rfl) rfl (hq:=?_))
    refine .inr ⟨j, hjl, z, hkj, by rw [← ht]; exact hrun, ev.zz, rfl, ?_⟩
    have S := I3.set hjl (t' := ⟨l[j].p, l[j].fn, if z % 8 < l[j].pk + 1 then 3 else 1, false, false, l[j].pk + 1⟩) (wr := blk cb) (by rw [← ht]; exact K9) (fun hi => (lb _ hi).2.1 rfl) (fun i hi hm => by have := (lb _ hi).1; have := I.own _ hm; omega) (fun u hu hi => by have := (lb _ hi).1; have := (I.ge u hu).1; omega) rfl (by simp only [← ht, hq, ev.fn, if_true, if_false]; exact g9)
    refine ⟨S, EV.set (E3.keeps K9 fun i hi => ?_) hjl rfl rfl, k9.get g68 (by simp only [List.mem_singleton]; exact fun e => q6 e.symm), ?_⟩
    · rcases List.mem_cons.1 hi with rfl | hi
      · exact .inr (.inr ⟨t, hjm, rfl⟩)
      · exact .inl (lb _ hi).1
    · rw [← ht]
      exact sv8.keeps k9 (fun i hi hm => by simp only [List.mem_singleton] at hm; subst hm; exact qb hi)
end Go.Proofs.Ytacfneokhmnkbaa
namespace Go.Proofs.Ytacfneokhmnkbaa
set_option maxRecDepth 100000
attribute [local irreducible] Go GoR GoL
def encS (p : Nat × Nat) : Value := .agg #[.int .i64 p.1, .int .i64 p.2]
def SMap (h : AHeap) (r : Nat) (L : Nat) (p : List HEv) : Prop := ∃ f, IMap h r .i64 f ∧ ∀ c, al f c = (spanOf L p c).map encS
theorem SMap.same {h h' : AHeap} {r L : Nat} {p : List HEv} (m : SMap h r L p) (s : Same h h') : SMap h' r L p := by
  obtain ⟨f, a, b⟩ := m
  exact ⟨f, a.same s, b⟩
end Go.Proofs.Ytacfneokhmnkbaa
namespace Go.Proofs.Ytacfneokhmnkbaa
set_option maxRecDepth 100000
attribute [local irreducible] Go GoR GoL
end Go.Proofs.Ytacfneokhmnkbaa
namespace Go.Proofs.Ytacfneokhmnkbaa
set_option maxRecDepth 100000
attribute [local irreducible] Go GoR GoL
theorem SMap.at {h : AHeap} {r L : Nat} {p : List HEv} {f : List (Int × Value)} (hf : ∀ c, al f c = (spanOf L p c).map encS) (c : Int) : (al f c).isSome = (fd p c false).isSome := by
  rw [hf, spanOf]; cases fd p c false <;> rfl
end Go.Proofs.Ytacfneokhmnkbaa
namespace Go.Proofs.Ytacfneokhmnkbaa
set_option maxRecDepth 100000
attribute [local irreducible] Go GoR GoL
end Go.Proofs.Ytacfneokhmnkbaa
namespace Go.Proofs.Ytacfneokhmnkbaa
set_option maxRecDepth 100000
attribute [local irreducible] Go GoR GoL
end Go.Proofs.Ytacfneokhmnkbaa
namespace Go.Proofs.Ytacfneokhmnkbaa
set_option maxRecDepth 100000
attribute [local irreducible] Go GoR GoL
end Go.Proofs.Ytacfneokhmnkbaa
namespace Go.Proofs.Ytacfneokhmnkbaa
set_option maxRecDepth 100000
attribute [local irreducible] Go GoR GoL
end Go.Proofs.Ytacfneokhmnkbaa
namespace Go.Proofs.Ytacfneokhmnkbaa
set_option maxRecDepth 100000
attribute [local irreducible] Go GoR GoL
end Go.Proofs.Ytacfneokhmnkbaa
namespace Go.Proofs.Ytacfneokhmnkbaa
end Go.Proofs.Ytacfneokhmnkbaa
namespace Go.Proofs.Ytacfneokhmnkbaa
open Go.RowKit
set_option maxRecDepth 100000
attribute [local irreducible] Go GoR GoL
def asB : Value → AHeap → List Nat → Option Bool
  | .bool b, _, _ => some b
  | _, _, _ => none
theorem asB_true {v : Value} {h : AHeap} {wr : List Nat} (e : asB v h wr = some true) : v = .bool true := by
  unfold asB at e
  split at e
  · cases e; rfl
  · cases e
end Go.Proofs.Ytacfneokhmnkbaa
namespace Go.Proofs.Ytacfneokhmnkbaa
set_option maxRecDepth 100000
attribute [local irreducible] Go GoR GoL
theorem known25Run : callK (A := Bool) Try.prog noS (fev Try.prog noS 20000) 13 [] emptyH asB = some true := by kernel_rfl
theorem known25 (h : AHeap) : CallS Try.prog [] 13 [] h fun u h' => u = .bool true ∧ h' = h := by
  obtain ⟨v, h', wr, hc, he⟩ := callRun_of (noS_ok _) known25Run
  obtain rfl := asB_true he
  exact CallS.known noGlobals hc rfl h
theorem new_spec (h : AHeap) : CallS Try.prog [] 14 [] h fun v h' => v = .pointer (some ⟨h.n, 0, none⟩) ∧ h'.n = h.n + 1 ∧ h'.get h.n = some (.cells [.slice none 0 0] 113) := by
  (refine CallS.of0 Try.func14 rfl Try.ntmps14 Try.results14 rfl ?_)
  (refine Go.run (g:=?_))
  (first|refine Go.finT (by first|exact .inr rfl|exact .inl rfl) rfl ?_|refine Go.fin1 (by first|exact .inr rfl|exact .inl rfl) rfl (hq:=?_))
  exact ⟨rfl, rfl, AHeap.get_push_same h _⟩
structure TP (zs : List Nat) (i : Nat) (t : TK) : Prop where
  z : ∃ z, zs[i]? = some z ∧ t.is = (if z % 8 < t.pk then 3 else 1) ∧ t.pk ≤ z % 8 + 1
  inn : t.inn = false
theorem SI.empty {n0 st : Nat} {H : AHeap} (g : H.get st = some (.cells [.slice none 0 0] 113)) (h1 : n0 ≤ H.n) (h2 : st < n0) : SI n0 st [] none 0 H :=
  ⟨g, .nil, Own.nil _, h1, h2, (fun i t ht => by simp at ht), (fun t ht => by cases ht), fun i j t t' ht => by simp at ht⟩
theorem EV.snoc {n0 c6 : Nat} {la la' : Option Addr} {l : List TK} {zs : List Nat} {st : Nat} {lc : Nat} {H H2 H3 : AHeap} (I : SI n0 st l la lc H) (E : EV n0 c6 la l zs H) (s : Same H H2) (k : Keeps (st :: blk la) H2 H3) (ho : ∀ i ∈ blk la', i ∈ blk la ∨ H2.n ≤ i) {x y z p is pk : Nat} {inn wk : Bool} (hx : H.n ≤ x) (hy : H.n ≤ y) (hx2 : x < H2.n) (hy2 : y < H2.n) (gx : H2.get x = some (.cells [.int .i64 l.length] 3)) (gy : H2.get y = some (.cells [.int .u8 z] 5)) (hz : zs[l.length]? = some z) (hz8 : z < 256) (hp : H2.n ≤ p) : EV n0 c6 la' (l ++ [⟨p, clo c6 x y, is, inn, wk, pk⟩]) zs H3 := by
  have hlt := I.lt
  have hst := I.st
  have hsl := I.sv.lt
  have hs := s.1
  intro i t ht
  rcases Nat.lt_or_ge i l.length with q | q
  · rw [List.getElem?_append_left q] at ht
    obtain ⟨x', y', z', e⟩ := E i t ht
    have lx := AHeap.lt e.gx
    have ly := AHeap.lt e.gy
    have hgx := e.gex
    have hgy := e.gey
    refine ⟨x', y', z', { e with gx := k.get (s.get e.gx) ?_, gy := k.get (s.get e.gy) ?_, px := fun u hu => ?_, lx := fun hi => ?_, ly := fun hi => ?_ }⟩
    · simp only [List.mem_cons, not_or]; exact ⟨by omega, e.lx⟩
    · simp only [List.mem_cons, not_or]; exact ⟨by omega, e.ly⟩
    · rcases List.mem_append.1 hu with hu | hu
      · exact e.px u hu
      · obtain rfl := List.mem_singleton.1 hu
        exact ⟨by simp only; omega, by simp only; omega⟩
    · rcases ho _ hi with h | h
      · exact e.lx h
      · omega
    · rcases ho _ hi with h | h
      · exact e.ly h
      · omega
  · rw [List.getElem?_append_right q] at ht
    obtain ⟨hi, rfl⟩ : i = l.length ∧ (⟨p, clo c6 x y, is, inn, wk, pk⟩ : TK) = t := by
      cases hq : i - l.length with
      | zero => rw [hq] at ht; exact ⟨by omega, by simpa using ht⟩
      | succ n => rw [hq] at ht; simp at ht
    subst hi
    refine ⟨x, y, z, rfl, k.get gx ?_, k.get gy ?_, hz, hz8, by omega, by omega, fun u hu => ?_, fun hi => ?_, fun hi => ?_⟩
    · simp only [List.mem_cons, not_or]; exact ⟨by omega, fun hi => by have := hsl _ hi; omega⟩
    · simp only [List.mem_cons, not_or]; exact ⟨by omega, fun hi => by have := hsl _ hi; omega⟩
    · rcases List.mem_append.1 hu with hu | hu
      · obtain ⟨j, hj, hjt⟩ := List.mem_iff_getElem.1 hu
        have := AHeap.lt (I.tk j u (by rw [List.getElem?_eq_getElem hj, hjt]))
        exact ⟨by omega, by omega⟩
      · obtain rfl := List.mem_singleton.1 hu
        exact ⟨by simp only; omega, by simp only; omega⟩
    · rcases ho _ hi with h | h
      · have := hsl _ h; omega
      · omega
    · rcases ho _ hi with h | h
      · have := hsl _ h; omega
      · omega
def pks (l : List TK) (N : Nat) : List Nat := l.map (·.pk) ++ List.replicate (N - l.length) 0
theorem pks_snoc {l : List TK} {N : Nat} (h : l.length < N) {t : TK} (ht : t.pk = 0) : pks (l ++ [t]) N = pks l N := by
  unfold pks
  obtain ⟨k, hk⟩ : ∃ k, N - l.length = k + 1 := ⟨N - l.length - 1, by omega⟩
  rw [hk, List.length_append, show N - (l.length + [t].length) = k from by simp only [List.length_cons, List.length_nil]; omega]
  simp [ht, List.replicate_succ]
theorem pks_len {l : List TK} {N : Nat} (h : l.length = N) : (pks l N).length = N := by unfold pks; rw [List.length_append, List.length_map, List.length_replicate]; omega
theorem pks_get {l : List TK} {N i : Nat} {t : TK} (h : l[i]? = some t) : (pks l N)[i]? = some t.pk := by
  have hi : i < l.length := by
    rcases Nat.lt_or_ge i l.length with q | q
    · exact q
    · rw [List.getElem?_eq_none q] at h; cases h
  unfold pks
  rw [List.getElem?_append_left (by rw [List.length_map]; exact hi), List.getElem?_map, h]
  rfl
theorem pks_set {l : List TK} {N j : Nat} (hj : j < l.length) (t : TK) : (pks l N).set j t.pk = pks (l.set j t) N := by
  unfold pks
  rw [List.set_append_left _ _ (by rw [List.length_map]; exact hj), List.map_set, List.length_set]
structure PI (h : AHeap) (n0 st c6 : Nat) (m : Option Addr) (N : Nat) (zs : List Nat) (cnt : Nat) (l : List TK) (la : Option Addr) (lc : Nat) (H : AHeap) : Prop where
  len : l.length = cnt
  same : Same h H
  si : SI n0 st l la lc H
  ev : EV n0 c6 la l zs H
  g6 : H.get c6 = some (.cells [.slice m N N] 56)
  sv : Sv H 44 1 m N N (us (pks l N))
  tp : ∀ (i : Nat) (t : TK), l[i]? = some t → TP zs i t
theorem PI.to {h : AHeap} {n0 st c6 : Nat} {m : Option Addr} {N : Nat} {zs : List Nat} {cnt : Nat} {l : List TK} {la : Option Addr} {lc : Nat} {H H' H2 : AHeap} (J : PI h n0 st c6 m N zs cnt l la lc H) (s : Same H H') (s' : Same H' H2) : PI h n0 st c6 m N zs cnt l la lc H2 :=
  have t := s.trans s'
  ⟨J.len, J.same.trans t, J.si.same t, J.ev.keeps (t.keeps []) (fun i hi => by cases hi), t.get J.g6, J.sv.same t, J.tp⟩
set_option maxHeartbeats 8000000 in
theorem taskPicks_spec (zb : List UInt8) (a : Option Addr) (ca : Nat) (ps : List Int) (hps : ∀ x ∈ ps, -9223372036854775808 ≤ x ∧ x ≤ 9223372036854775807) (b : Option Addr) (cb : Nat) (h : AHeap) (hz : Rv Try.prog h 1 a zb.length ca (zb.map bv)) (hy : Rv Try.prog h 1 b ps.length cb (ints ps)) : CallS Try.prog [] 5 [.slice a zb.length ca, .slice b ps.length cb] h fun v h' => v = .bool true := by
  (refine CallS.of2 Try.func5 rfl Try.ntmps5 Try.results5 rfl ?_)
  (refine Go.run (g:=?_))
  refine GoR.call rfl rfl rfl rfl rfl rfl rfl (((known25 _).args (by first | rfl | (simp; fail_if_success focus skip) | (simp; omega) | (congr 2; omega))).mono ?_)
  rintro _ h ⟨rfl, rfl⟩ -
  by_cases q1 : 100 < zb.length
  · (refine Go.run (g:=?_))
    (first|refine Go.finT (by first|exact .inr rfl|exact .inl rfl) rfl ?_|refine Go.fin1 (by first|exact .inr rfl|exact .inl rfl) rfl (hq:=?_))
    rfl
  by_cases q2 : 500 < ps.length
  · (refine Go.run (g:=?_))
    (first|refine Go.finT (by first|exact .inr rfl|exact .inl rfl) rfl ?_|refine Go.fin1 (by first|exact .inr rfl|exact .inl rfl) rfl (hq:=?_))
    rfl
  (refine Go.run (g:=?_))
  refine GoR.call rfl rfl rfl rfl rfl rfl rfl (((new_spec _).args (by first | rfl | (simp; fail_if_success focus skip) | (simp; omega) | (congr 2; omega))).mono ?_)
  rintro _ h3 ⟨rfl, n3, g3⟩ s3
  (refine Go.run (g:=?_))
  refine GoR.makeO rfl rfl rfl rfl rfl rfl rfl (by omega) (by omega) ?_
  intro m h4 sv4 om s4 n4
  (refine Go.run (g:=?_))
  refine Go.name ?_
  intro h5 e5
  have s5 : Same h4 h5 := by subst e5; exact ((Same.refl h4).push _).put (Nat.le_refl _) _
  have n5 : h5.n = h4.n + 1 := by subst e5; rfl
  have g5 : h5.get h4.n = some (.cells [.slice m zb.length zb.length] 56) := by subst e5; exact AHeap.get_put_same _ (by simp) _
  clear e5
  have S5 : Same h h5 := (s3.trans s4).trans s5
  have g35 := s5.get (s4.get g3)
  have sv5 := sv4.same s5
  have hmlt := sv4.lt
  obtain ⟨N, hN⟩ : ∃ N, N = zb.length := ⟨_, rfl⟩
  have hN100 : N ≤ 100 := by omega
  obtain ⟨n0, hn0⟩ : ∃ n0, n0 = h5.n := ⟨_, rfl⟩
  obtain ⟨st, hst⟩ : ∃ st, st = h.n := ⟨_, rfl⟩
  obtain ⟨c6, hc6⟩ : ∃ c6, c6 = h4.n := ⟨_, rfl⟩
  have lb : ∀ i ∈ blk m, i < n0 ∧ i ≠ st ∧ i ≠ c6 := fun i hi => by have := hmlt i hi; have := om i hi; omega
  have lbh : ∀ i ∈ blk m, h.n ≤ i := fun i hi => by have := om i hi; omega
  have l6 : c6 < n0 := by omega
  have zsl : (zb.map (·.toNat)).length = N := by rw [List.length_map, hN]
  have zget : ∀ {i : Nat} (hi : i < N), (zb.map (·.toNat))[i]? = some zb[i].toNat := fun hi => by simp [hN ▸ hi]
  rw [← hN] at sv5 g5 hz ⊢
  rw [← hst] at g35 ⊢
  rw [← hc6] at g5 ⊢
  have hz5 := hz.same S5
  obtain ⟨zs, hzs⟩ : ∃ zs, zs = zb.map (·.toNat) := ⟨_, rfl⟩
  rw [← hzs] at zsl zget
  have sv5' : Sv h5 44 1 m N N (us (List.replicate N 0)) := by
    have : us (List.replicate N 0) = List.replicate N (.int .u64 0) := by simp [us]
    rw [this]; exact sv5
  clear sv4 sv5 g3
  have e0 : pks [] N = List.replicate N 0 := by simp [pks]
  rw [← e0] at sv5'
  refine Go.loop (α := Nat × List TK × Option Addr × Nat × AHeap) (fun x => [(32, .int .i64 x.1), (31, .int .i64 N), (30, .slice a N ca), (6, .pointer (some ⟨c6, 0, none⟩)), (5, .pointer (some ⟨st, 0, none⟩)), (0, .slice a N ca), (1, .slice b ps.length cb)]) (fun _ => []) (fun x => x.2.2.2.2) (fun x => x.1 ≤ N ∧ PI h n0 st c6 m N zs x.1 x.2.1 x.2.2.1 x.2.2.2.1 x.2.2.2.2) (fun x => N - x.1) (0, [], none, 0, h5) ?_ ?_ rfl rfl ?_
  · exact ⟨Nat.zero_le _, rfl, S5, SI.empty g35 (Nat.le_of_eq hn0) (by omega), (fun i t ht => by simp at ht), g5, sv5', fun i t ht => by simp at ht⟩
  · exact ⟨rfl, rfl, rfl, rfl, rfl, rfl, rfl, trivial⟩
  rintro ⟨i, l, la, lc, h6⟩ ⟨hi, J⟩
  simp only at hi J ⊢
  have hlen := J.len
  have S6 := J.same
  have n6 := S6.1
  rcases Nat.lt_or_ge i N with i0 | i0
  · have hz6 := hz.same S6
    have i1 : i < zb.length := by omega
    have c0 : (zb.map bv)[i]? = some (.int .u8 zb[i].toNat) := by simp [bv, i1]
    have hbe : i < (zb.map bv).length := by rw [List.length_map]; omega
    have hzi := zget i0
    have hz8 : zb[i].toNat < 256 := UInt8.toNat_lt _
    generalize zb[i].toNat = z at *
    (refine Go.run (g:=?_))
    simp only [AHeap.n_push, AHeap.n_put]
    refine GoR.name ?_
    intro h7 e7
    have s7 : Same h6 h7 := by subst e7; exact ((((Same.refl h6).push _).push _).put (Nat.le_refl _) _).put (Nat.le_succ _) _
    have n7 : h7.n = h6.n + 2 := by subst e7; rfl
    have gx : h7.get h6.n = some (.cells [.int .i64 i] 3) := by subst e7; rw [AHeap.get_put_ne _ _ (by omega)]; exact AHeap.get_put_same _ (by simp only [AHeap.n_push]; omega) _
    have gy : h7.get (h6.n + 1) = some (.cells [.int .u8 z] 5) := by subst e7; exact AHeap.get_put_same _ (by simp only [AHeap.n_push, AHeap.n_put]; omega) _
    clear e7
    have hzl : zs[l.length]? = some z := by rw [hlen]; exact hzi
    refine GoR.callW rfl rfl rfl rfl rfl rfl rfl (((spawn_spec n0 st l (by omega) la lc h7 (J.si.same s7) 30 #[.pointer (some ⟨c6, 0, none⟩), .pointer (some ⟨h6.n, 0, none⟩), .pointer (some ⟨h6.n + 1, 0, none⟩)]).args (by first | rfl | (simp; fail_if_success focus skip) | (simp; omega) | (congr 2; omega))).mono ?_)
    rintro _ h8 ⟨rfl, la', lc', p, SI', hp, ho⟩ k8
    have hown := J.si.own
    have hnst : st ≤ n0 := by omega
    refine ⟨fun i hi => .inr ?_, ?_⟩
    · rcases List.mem_cons.1 hi with rfl | hi
      · exact Nat.le_refl _
      · have := hown _ hi; omega
    have hsl := J.si.sv.lt
    have k8n : ∀ i ∈ st :: blk la, h.n ≤ i := fun i hi => by
      rcases List.mem_cons.1 hi with rfl | hi
      · omega
      · have := hown _ hi; omega
    have J' : PI h n0 st c6 m N zs (i + 1) (l ++ [⟨p, clo c6 h6.n (h6.n + 1), 1, false, false, 0⟩]) la' lc' h8 := by
      refine ⟨by rw [List.length_append, hlen]; rfl, (S6.trans s7).own k8 k8n, SI', EV.snoc J.si J.ev s7 k8 ho (Nat.le_refl _) (Nat.le_succ _) (by omega) (by omega) (by rw [hlen]; exact gx) gy hzl hz8 hp, ?_, ?_, ?_⟩
      · refine k8.get (s7.get J.g6) ?_
        simp only [List.mem_cons, not_or]
        exact ⟨by omega, fun hi => by have := hown _ hi; omega⟩
      · rw [pks_snoc (by omega) rfl]
        refine (J.sv.same s7).keeps k8 (fun i hi hm => ?_)
        rcases List.mem_cons.1 hm with rfl | hm
        · exact (lb _ hi).2.1 rfl
        · have := (lb _ hi).1; have := hown _ hm; omega
      · intro j t ht
        rcases Nat.lt_or_ge j l.length with q | q
        · rw [List.getElem?_append_left q] at ht
          exact J.tp j t ht
        · rw [List.getElem?_append_right q] at ht
          cases hq : j - l.length with
          | zero =>
            rw [hq] at ht
            simp only [List.getElem?_cons_zero, Option.some.injEq] at ht
            subst ht
            have : j = l.length := by omega
            subst this
            exact ⟨⟨z, hzl, by simp, Nat.zero_le _⟩, rfl⟩
          | succ n => rw [hq] at ht; simp at ht
    (refine Go.run (g:=?_))
    exact Go.again (i + 1, l ++ [⟨p, clo c6 h6.n (h6.n + 1), 1, false, false, 0⟩], la', lc', h8) ⟨by simp only; omega, J'⟩ (by simp only; omega) ⟨rfl, rfl, rfl, rfl, rfl, rfl, rfl, trivial⟩ rfl rfl
  · have hiN : N = i := by omega
    subst hiN
    clear hi
    obtain ⟨M, hM⟩ : ∃ M, M = ps.length := ⟨_, rfl⟩
    (refine Go.run (g:=?_))
    rw [← hM] at hy ⊢
    refine Go.loop (α := Nat × List TK × AHeap) (fun x => [(43, .int .i64 x.1), (42, .int .i64 M), (41, .slice b M cb), (6, .pointer (some ⟨c6, 0, none⟩)), (5, .pointer (some ⟨st, 0, none⟩)), (0, .slice a N ca)]) (fun _ => []) (fun x => x.2.2) (fun x => x.1 ≤ M ∧ PI h n0 st c6 m N zs N x.2.1 la lc x.2.2) (fun x => M - x.1) (0, l, h6) ?_ ?_ rfl rfl ?_
    · exact ⟨Nat.zero_le _, J⟩
    · exact ⟨rfl, rfl, rfl, rfl, rfl, rfl, trivial⟩
    clear J S6 n6 hlen
    rintro ⟨i, l, h6⟩ ⟨hi, J⟩
    simp only at hi J ⊢
    have hlen := J.len
    have S6 := J.same
    have n6 := S6.1
    have hown := J.si.own
    have hge := J.si.ge
    rcases Nat.lt_or_ge i M with i0 | i0
    · have hy6 := hy.same S6
      have i1 : i < ps.length := by omega
      have c0 := ints_get i1
      have hbe : i < (ints ps).length := by rw [ints_len]; omega
      have hnr := hps _ (List.getElem_mem i1)
      generalize ps[i] = n at *
      (refine Go.run (g:=?_))
      refine GoR.call rfl rfl rfl rfl rfl rfl rfl (((runnable_spec n0 st l (by omega) la lc _ J.si).args (by first | rfl | (simp; fail_if_success focus skip) | (simp; omega) | (congr 2; omega))).mono ?_)
      rintro _ h7 ⟨rb, rc, rfl, hr, orb⟩ s7
      have n7 := s7.1
      have hcs : ∀ (i : Nat) (t : TK), l[i]? = some t → (pks l N)[i]? = some t.pk ∧ t.pk < 999 := fun i t ht => by
        obtain ⟨z, -, -, hp⟩ := (J.tp i t ht).z
        exact ⟨pks_get ht, by omega⟩
      (refine Go.run (g:=?_))
      refine GoR.callW rfl rfl rfl rfl rfl rfl rfl (((tpPick_spec n0 st l (by omega) la lc h7 (J.si.same s7) c6 zs (J.ev.keeps (s7.keeps []) (fun i hi => by cases hi)) m N N (pks l N) (s7.get J.g6) (J.sv.same s7) (pks_len hlen) hlen l6 lb hcs n hnr).args (by first | rfl | (simp; fail_if_success focus skip) | (simp; omega) | (congr 2; omega))).mono ?_)
      have hwr : ∀ i ∈ l.map (·.p) ++ blk m, h.n ≤ i := fun i hi => by
        rcases List.mem_append.1 hi with hi | hi
        · obtain ⟨t, ht, rfl⟩ := List.mem_map.1 hi
          have := (hge t ht).1; omega
        · exact lbh i hi
      intro v8 h8 hv8 k8
      refine ⟨fun i hi => .inr (by have := hwr i hi; omega), ?_⟩
      have n8 := k8.1
      rcases hv8 with ⟨hr0, rfl, s8⟩ | ⟨j, hj, z, hpj, hrun, hzj, rfl, SI8, EV8, g68, sv8⟩
      · rw [hr0]
        have q0 : ¬ (0 : Int) < (([] : List Int).length : Int) := by simp
        (refine Go.run (g:=?_))
        rw [decide_eq_false q0]
        refine GoR.boolNe rfl rfl rfl rfl rfl rfl boolU ?_
        (refine Go.run (g:=?_))
        exact Go.again (i + 1, l, h8) ⟨by simp only; omega, J.to s7 s8⟩ (by simp only; omega) ⟨rfl, rfl, rfl, rfl, rfl, rfl, trivial⟩ rfl rfl
      · have hrl := idx_le runB l 0
        generalize idx runB l 0 = r at *
        have hk : pickN n r.length < r.length := by
          rcases Nat.lt_or_ge (pickN n r.length) r.length with h | h
          · exact h
          · rw [List.getElem?_eq_none h] at hpj; cases hpj
        have q : 0 < r.length := by omega
        have q0 : (0 : Int) < (r.length : Int) := by omega
        obtain ⟨b1, b2⟩ := tmod_bounds n q
        obtain ⟨-, p2⟩ := pickN_lt n q
        generalize pickN n r.length = k at *
        have hjs : l[j]? = some l[j] := List.getElem?_eq_getElem hj
        have hrk := hr.lt
        have hr8 := hr.keeps k8 (fun i hi hm => by
          have := orb i hi
          rcases List.mem_append.1 hm with hm | hm
          · obtain ⟨t, ht, rfl⟩ := List.mem_map.1 hm
            obtain ⟨jj, hjj, hjt⟩ := List.mem_iff_getElem.1 ht
            have := AHeap.lt (J.si.tk jj t (by rw [List.getElem?_eq_getElem hjj, hjt]))
            omega
          · have := (lb _ hm).1
            have := J.si.lt
            omega)
        have hrv := hr8.rv (P := Try.prog)
        have c1 : (ints r)[k]? = some (.int .i64 (j : Int)) := by
          have h1 : r[k] = (j : Int) := by rw [List.getElem?_eq_getElem hk] at hpj; exact Option.some.inj hpj
          rw [ints_get hk, h1]
        have hbe1 : k < (ints r).length := by rw [ints_len]; exact hk
        have J8 : PI h n0 st c6 m N zs N (l.set j ⟨l[j].p, l[j].fn, if z % 8 < l[j].pk + 1 then 3 else 1, false, false, l[j].pk + 1⟩) la lc h8 := by
          refine ⟨by rw [List.length_set]; exact hlen, (S6.trans s7).own k8 hwr, SI8, EV8, g68, by rw [← pks_set hj]; exact sv8, ?_⟩
          intro i t ht
          rw [List.getElem?_set] at ht
          split at ht
          · rename_i e; subst e
            simp only [hj, if_true, Option.some.injEq] at ht
            subst ht
            obtain ⟨z', hz', h1, h2⟩ := (J.tp j _ hjs).z
            rw [hz'] at hzj
            obtain rfl := Option.some.inj hzj
            refine ⟨⟨z', hz', rfl, ?_⟩, rfl⟩
            simp only [runB, Bool.and_eq_true, decide_eq_true_eq] at hrun
            rw [h1] at hrun
            have : ¬ z' % 8 < l[j].pk := fun h => by rw [if_pos h] at hrun; simp at hrun
            simp only
            omega
          · exact J.tp i t ht
        have pk8 := picks_in n0 st _ (by rw [List.length_set]; omega) la lc h8 SI8 j (by rw [List.length_set]; exact hj)
        simp only [List.getElem_set_self] at pk8
        have c2 : (us (pks (l.set j ⟨l[j].p, l[j].fn, if z % 8 < l[j].pk + 1 then 3 else 1, false, false, l[j].pk + 1⟩) N))[j]? = some (.int .u64 (l[j].pk + 1 : Nat)) := us_get (pks_get (by rw [List.getElem?_set_self hj]))
        have hbe2 : j < (us (pks (l.set j ⟨l[j].p, l[j].fn, if z % 8 < l[j].pk + 1 then 3 else 1, false, false, l[j].pk + 1⟩) N)).length := by rw [us_len, pks_len (by rw [List.length_set]; exact hlen)]; omega
        have g88 := J8.g6
        have sr8 := J8.sv.rv (P := Try.prog)
        generalize l[j].pk = pj at *
        generalize (l.set j _) = l' at *
        (refine Go.run (g:=?_))
        rw [decide_eq_true q0]
        refine GoR.boolNe rfl rfl rfl rfl rfl rfl boolU ?_
        (refine Go.run (g:=?_))
        refine GoR.binE _ rfl rfl rfl rfl rfl rfl (iRem_int q) ?_
        generalize n.tmod r.length = mm at *
        (refine Go.run (g:=?_))
        refine GoR.binE _ rfl rfl rfl rfl rfl rfl (iRem_int q) ?_
        rw [p2]
        (refine Go.run (g:=?_))
        refine GoR.call rfl rfl rfl rfl rfl rfl rfl (((pk8).args (by first | rfl | (simp; fail_if_success focus skip) | (simp; omega) | (congr 2; omega))).mono ?_)
        rintro _ h9 ⟨rfl, rfl⟩ -
        (refine Go.run (g:=?_))
        exact Go.again (i + 1, l', _) ⟨by simp only; omega, J8⟩ (by simp only; omega) ⟨rfl, rfl, rfl, rfl, rfl, rfl, trivial⟩ rfl rfl
    · have hiM : M = i := by omega
      subst hiM
      clear hi
      have hz6 := hz.same S6
      (refine Go.run (g:=?_))
      refine Go.loop (α := Nat × AHeap) (fun x => [(93, .int .i64 x.1), (92, .int .i64 N), (91, .slice a N ca), (6, .pointer (some ⟨c6, 0, none⟩)), (5, .pointer (some ⟨st, 0, none⟩))]) (fun _ => []) (fun x => x.2) (fun x => x.1 ≤ N ∧ x.2 = h6) (fun x => N - x.1) (0, h6) ?_ ?_ rfl rfl ?_
      · exact ⟨Nat.zero_le _, rfl⟩
      · exact ⟨rfl, rfl, rfl, rfl, rfl, trivial⟩
      rintro ⟨i, h7⟩ ⟨hi, rfl⟩
      simp only at hi ⊢
      rcases Nat.lt_or_ge i N with i0 | i0
      · have i1 : i < zb.length := by omega
        have il : i < l.length := by omega
        have c0 : (zb.map bv)[i]? = some (.int .u8 zb[i].toNat) := by simp [bv, i1]
        have hbe : i < (zb.map bv).length := by rw [List.length_map]; omega
        have hzi := zget i0
        have hz8 : zb[i].toNat < 256 := UInt8.toNat_lt _
        generalize zb[i].toNat = z at *
        have his : l[i]? = some l[i] := List.getElem?_eq_getElem il
        have pk8 := picks_in n0 st l (by omega) la lc h7 J.si i il
        have dn8 := done_in n0 st l (by omega) la lc h7 J.si i il
        obtain ⟨z', hz', h1, h2⟩ := (J.tp i _ his).z
        rw [hz'] at hzi
        obtain rfl := Option.some.inj hzi
        have c2 : (us (pks l N))[i]? = some (.int .u64 l[i].pk) := us_get (pks_get his)
        have hbe2 : i < (us (pks l N)).length := by rw [us_len, pks_len hlen]; omega
        have g88 := J.g6
        have sr8 := J.sv.rv (P := Try.prog)
        generalize l[i] = t at *
        rw [h1] at dn8
        (refine Go.run (g:=?_))
        refine GoR.call rfl rfl rfl rfl rfl rfl rfl (((pk8).args (by first | rfl | (simp; fail_if_success focus skip) | (simp; omega) | (congr 2; omega))).mono ?_)
        rintro _ h9 ⟨rfl, rfl⟩ -
        by_cases hq : z' % 8 < t.pk
        · rw [if_pos hq, show decide ((3 : Nat) = 3) = true from rfl] at dn8
          (refine Go.run (g:=?_))
          refine GoR.call rfl rfl rfl rfl rfl rfl rfl (((dn8).args (by first | rfl | (simp; fail_if_success focus skip) | (simp; omega) | (congr 2; omega))).mono ?_)
          rintro _ h10 ⟨rfl, rfl⟩ -
          (refine Go.run (g:=?_))
          refine GoR.boolNe rfl rfl rfl rfl rfl rfl boolU ?_
          (refine Go.run (g:=?_))
          exact Go.again (i + 1, _) ⟨by simp only; omega, rfl⟩ (by simp only; omega) ⟨rfl, rfl, rfl, rfl, rfl, trivial⟩ rfl rfl
        · rw [if_neg hq, show decide ((1 : Nat) = 3) = false from rfl] at dn8
          (refine Go.run (g:=?_))
          refine GoR.call rfl rfl rfl rfl rfl rfl rfl (((dn8).args (by first | rfl | (simp; fail_if_success focus skip) | (simp; omega) | (congr 2; omega))).mono ?_)
          rintro _ h10 ⟨rfl, rfl⟩ -
          (refine Go.run (g:=?_))
          refine GoR.boolNe rfl rfl rfl rfl rfl rfl boolU ?_
          (refine Go.run (g:=?_))
          exact Go.again (i + 1, _) ⟨by simp only; omega, rfl⟩ (by simp only; omega) ⟨rfl, rfl, rfl, rfl, rfl, trivial⟩ rfl rfl
      · (refine Go.run (g:=?_))
        (first|refine Go.finT (by first|exact .inr rfl|exact .inl rfl) rfl ?_|refine Go.fin1 (by first|exact .inr rfl|exact .inl rfl) rfl (hq:=?_))
        rfl
end Go.Proofs.Ytacfneokhmnkbaa
namespace Go.Proofs.Ytacfneokhmnkbaa
set_option maxRecDepth 100000
open Go.ChangeShapes Go.WideShapes Go.ChangeAt Go.RowKit
theorem intB : Try.prog.underlying 3 = some (.int .i64) := by kernel_rfl
theorem hintsB : Try.prog.underlying 27 = some (.slice 3) := by kernel_rfl
theorem plainInts : plainB Try.prog 4 27 = true := by kernel_rfl
theorem cells_of {α : Type} {f : α → List Value} {sz : Nat} : ∀ (len : Nat) (c : List Value), c.length = len * sz → (∀ i, i < len → ∃ x, (c.drop (i * sz)).take sz = f x) → ∃ l : List α, l.length = len ∧ c = (l.map f).flatten
  | 0, c, hl, _ => ⟨[], rfl, by simpa using hl⟩
  | n + 1, c, hl, each => by
    obtain ⟨x, e⟩ := each 0 (by omega)
    rw [Nat.zero_mul, List.drop_zero] at e
    obtain ⟨l, i1, i2⟩ := cells_of (f := f) (sz := sz) n (c.drop sz) (by rw [List.length_drop, hl, Nat.add_mul]; omega) fun i hi => by
      have := each (i + 1) (by omega)
      rwa [Nat.add_mul, Nat.one_mul, Nat.add_comm, ← List.drop_drop] at this
    exact ⟨x :: l, by simp [i1], by rw [List.map_cons, List.flatten_cons, ← e, ← i2, List.take_append_drop]⟩
section
variable {H : Type} {enc : TypeId × Value → H} {W : World} {m : Mp} {h : AHeap} {base : Nat} {v : Value} {d : DataW H} {ps : List MemPlace}
end
end Go.Proofs.Ytacfneokhmnkbaa
namespace Go.Proofs.Ytacfneokhmnkbaa
set_option maxRecDepth 100000
open Go.ChangeShapes Go.WideShapes Go.ChangeAt Go.RowKit
theorem tU8 : Try.prog.underlying 5 = some (.int .u8) := by kernel_rfl
theorem tBytesU : Try.prog.underlying 49 = some (.slice 5) := by kernel_rfl
theorem plainBytesT : plainB Try.prog 4 49 = true := by kernel_rfl
theorem imp_bytesT {H : Type} {enc : TypeId × Value → H} {W : World} {m : Mp} {h : AHeap} {base : Nat} {v : Value} {d : DataW H} {ps : List MemPlace} (o : Value.okWide Try.prog W .any base 49 v) (ht : DataW.Trod enc Try.prog W 0 (fun _ => true) true 49 v d ps) (I : Im Try.prog W m h) :
    ∃ m' h', Im Try.prog W m' h' ∧ m.le m' ∧ Same h h' ∧ ∃ (a : Option Addr) (cap : Nat) (zs : List UInt8), VRel m' (.slice a zs.length cap) v ∧ Rv Try.prog h' 1 a zs.length cap (zs.map bv) := by
  obtain ⟨a0, l0, c0, rfl⟩ := okWide_slice tBytesU o
  obtain ⟨m', h', cs, I', hm, hs, hA, hR, hl⟩ := imp_val plainBytesT ht I
  obtain ⟨x, rfl, hv⟩ := vrel_one hA (by rw [hl]; kernel_rfl) rfl
  obtain ⟨a, cap, zs, e, hz, hc⟩ := hR.bytes tBytesU tU8 (by kernel_rfl)
  cases e
  exact ⟨m', h', I', hm, hs, a, cap, zs, hv, hz⟩
abbrev I64 (n : Int) : Prop := -9223372036854775808 ≤ n ∧ n ≤ 9223372036854775807
theorem imp_intsR {H : Type} {enc : TypeId × Value → H} {W : World} {m : Mp} {h : AHeap} {base : Nat} {v : Value} {d : DataW H} {ps : List MemPlace} (o : Value.okWide Try.prog W .any base 27 v) (ht : DataW.Trod enc Try.prog W 0 (fun _ => true) true 27 v d ps) (I : Im Try.prog W m h) :
    ∃ m' h', Im Try.prog W m' h' ∧ m.le m' ∧ Same h h' ∧ ∃ (a : Option Addr) (cap : Nat) (l : List Int), VRel m' (.slice a l.length cap) v ∧ Rv Try.prog h' 1 a l.length cap (ints l) ∧ ∀ x ∈ l, I64 x := by
  obtain ⟨a0, l0, c0, rfl⟩ := okWide_slice hintsB o
  obtain ⟨m', h', cs, I', hm, hs, hA, hR, hl⟩ := imp_val plainInts ht I
  obtain ⟨x, rfl, hv⟩ := vrel_one hA (by rw [hl]; kernel_rfl) rfl
  obtain ⟨a, len, cap, c, e, hz, -, hel⟩ := hR.slice_inv hintsB
  cases e
  rw [show Try.prog.cellsOf 3 = 1 from by kernel_rfl] at hz hel
  obtain ⟨l, rfl, rfl⟩ := cells_of (f := fun n : {n : Int // I64 n} => [.int .i64 n.1]) len c hz.length fun i hi => by
    obtain ⟨d', r⟩ := hel i hi
    obtain ⟨n, e0, w⟩ := r.int_inv intB
    simp [Lit.wf, IntKind.wrap, IntKind.bits, IntKind.signed, IntKind.min, IntKind.max] at w
    exact ⟨⟨n, by omega⟩, e0⟩
  have el : (l.map (·.1)).length = l.length := List.length_map _
  refine ⟨m', h', I', hm, hs, a, cap, l.map (·.1), by rw [el]; exact hv, ?_, fun x hx => ?_⟩
  · have e : ints (l.map (·.1)) = (l.map fun n : {n : Int // I64 n} => [Value.int .i64 n.1]).flatten := by
      clear hz hel hv hA hR hl el
      induction l with
      | nil => rfl
      | cons x l ih => simp only [ints, List.map_cons, List.flatten_cons, List.cons_append, List.nil_append] at ih ⊢; rw [ih]
    rw [e, el]; exact hz
  · obtain ⟨y, -, rfl⟩ := List.mem_map.1 hx
    exact y.2
end Go.Proofs.Ytacfneokhmnkbaa
namespace Go.Proofs.Ytacfneokhmnkbaa
open Go.ChangeShapes Go.WideShapes Go.ChangeAt Go.RowKit
set_option maxRecDepth 100000
theorem taskPicksWalk {H : Type} {enc : TypeId × Value → H} {base : Nat} {d0 d1 : DataW H} {p0 p1 : List MemPlace} (v0 v1 : Value) (W : World) (o0 : Value.okWide Try.prog W .any base 49 v0) (h0 : DataW.Trod enc Try.prog W 0 (fun _ => true) true 49 v0 d0 p0) (o1 : Value.okWide Try.prog W .any base 27 v1) (h1 : DataW.Trod enc Try.prog W 0 (fun _ => true) true 27 v1 d1 p1) : Calls Try.prog 5 #[v0, v1] W fun e w' => e = .returned (.bool true) ∧ Below W.heap.size W w' := by
  obtain ⟨m, h, I, _, _, a, ca, zb, hv, hz⟩ := imp_bytesT o0 h0 (Im.empty Try.prog W)
  obtain ⟨m1, h1', I1, hm1, s1, b, cb, ps, hv1, hy, hr⟩ := imp_intsR o1 h1 I
  exact calls_imp noGlobals I1 rfl (taskPicks_spec zb a ca ps hr b cb h1' (hz.same s1) hy) ((ARel.single (hv.mono hm1)).push hv1)
end Go.Proofs.Ytacfneokhmnkbaa