/- What the law leans on, part 6. No conditions. -/
import Derived.Test.YtacfneokhmnkbaaProg
import Derived.KernelRfl
import Derived.ProofKit
import Derived.OpenShut
import Derived.ChangeOld
import Derived.Test.YtacfneokhmnkbaaTaskWakesPart5
set_option linter.unusedVariables false
set_option linter.unusedSimpArgs false
namespace Go.Proofs.Ytacfneokhmnkbaa
instance : CT Try.prog 3 none := ⟨by kernel_rfl⟩
instance : SZ Try.prog 3 1 := ⟨by kernel_rfl⟩
theorem un3 : Try.prog.underlying 3 = some (.int .i64) := by kernel_rfl
instance : AL Try.prog 3 [.int .i64 0] := ⟨by kernel_rfl⟩
instance : CT Try.prog 4 none := ⟨by kernel_rfl⟩
instance : SZ Try.prog 4 1 := ⟨by kernel_rfl⟩
instance : AL Try.prog 4 [.bool false] := ⟨by kernel_rfl⟩
instance : CT Try.prog 5 none := ⟨by kernel_rfl⟩
theorem un5 : Try.prog.underlying 5 = some (.int .u8) := by kernel_rfl
instance : CT Try.prog 27 none := ⟨by kernel_rfl⟩
instance : SZ Try.prog 27 1 := ⟨by kernel_rfl⟩
instance : EL Try.prog 27 (none, 1) := ⟨by kernel_rfl⟩
instance : UN Try.prog 27 (.slice 3) := ⟨by kernel_rfl⟩
instance : BS Try.prog 27 3 1 (.int .i64 0) := .of (by kernel_rfl) (by kernel_rfl) (by kernel_rfl) (by kernel_rfl) (by kernel_rfl)
instance : AP Try.prog 27 27 3 1 8 := .of (inf := Try.t3) (z := .int .i64 0) (e₂ := 3) (by kernel_rfl) (by kernel_rfl) (by kernel_rfl) (by kernel_rfl) (by kernel_rfl) (by kernel_rfl) (by decide) (by kernel_rfl) (by kernel_rfl)
instance : CT Try.prog 31 none := ⟨by kernel_rfl⟩
instance : SZ Try.prog 31 1 := ⟨by kernel_rfl⟩
instance : AL Try.prog 31 [.pointer none] := ⟨by kernel_rfl⟩
instance : CT Try.prog 44 none := ⟨by kernel_rfl⟩
instance : SZ Try.prog 44 1 := ⟨by kernel_rfl⟩
instance : EL Try.prog 49 (none, 1) := ⟨by kernel_rfl⟩
instance : UN Try.prog 49 (.slice 5) := ⟨by kernel_rfl⟩
instance : CT Try.prog 51 none := ⟨by kernel_rfl⟩
instance : SZ Try.prog 51 1 := ⟨by kernel_rfl⟩
instance : CT Try.prog 54 none := ⟨by kernel_rfl⟩
instance : CT Try.prog 111 none := ⟨by kernel_rfl⟩
instance : SZ Try.prog 111 1 := ⟨by kernel_rfl⟩
instance : EL Try.prog 111 (none, 1) := ⟨by kernel_rfl⟩
instance : UN Try.prog 111 (.slice 116) := ⟨by kernel_rfl⟩
instance : BS Try.prog 111 116 1 (.pointer none) := .of (by kernel_rfl) (by kernel_rfl) (by kernel_rfl) (by kernel_rfl) (by kernel_rfl)
instance : AP Try.prog 111 111 116 1 8 := .of (inf := Try.t116) (z := .pointer none) (e₂ := 116) (by kernel_rfl) (by kernel_rfl) (by kernel_rfl) (by kernel_rfl) (by kernel_rfl) (by kernel_rfl) (by decide) (by kernel_rfl) (by kernel_rfl)
instance : SZ Try.prog 113 1 := ⟨by kernel_rfl⟩
instance : FO Try.prog 113 0 0 := ⟨by kernel_rfl⟩
instance : ST Try.prog 113 [.slice none 0 0] [(0, 1)] := .of (z := .agg #[.slice none 0 0]) (fs := (match Try.prog.underlying 113 with | some (.struct fs) => fs | _ => #[])) (by kernel_rfl) (by kernel_rfl) (by kernel_rfl) (by kernel_rfl) (by kernel_rfl)
instance : CT Try.prog 116 none := ⟨by kernel_rfl⟩
instance : SZ Try.prog 116 1 := ⟨by kernel_rfl⟩
instance : SZ Try.prog 119 5 := ⟨by kernel_rfl⟩
instance : FO Try.prog 119 0 0 := ⟨by kernel_rfl⟩
instance : FO Try.prog 119 1 1 := ⟨by kernel_rfl⟩
instance : FO Try.prog 119 2 2 := ⟨by kernel_rfl⟩
instance : FO Try.prog 119 3 3 := ⟨by kernel_rfl⟩
instance : FO Try.prog 119 4 4 := ⟨by kernel_rfl⟩
instance : ST Try.prog 119 [.nilFunc, .int .u8 0, .bool false, .bool false, .int .u64 0] [(0, 1), (1, 1), (2, 1), (3, 1), (4, 1)] := .of (z := .agg #[.nilFunc, .int .u8 0, .bool false, .bool false, .int .u64 0]) (fs := (match Try.prog.underlying 119 with | some (.struct fs) => fs | _ => #[])) (by kernel_rfl) (by kernel_rfl) (by kernel_rfl) (by kernel_rfl) (by kernel_rfl)
instance : IC Try.prog 5 3 .i64 := .of un5 un3
theorem noGlobals : Try.prog.globals.size = 0 := by kernel_rfl
end Go.Proofs.Ytacfneokhmnkbaa
namespace Go.Proofs.Ytacfneokhmnkbaa
set_option maxRecDepth 100000
attribute [local irreducible] Go GoR GoL
def ints (l : List Int) : List Value := l.map (.int .i64 ·)
section
variable {α : Type} {f : α → List Value} (hf : ∀ x, (f x).length = 2)
include hf
end
theorem ints_len (l : List Int) : (ints l).length = l.length := by simp [ints]
theorem ints_get {l : List Int} {i : Nat} (hi : i < l.length) : (ints l)[i]? = some (.int .i64 l[i]) := by simp [ints, hi]
theorem ints_snoc (l : List Int) (x : Int) : ints (l ++ [x]) = ints l ++ [.int .i64 x] := by simp [ints]
theorem Same.ownO {n : Nat} {a : Option Addr} {h₀ h h' : AHeap} (s : Same h₀ h) (k : Keeps (blk a) h h') (o : Own n a) (hn : h₀.n ≤ n) : Same h₀ h' := s.own k fun i hi => Nat.le_trans hn (o i hi)
theorem Keeps.trans {wr : List Nat} {a b c : AHeap} (h : Keeps wr a b) (k : Keeps wr b c) : Keeps wr a c := ⟨Nat.le_trans h.1 k.1, fun i hi hn => (k.2 i (by have := h.1; omega) hn).trans (h.2 i hi hn)⟩
theorem Keeps.rfl (wr : List Nat) (h : AHeap) : Keeps wr h h := ⟨Nat.le_refl _, fun _ _ _ => Eq.refl _⟩
theorem Keeps.put {wr : List Nat} {h h' : AHeap} (k : Keeps wr h h') {b : Nat} (hb : b ∈ wr) (o : Option AObj) : Keeps wr h (h'.put b o) := ⟨k.1, fun i hi hn => by rw [AHeap.get_put_ne _ _ (fun e => hn (by rw [← e]; exact hb))]; exact k.2 i hi hn⟩
end Go.Proofs.Ytacfneokhmnkbaa
namespace Go.Proofs.Ytacfneokhmnkbaa
set_option maxRecDepth 100000
attribute [local irreducible] Go GoR GoL
structure TK where
  p : Nat
  fn : Value
  is : Nat
  inn : Bool
  wk : Bool
  pk : Nat
abbrev TK.cs (t : TK) : List Value := [t.fn, .int .u8 t.is, .bool t.inn, .bool t.wk, .int .u64 t.pk]
def pcs (l : List TK) : List Value := l.map fun t => .pointer (some ⟨t.p, 0, none⟩)
theorem pcs_len (l : List TK) : (pcs l).length = l.length := by simp [pcs]
theorem pcs_get {l : List TK} {i : Nat} (hi : i < l.length) : (pcs l)[i]? = some (.pointer (some ⟨l[i].p, 0, none⟩)) := by simp [pcs, hi]
theorem pcs_snoc (l : List TK) (t : TK) : pcs (l ++ [t]) = pcs l ++ [.pointer (some ⟨t.p, 0, none⟩)] := by simp [pcs]
structure SI (n0 st : Nat) (l : List TK) (la : Option Addr) (lc : Nat) (H : AHeap) : Prop where
  sb : H.get st = some (.cells [.slice la l.length lc] 113)
  sv : Sv H 116 1 la l.length lc (pcs l)
  own : Own n0 la
  lt : n0 ≤ H.n
  st : st < n0
  tk : ∀ (i : Nat) (t : TK), l[i]? = some t → H.get t.p = some (.cells t.cs 119)
  ge : ∀ t ∈ l, n0 ≤ t.p ∧ t.p ∉ blk la
  ap : ∀ (i j : Nat) (t t' : TK), l[i]? = some t → l[j]? = some t' → t.p = t'.p → i = j
theorem SI.same {n0 st : Nat} {l : List TK} {la : Option Addr} {lc : Nat} {H H' : AHeap} (I : SI n0 st l la lc H) (s : Same H H') : SI n0 st l la lc H' := ⟨s.get I.sb, I.sv.same s, I.own, Nat.le_trans I.lt s.1, I.st, fun i t ht => s.get (I.tk i t ht), I.ge, I.ap⟩
theorem SI.keeps {n0 st : Nat} {l : List TK} {la : Option Addr} {lc : Nat} {wr : List Nat} {H H' : AHeap} (I : SI n0 st l la lc H) (k : Keeps wr H H') (h1 : st ∉ wr) (h2 : ∀ i ∈ wr, i ∉ blk la) (h3 : ∀ t ∈ l, t.p ∉ wr) : SI n0 st l la lc H' := ⟨k.get I.sb h1, I.sv.keeps k (fun i hi hw => h2 i hw hi), I.own, Nat.le_trans I.lt k.1, I.st, fun i t ht => k.get (I.tk i t ht) (h3 t (List.mem_of_getElem? ht)), I.ge, I.ap⟩
theorem SI.set {n0 st : Nat} {l : List TK} {la : Option Addr} {lc : Nat} {H H' : AHeap} (I : SI n0 st l la lc H) {j : Nat} (hj : j < l.length) {t' : TK} {wr : List Nat} (k : Keeps (l[j].p :: wr) H H') (h1 : st ∉ wr) (h2 : ∀ i ∈ wr, i ∉ blk la) (h3 : ∀ t ∈ l, t.p ∉ wr) (hp : t'.p = l[j].p) (hg : H'.get t'.p = some (.cells t'.cs 119)) : SI n0 st (l.set j t') la lc H' := by
  have hm : l[j] ∈ l := List.getElem_mem hj
  have hge := I.ge _ hm
  have hst := I.st
  have hjs : l[j]? = some l[j] := List.getElem?_eq_getElem hj
  have e : pcs (l.set j t') = pcs l := by
    unfold pcs
    rw [List.map_set, hp]
    apply List.ext_getElem?
    intro i
    rw [List.getElem?_set]
    split
    · rename_i e; subst e
      simp [hj]
    · rfl
  refine ⟨?_, ?_, I.own, Nat.le_trans I.lt k.1, I.st, ?_, ?_, ?_⟩
  · rw [List.length_set]; exact k.get I.sb (by simp only [List.mem_cons, not_or]; exact ⟨by omega, h1⟩)
  · rw [e, List.length_set]; exact I.sv.keeps k (fun i hi hw => by
      rcases List.mem_cons.1 hw with rfl | hw
      · exact hge.2 hi
      · exact h2 i hw hi)
  · intro i t ht
    rw [List.getElem?_set] at ht
    split at ht
    · rename_i e; subst e
      simp only [hj, if_true, Option.some.injEq] at ht
      subst ht
      exact hg
    · rename_i hne
      refine k.get (I.tk i t ht) ?_
      simp only [List.mem_cons, not_or]
      exact ⟨fun e => hne (I.ap _ _ _ _ ht hjs e).symm, h3 t (List.mem_of_getElem? ht)⟩
  · intro t ht
    rcases List.mem_or_eq_of_mem_set ht with ht | rfl
    · exact I.ge t ht
    · rw [hp]; exact hge
  · have h : ∀ (i : Nat) (t : TK), (l.set j t')[i]? = some t → ∃ u, l[i]? = some u ∧ u.p = t.p := by
      intro i t ht
      rw [List.getElem?_set] at ht
      split at ht
      · rename_i e; subst e
        simp only [hj, if_true, Option.some.injEq] at ht
        subst ht
        exact ⟨_, hjs, hp.symm⟩
      · exact ⟨t, ht, rfl⟩
    intro i j' t u ht hu e
    obtain ⟨a, ha, ea⟩ := h i t ht
    obtain ⟨b, hb, eb⟩ := h j' u hu
    exact I.ap _ _ _ _ ha hb (by rw [ea, eb, e])
theorem SI.snoc {n0 st : Nat} {l : List TK} {la la' : Option Addr} {lc lc' : Nat} {H H' : AHeap} (I : SI n0 st l la lc H) {t' : TK} (k : Keeps (st :: blk la) H H') (hb : H'.get st = some (.cells [.slice la' (l.length + 1) lc'] 113)) (hs : Sv H' 116 1 la' (l.length + 1) lc' (pcs l ++ [.pointer (some ⟨t'.p, 0, none⟩)])) (hn : H.n ≤ t'.p) (hg : H'.get t'.p = some (.cells t'.cs 119)) (ho : ∀ i ∈ blk la', i ∈ blk la ∨ H.n ≤ i) (hno : t'.p ∉ blk la') : SI n0 st (l ++ [t']) la' lc' H' := by
  have hlt := I.lt
  have hst := I.st
  have hsl := I.sv.lt
  refine ⟨?_, ?_, ?_, Nat.le_trans I.lt k.1, I.st, ?_, ?_, ?_⟩
  · rw [List.length_append]; exact hb
  · rw [pcs_snoc, List.length_append]; exact hs
  · intro i hi
    rcases ho i hi with h | h
    · exact I.own i h
    · omega
  · intro i t ht
    rcases Nat.lt_or_ge i l.length with q | q
    · rw [List.getElem?_append_left q] at ht
      have hm := List.mem_of_getElem? ht
      have hge := I.ge t hm
      refine k.get (I.tk i t ht) ?_
      simp only [List.mem_cons, not_or]
      exact ⟨by omega, hge.2⟩
    · rw [List.getElem?_append_right q] at ht
      obtain rfl : t' = t := by
        cases hq : i - l.length with
        | zero => rw [hq] at ht; simpa using ht
        | succ n => rw [hq] at ht; simp at ht
      exact hg
  · intro t ht
    rcases List.mem_append.1 ht with ht | ht
    · have hge := I.ge t ht
      obtain ⟨i, hi, hit⟩ := List.mem_iff_getElem.1 ht
      have hl := AHeap.lt (I.tk i t (by rw [List.getElem?_eq_getElem hi, hit]))
      refine ⟨hge.1, fun h => ?_⟩
      rcases ho _ h with h | h
      · exact hge.2 h
      · omega
    · obtain rfl := List.mem_singleton.1 ht
      exact ⟨by omega, hno⟩
  · have h1 : ∀ (i : Nat) (t : TK), (l ++ [t'])[i]? = some t → (i < l.length ∧ l[i]? = some t ∧ t.p < H.n) ∨ (i = l.length ∧ t = t') := by
      intro i t ht
      rcases Nat.lt_or_ge i l.length with q | q
      · rw [List.getElem?_append_left q] at ht
        exact .inl ⟨q, ht, AHeap.lt (I.tk i t ht)⟩
      · rw [List.getElem?_append_right q] at ht
        cases hq : i - l.length with
        | zero => rw [hq] at ht; exact .inr ⟨by omega, by simpa using ht.symm⟩
        | succ n => rw [hq] at ht; simp at ht
    intro i j t u ht hu e
    rcases h1 i t ht with ⟨a1, a2, a3⟩ | ⟨a1, rfl⟩ <;> rcases h1 j u hu with ⟨b1, b2, b3⟩ | ⟨b1, rfl⟩
    · exact I.ap _ _ _ _ a2 b2 e
    · omega
    · omega
    · omega
def idx (p : TK → Bool) : List TK → Nat → List Int
  | [], _ => []
  | t :: l, i => (if p t = true then [(i : Int)] else []) ++ idx p l (i + 1)
theorem idx_snoc (p : TK → Bool) (t : TK) : ∀ (l : List TK) (i : Nat), idx p (l ++ [t]) i = idx p l i ++ (if p t = true then [((i + l.length : Nat) : Int)] else [])
  | [], i => by simp [idx]
  | a :: l, i => by
    simp only [List.cons_append, idx, idx_snoc p t l (i + 1), List.append_assoc, List.length_cons]
    rw [show i + 1 + l.length = i + (l.length + 1) from by omega]
theorem idx_mem {p : TK → Bool} : ∀ {l : List TK} {i : Nat} {x : Int}, x ∈ idx p l i → ∃ j, x = ((i + j : Nat) : Int) ∧ ∃ h : j < l.length, p l[j] = true
  | [], i, x, h => by simp [idx] at h
  | a :: l, i, x, h => by
    simp only [idx, List.mem_append] at h
    rcases h with h | h
    · split at h
      · rename_i hp
        exact ⟨0, by simpa using h, by simp, hp⟩
      · simp at h
    · obtain ⟨j, e, h1, h2⟩ := idx_mem h
      exact ⟨j + 1, by rw [e]; omega, by simp only [List.length_cons]; omega, h2⟩
theorem mem_idx {p : TK → Bool} : ∀ {l : List TK} {i j : Nat} (h : j < l.length), p l[j] = true → ((i + j : Nat) : Int) ∈ idx p l i
  | a :: l, i, 0, h, hp => by simp only [List.getElem_cons_zero] at hp; simp [idx, hp]
  | a :: l, i, j + 1, h, hp => by
    simp only [idx, List.mem_append]
    have := mem_idx (i := i + 1) (j := j) (by simpa using h) (by simpa using hp)
    exact .inr (by rw [show i + (j + 1) = i + 1 + j from by omega]; exact this)
theorem idx_le (p : TK → Bool) : ∀ (l : List TK) (i : Nat), (idx p l i).length ≤ l.length
  | [], i => by simp [idx]
  | a :: l, i => by
    have := idx_le p l (i + 1)
    simp only [idx, List.length_append, List.length_cons]
    split <;> simp <;> omega
theorem aEq_some {P : Program} {h : AHeap} {t e : TypeId} (hu : P.underlying t = some (.pointer e)) (a : Addr) : aEq P h t (.pointer (some a)) (.pointer none) = some (false, []) := by
  unfold aEq
  rw [hu]
theorem schedU : Try.prog.underlying 31 = some (.pointer 113) := by kernel_rfl
theorem oneU : Try.prog.underlying 116 = some (.pointer 119) := by kernel_rfl
def runB (t : TK) : Bool := decide (t.is = 1) && !t.inn
def waitB (t : TK) : Bool := decide (t.is = 2)
theorem run1_spec (t : TK) (h : AHeap) (g : h.get t.p = some (.cells t.cs 119)) : CallS Try.prog [] 69 [.pointer (some ⟨t.p, 0, none⟩)] h fun v h' => v = .bool (runB t) ∧ h' = h := by
  unfold TK.cs at g
  (refine CallS.of1 Try.func69 rfl Try.ntmps69 Try.results69 rfl ?_)
  by_cases c1 : t.is = 1
  · have c1' : (t.is : Int) = 1 := by omega
    (refine Go.run (g:=?_))
    (first|refine Go.finT (by first|exact .inr rfl|exact .inl rfl) rfl ?_|refine Go.fin1 (by first|exact .inr rfl|exact .inl rfl) rfl (hq:=?_))
    exact ⟨by simp [retV, runB, c1, c1'], rfl⟩
  · have c1' : ¬ (t.is : Int) = 1 := by omega
    (refine Go.run (g:=?_))
    (first|refine Go.finT (by first|exact .inr rfl|exact .inl rfl) rfl ?_|refine Go.fin1 (by first|exact .inr rfl|exact .inl rfl) rfl (hq:=?_))
    exact ⟨by simp [retV, runB, c1, c1'], rfl⟩
theorem wait1_spec (t : TK) (h : AHeap) (g : h.get t.p = some (.cells t.cs 119)) : CallS Try.prog [] 70 [.pointer (some ⟨t.p, 0, none⟩)] h fun v h' => v = .bool (waitB t) ∧ h' = h := by
  unfold TK.cs at g
  (refine CallS.of1 Try.func70 rfl Try.ntmps70 Try.results70 rfl ?_)
  by_cases c1 : t.is = 2
  · have c1' : (t.is : Int) = 2 := by omega
    (refine Go.run (g:=?_))
    (first|refine Go.finT (by first|exact .inr rfl|exact .inl rfl) rfl ?_|refine Go.fin1 (by first|exact .inr rfl|exact .inl rfl) rfl (hq:=?_))
    exact ⟨by simp [retV, waitB, c1, c1'], rfl⟩
  · have c1' : ¬ (t.is : Int) = 2 := by omega
    (refine Go.run (g:=?_))
    (first|refine Go.finT (by first|exact .inr rfl|exact .inl rfl) rfl ?_|refine Go.fin1 (by first|exact .inr rfl|exact .inl rfl) rfl (hq:=?_))
    exact ⟨by simp [retV, waitB, c1, c1'], rfl⟩
theorem take_snoc' {α : Type} {l : List α} {i : Nat} (hi : i < l.length) : l.take (i + 1) = l.take i ++ [l[i]] := by rw [List.take_add_one, List.getElem?_eq_getElem hi]; rfl
set_option maxHeartbeats 2000000 in
theorem thoseR_spec (n0 st : Nat) (l : List TK) (hl : l.length ≤ 1000000) (la : Option Addr) (lc : Nat) (h : AHeap) (I : SI n0 st l la lc h) : CallS Try.prog [] 68 [.pointer (some ⟨st, 0, none⟩), .func (.func 69) #[] #[]] h fun v h' => ∃ b c, v = .slice b (idx runB l 0).length c ∧ Sv h' 3 1 b (idx runB l 0).length c (ints (idx runB l 0)) ∧ Own h.n b := by
  have gb := I.sb
  obtain ⟨pp, hpp⟩ : ∃ pp, pp = runB := ⟨_, rfl⟩
  have cl_spec := run1_spec
  rw [← hpp] at cl_spec ⊢
  clear hpp
  (refine CallS.of2 Try.func68 rfl Try.ntmps68 Try.results68 rfl ?_)
  (refine Go.run (g:=?_))
  refine GoR.eqRef rfl rfl rfl rfl (.inl rfl) rfl rfl (aEq_some schedU _) ?_
  (refine Go.run (g:=?_))
  refine Go.loop (α := Nat × Option Addr × Nat × AHeap) (fun x => [(15, .int .i64 x.1), (14, .int .i64 l.length), (13, .slice la l.length lc), (5, .slice x.2.1 (idx pp (l.take x.1) 0).length x.2.2.1), (1, .func (.func 69) #[] #[]), (0, .pointer (some ⟨st, 0, none⟩))]) (fun _ => []) (fun x => x.2.2.2) (fun x => x.1 ≤ l.length ∧ Same h x.2.2.2 ∧ Sv x.2.2.2 3 1 x.2.1 (idx pp (l.take x.1) 0).length x.2.2.1 (ints (idx pp (l.take x.1) 0)) ∧ Own h.n x.2.1) (fun x => l.length - x.1) (0, none, 0, h) ?_ ?_ rfl rfl ?_
  · exact ⟨Nat.zero_le _, Same.refl _, .nil, Own.nil _⟩
  · exact ⟨rfl, rfl, rfl, rfl, rfl, rfl, trivial⟩
  rintro ⟨i, b, c, h2⟩ ⟨hi, s2, hb, ob⟩
  simp only at hi s2 hb ob ⊢
  have m2 := s2.1
  have I2 := I.same s2
  have gb2 := I2.sb
  have hz2 := I2.sv.rv (P := Try.prog)
  rcases Nat.lt_or_ge i l.length with i0 | i0
  · have c0 := pcs_get i0
    have hbe : i < (pcs l).length := by rw [pcs_len]; exact i0
    have hti : l[i]? = some l[i] := List.getElem?_eq_getElem i0
    have e1 : idx pp (l.take (i + 1)) 0 = idx pp (l.take i) 0 ++ (if pp l[i] = true then [(i : Int)] else []) := by
      rw [take_snoc' i0, idx_snoc, List.length_take, Nat.min_eq_left (by omega), Nat.zero_add]
    have hfl : (idx pp (l.take i) 0).length ≤ i := Nat.le_trans (idx_le _ _ _) (by simp; omega)
    generalize l[i] = t at *
    generalize idx pp (l.take i) 0 = out at *
    have gt := I2.tk i t hti
    (refine Go.run (g:=?_))
    refine GoR.call rfl rfl rfl rfl rfl rfl rfl (((cl_spec t _ gt).argA).mono ?_)
    rintro _ h3 ⟨rfl, rfl⟩ s3
    cases hp : pp t
    · rw [hp] at e1
      simp only [Bool.false_eq_true, if_false, List.append_nil] at e1
      (refine Go.run (g:=?_))
      exact Go.again (i + 1, b, c, h3) ⟨by simp only; omega, s2, by simp only; rw [e1]; exact hb, ob⟩ (by simp only; omega) ⟨rfl, rfl, rfl, by simp only; rw [e1]; rfl, rfl, rfl, trivial⟩ rfl rfl
    · rw [hp] at e1
      simp only [if_true] at e1
      (refine Go.run (g:=?_))
      refine GoR.buildRo (c := [.int .i64 i]) rfl rfl rfl rfl rfl (by decide) (by rfl) (by rfl) ?_
      intro b8 h8 hb8 rb8 ob8 s8 n8
      refine GoR.appendV rfl rfl rfl rfl rfl rfl (hb.same s8) hb8 (Own.ok ob (by omega)) (by omega) (by omega) (by rfl) ?_
      intro b9 c9 h9 hs9 k9 o9
      have m9 := k9.1
      have hs9' : Sv h9 3 1 b9 (out ++ [(i : Int)]).length c9 (ints (out ++ [(i : Int)])) := by rw [ints_snoc, List.length_append]; exact hs9
      (refine Go.run (g:=?_))
      refine Go.again (i + 1, b9, c9, h9) ⟨by simp only; omega, (s2.trans s8).ownO k9 ob (Nat.le_refl _), by simp only; rw [e1]; exact hs9', ?_⟩ (by simp only; omega) ⟨rfl, rfl, rfl, by simp only; rw [e1, List.length_append]; rfl, rfl, rfl, trivial⟩ rfl rfl
      intro j hj
      rcases o9 j hj with x | x
      · exact ob j x
      · omega
  · (refine Go.run (g:=?_))
    (first|refine Go.finT (by first|exact .inr rfl|exact .inl rfl) rfl ?_|refine Go.fin1 (by first|exact .inr rfl|exact .inl rfl) rfl (hq:=?_))
    rw [List.take_of_length_le i0] at hb
    exact ⟨b, c, by simp only [List.take_of_length_le i0]; rfl, hb, ob⟩
set_option maxHeartbeats 2000000 in
theorem thoseW_spec (n0 st : Nat) (l : List TK) (hl : l.length ≤ 1000000) (la : Option Addr) (lc : Nat) (h : AHeap) (I : SI n0 st l la lc h) : CallS Try.prog [] 68 [.pointer (some ⟨st, 0, none⟩), .func (.func 70) #[] #[]] h fun v h' => ∃ b c, v = .slice b (idx waitB l 0).length c ∧ Sv h' 3 1 b (idx waitB l 0).length c (ints (idx waitB l 0)) ∧ Own h.n b := by
  have gb := I.sb
  obtain ⟨pp, hpp⟩ : ∃ pp, pp = waitB := ⟨_, rfl⟩
  have cl_spec := wait1_spec
  rw [← hpp] at cl_spec ⊢
  clear hpp
  (refine CallS.of2 Try.func68 rfl Try.ntmps68 Try.results68 rfl ?_)
  (refine Go.run (g:=?_))
  refine GoR.eqRef rfl rfl rfl rfl (.inl rfl) rfl rfl (aEq_some schedU _) ?_
  (refine Go.run (g:=?_))
  refine Go.loop (α := Nat × Option Addr × Nat × AHeap) (fun x => [(15, .int .i64 x.1), (14, .int .i64 l.length), (13, .slice la l.length lc), (5, .slice x.2.1 (idx pp (l.take x.1) 0).length x.2.2.1), (1, .func (.func 70) #[] #[]), (0, .pointer (some ⟨st, 0, none⟩))]) (fun _ => []) (fun x => x.2.2.2) (fun x => x.1 ≤ l.length ∧ Same h x.2.2.2 ∧ Sv x.2.2.2 3 1 x.2.1 (idx pp (l.take x.1) 0).length x.2.2.1 (ints (idx pp (l.take x.1) 0)) ∧ Own h.n x.2.1) (fun x => l.length - x.1) (0, none, 0, h) ?_ ?_ rfl rfl ?_
  · exact ⟨Nat.zero_le _, Same.refl _, .nil, Own.nil _⟩
  · exact ⟨rfl, rfl, rfl, rfl, rfl, rfl, trivial⟩
  rintro ⟨i, b, c, h2⟩ ⟨hi, s2, hb, ob⟩
  simp only at hi s2 hb ob ⊢
  have m2 := s2.1
  have I2 := I.same s2
  have gb2 := I2.sb
  have hz2 := I2.sv.rv (P := Try.prog)
  rcases Nat.lt_or_ge i l.length with i0 | i0
  · have c0 := pcs_get i0
    have hbe : i < (pcs l).length := by rw [pcs_len]; exact i0
    have hti : l[i]? = some l[i] := List.getElem?_eq_getElem i0
    have e1 : idx pp (l.take (i + 1)) 0 = idx pp (l.take i) 0 ++ (if pp l[i] = true then [(i : Int)] else []) := by
      rw [take_snoc' i0, idx_snoc, List.length_take, Nat.min_eq_left (by omega), Nat.zero_add]
    have hfl : (idx pp (l.take i) 0).length ≤ i := Nat.le_trans (idx_le _ _ _) (by simp; omega)
    generalize l[i] = t at *
    generalize idx pp (l.take i) 0 = out at *
    have gt := I2.tk i t hti
    (refine Go.run (g:=?_))
    refine GoR.call rfl rfl rfl rfl rfl rfl rfl (((cl_spec t _ gt).argA).mono ?_)
    rintro _ h3 ⟨rfl, rfl⟩ s3
    cases hp : pp t
    · rw [hp] at e1
      simp only [Bool.false_eq_true, if_false, List.append_nil] at e1
      (refine Go.run (g:=?_))
      exact Go.again (i + 1, b, c, h3) ⟨by simp only; omega, s2, by simp only; rw [e1]; exact hb, ob⟩ (by simp only; omega) ⟨rfl, rfl, rfl, by simp only; rw [e1]; rfl, rfl, rfl, trivial⟩ rfl rfl
    · rw [hp] at e1
      simp only [if_true] at e1
      (refine Go.run (g:=?_))
      refine GoR.buildRo (c := [.int .i64 i]) rfl rfl rfl rfl rfl (by decide) (by rfl) (by rfl) ?_
      intro b8 h8 hb8 rb8 ob8 s8 n8
      refine GoR.appendV rfl rfl rfl rfl rfl rfl (hb.same s8) hb8 (Own.ok ob (by omega)) (by omega) (by omega) (by rfl) ?_
      intro b9 c9 h9 hs9 k9 o9
      have m9 := k9.1
      have hs9' : Sv h9 3 1 b9 (out ++ [(i : Int)]).length c9 (ints (out ++ [(i : Int)])) := by rw [ints_snoc, List.length_append]; exact hs9
      (refine Go.run (g:=?_))
      refine Go.again (i + 1, b9, c9, h9) ⟨by simp only; omega, (s2.trans s8).ownO k9 ob (Nat.le_refl _), by simp only; rw [e1]; exact hs9', ?_⟩ (by simp only; omega) ⟨rfl, rfl, rfl, by simp only; rw [e1, List.length_append]; rfl, rfl, rfl, trivial⟩ rfl rfl
      intro j hj
      rcases o9 j hj with x | x
      · exact ob j x
      · omega
  · (refine Go.run (g:=?_))
    (first|refine Go.finT (by first|exact .inr rfl|exact .inl rfl) rfl ?_|refine Go.fin1 (by first|exact .inr rfl|exact .inl rfl) rfl (hq:=?_))
    rw [List.take_of_length_le i0] at hb
    exact ⟨b, c, by simp only [List.take_of_length_le i0]; rfl, hb, ob⟩
theorem runnable_spec (n0 st : Nat) (l : List TK) (hl : l.length ≤ 1000000) (la : Option Addr) (lc : Nat) (h : AHeap) (I : SI n0 st l la lc h) : CallS Try.prog [] 20 [.pointer (some ⟨st, 0, none⟩)] h fun v h' => ∃ b c, v = .slice b (idx runB l 0).length c ∧ Sv h' 3 1 b (idx runB l 0).length c (ints (idx runB l 0)) ∧ Own h.n b := by
  (refine CallS.of1 Try.func20 rfl Try.ntmps20 Try.results20 rfl ?_)
  (refine Go.run (g:=?_))
  refine GoR.call rfl rfl rfl rfl rfl rfl rfl (((thoseR_spec n0 st l hl la lc _ I).argA).mono ?_)
  rintro _ h3 ⟨b, c, rfl, hs, ob⟩ s3
  (refine Go.run (g:=?_))
  (first|refine Go.finT (by first|exact .inr rfl|exact .inl rfl) rfl ?_|refine Go.fin1 (by first|exact .inr rfl|exact .inl rfl) rfl (hq:=?_))
  exact ⟨b, c, rfl, hs, ob⟩
theorem waiting_spec (n0 st : Nat) (l : List TK) (hl : l.length ≤ 1000000) (la : Option Addr) (lc : Nat) (h : AHeap) (I : SI n0 st l la lc h) : CallS Try.prog [] 22 [.pointer (some ⟨st, 0, none⟩)] h fun v h' => ∃ b c, v = .slice b (idx waitB l 0).length c ∧ Sv h' 3 1 b (idx waitB l 0).length c (ints (idx waitB l 0)) ∧ Own h.n b := by
  (refine CallS.of1 Try.func22 rfl Try.ntmps22 Try.results22 rfl ?_)
  (refine Go.run (g:=?_))
  refine GoR.call rfl rfl rfl rfl rfl rfl rfl (((thoseW_spec n0 st l hl la lc _ I).argA).mono ?_)
  rintro _ h3 ⟨b, c, rfl, hs, ob⟩ s3
  (refine Go.run (g:=?_))
  (first|refine Go.finT (by first|exact .inr rfl|exact .inl rfl) rfl ?_|refine Go.fin1 (by first|exact .inr rfl|exact .inl rfl) rfl (hq:=?_))
  exact ⟨b, c, rfl, hs, ob⟩
theorem find_in (n0 st : Nat) (l : List TK) (hl : l.length ≤ 1000000) (la : Option Addr) (lc : Nat) (h : AHeap) (I : SI n0 st l la lc h) (n : Nat) (hn : n < l.length) : CallS Try.prog [] 67 [.pointer (some ⟨st, 0, none⟩), .int .i64 n] h fun v h' => v = .pointer (some ⟨l[n].p, 0, none⟩) ∧ h' = h := by
  have gb := I.sb
  have hz2 := I.sv.rv (P := Try.prog)
  have c0 := pcs_get hn
  have hbe : n < (pcs l).length := by rw [pcs_len]; exact hn
  (refine CallS.of2 Try.func67 rfl Try.ntmps67 Try.results67 rfl ?_)
  have n1 : ¬ (n : Int) < 0 := by omega
  have n2 : ¬ (l.length : Int) ≤ n := by omega
  (refine Go.run (g:=?_))
  refine GoR.eqRef rfl rfl rfl rfl (.inl rfl) rfl rfl (aEq_some schedU _) ?_
  (refine Go.run (g:=?_))
  (first|refine Go.finT (by first|exact .inr rfl|exact .inl rfl) rfl ?_|refine Go.fin1 (by first|exact .inr rfl|exact .inl rfl) rfl (hq:=?_))
  exact ⟨rfl, rfl⟩
theorem done_in (n0 st : Nat) (l : List TK) (hl : l.length ≤ 1000000) (la : Option Addr) (lc : Nat) (h : AHeap) (I : SI n0 st l la lc h) (n : Nat) (hn : n < l.length) : CallS Try.prog [] 24 [.pointer (some ⟨st, 0, none⟩), .int .i64 n] h fun v h' => v = .bool (decide (l[n].is = 3)) ∧ h' = h := by
  (refine CallS.of2 Try.func24 rfl Try.ntmps24 Try.results24 rfl ?_)
  (refine Go.run (g:=?_))
  refine GoR.call rfl rfl rfl rfl rfl rfl rfl (((find_in n0 st l hl la lc _ I n hn).argA).mono ?_)
  rintro _ h3 ⟨rfl, rfl⟩ -
  have gt := I.tk n _ (List.getElem?_eq_getElem hn)
  generalize l[n] = t at *
  unfold TK.cs at gt
  (refine Go.run (g:=?_))
  refine GoR.eqRef rfl rfl rfl rfl (.inr rfl) rfl rfl (aEq_some oneU _) ?_
  by_cases c1 : t.is = 3
  · have c1' : (t.is : Int) = 3 := by omega
    (refine Go.run (g:=?_))
    (first|refine Go.finT (by first|exact .inr rfl|exact .inl rfl) rfl ?_|refine Go.fin1 (by first|exact .inr rfl|exact .inl rfl) rfl (hq:=?_))
    exact ⟨by simp [retV, c1, c1'], rfl⟩
  · have c1' : ¬ (t.is : Int) = 3 := by omega
    (refine Go.run (g:=?_))
    (first|refine Go.finT (by first|exact .inr rfl|exact .inl rfl) rfl ?_|refine Go.fin1 (by first|exact .inr rfl|exact .inl rfl) rfl (hq:=?_))
    exact ⟨by simp [retV, c1, c1'], rfl⟩
set_option maxHeartbeats 2000000 in
theorem spawn_spec (n0 st : Nat) (l : List TK) (hl : l.length ≤ 1000000) (la : Option Addr) (lc : Nat) (h : AHeap) (I : SI n0 st l la lc h) (F : FuncId) (cp : Array Value) : CallS Try.prog (st :: blk la) 26 [.pointer (some ⟨st, 0, none⟩), .func (.func F) #[] cp] h fun v h' => v = .int .i64 l.length ∧ ∃ la' lc' p, SI n0 st (l ++ [⟨p, .func (.func F) #[] cp, 1, false, false, 0⟩]) la' lc' h' ∧ h.n ≤ p ∧ (∀ i ∈ blk la', i ∈ blk la ∨ h.n ≤ i) := by
  have gb := I.sb
  have hlt := I.lt
  have hst := I.st
  have hsl := I.sv.lt
  (refine CallS.of2 Try.func26 rfl Try.ntmps26 Try.results26 rfl ?_)
  (refine Go.run (g:=?_))
  refine GoR.eqRef rfl rfl rfl rfl (.inl rfl) rfl rfl (aEq_some schedU _) ?_
  (refine Go.run (g:=?_))
  refine GoR.name ?_
  intro h3 e3
  have g3 : h3.get h.n = some (.cells [.func (.func F) #[] cp, .int .u8 1, .bool false, .bool false, .int .u64 0] 119) := by subst e3; exact AHeap.get_push_same h _
  have s3 : Same h h3 := by subst e3; exact (Same.refl h).push _
  have n3 : h3.n = h.n + 1 := by subst e3; rfl
  clear e3
  refine GoR.buildRo (c := [.pointer (some ⟨h.n, 0, none⟩)]) rfl rfl rfl rfl rfl (by decide) (by rfl) (by rfl) ?_
  intro b8 h8 hb8 rb8 ob8 s8 n8
  have I8 := I.same (s3.trans s8)
  refine GoR.appendV rfl rfl rfl rfl rfl rfl I8.sv hb8 (fun i hi => .inl (List.mem_cons_of_mem _ hi)) (by omega) (by omega) (by rfl) ?_
  intro b9 c9 h9 hs9 k9 o9
  have m9 := k9.1
  have stl : st ∉ blk la := fun hi => by have := I.own _ hi; omega
  have gs9 := k9.get I8.sb stl
  have gn9 := k9.get (s8.get g3) (fun hi => by have := hsl _ hi; omega)
  have hno : h.n ∉ blk b9 := fun hi => by
    rcases o9 _ hi with x | x
    · have := hsl _ x; omega
    · omega
  (iterate 2 (first|refine GoR.end ?_|(refine GoR.gd rfl ?_;first|refine GoR.wanted' rfl rfl rfl rfl (g:=?_)|refine GoR.unwanted' rfl rfl rfl rfl (hd:=rfl) (hN:=rfl) (g:=?_)|refine GoR.unwantedU rfl rfl rfl rfl rfl rfl ?_)|(refine GoR.kk 0 rfl ?_;first|refine GoR.move rfl rfl rfl rfl rfl ?_|refine GoR.assign rfl rfl rfl rfl rfl ?_)|(refine GoR.kk 1 rfl ?_;first|refine GoR.load' rfl rfl rfl rfl rfl (g:=?_)|refine GoR.loadA' rfl rfl rfl rfl rfl (hv:=rfl) (g:=?_)|refine GoR.loadV' rfl rfl rfl rfl rfl (g:=?_)|refine GoR.loadVN' rfl rfl rfl rfl rfl (g:=?_))|(refine GoR.kk 2 rfl ?_;first|refine GoR.store' rfl rfl rfl rfl rfl (hl:=rfl) (h1:=rfl) (h3:=rfl) (g:=?_))|(refine GoR.kk 3 rfl ?_;first|refine GoR.fieldAddr rfl rfl rfl rfl rfl ?_|refine GoR.indexN' rfl rfl rfl rfl rfl rfl (g:=?_)|refine GoR.indexNs' rfl rfl rfl rfl rfl rfl (g:=?_)|refine GoR.indexV' rfl rfl rfl rfl rfl rfl (g:=?_)|refine GoR.indexA' rfl rfl rfl rfl rfl rfl (g:=?_)|refine GoR.fieldV' rfl rfl rfl rfl rfl (g:=?_))|(refine GoR.kk 4 rfl ?_;first|refine GoR.eq rfl rfl rfl rfl rfl rfl ?_|refine GoR.ne rfl rfl rfl rfl rfl rfl ?_|refine GoR.lt rfl rfl rfl rfl rfl rfl ?_|refine GoR.le rfl rfl rfl rfl rfl rfl ?_|refine GoR.gt rfl rfl rfl rfl rfl rfl ?_|refine GoR.ge rfl rfl rfl rfl rfl rfl ?_|refine GoR.addN' rfl rfl rfl rfl rfl rfl (g:=?_)|refine GoR.subN' rfl rfl rfl rfl rfl rfl (g:=?_)|refine GoR.add' rfl rfl rfl rfl rfl rfl (g:=?_)|refine GoR.sub' rfl rfl rfl rfl rfl rfl (g:=?_)|refine GoR.addM' rfl rfl rfl rfl rfl rfl (g:=?_)|refine GoR.subM' rfl rfl rfl rfl rfl rfl (g:=?_)|refine GoR.mulM' rfl rfl rfl rfl rfl rfl (g:=?_)|refine GoR.shrN rfl rfl rfl rfl rfl rfl rfl ?_|refine GoR.structEq rfl rfl rfl rfl rfl rfl (by rfl) (by rfl) ?_|refine GoR.structNe rfl rfl rfl rfl rfl rfl (by rfl) (by rfl) ?_|refine GoR.strEq rfl rfl rfl rfl rfl rfl ?_|refine GoR.strNe rfl rfl rfl rfl rfl rfl ?_|refine GoR.remN' rfl rfl rfl rfl rfl rfl (g:=?_)|refine GoR.quoN' rfl rfl rfl rfl rfl rfl (g:=?_)|refine GoR.shlN' rfl rfl rfl rfl rfl rfl rfl (g:=?_)|refine GoR.orN' rfl rfl rfl rfl rfl rfl (g:=?_))|(refine GoR.kk 5 rfl ?_;first|refine GoR.len rfl rfl rfl rfl rfl ?_|refine GoR.lenStr rfl rfl rfl rfl rfl ?_|refine GoR.capB rfl rfl rfl rfl rfl ?_)|(refine GoR.kk 7 rfl ?_;first|refine GoR.pickE' rfl rfl rfl rfl rfl (hx:=rfl) (hy:=rfl) (g:=?_)|refine GoR.pickN' rfl rfl rfl rfl rfl (hx:=rfl) (hy:=rfl) (g:=?_)|refine GoR.pickB rfl rfl rfl rfl rfl rfl rfl ?_)|(refine GoR.kk 8 rfl ?_;first|refine GoR.boxA rfl rfl rfl rfl rfl ?_|refine GoR.boxS rfl rfl rfl rfl rfl rfl ?_|refine GoR.alloc rfl rfl rfl rfl ?_)|(refine GoR.kk 9 rfl ?_;first|refine GoR.strV' rfl rfl rfl rfl rfl (g:=?_)|refine GoR.conv_u8 rfl rfl rfl rfl rfl ?_|refine GoR.convW' rfl rfl rfl rfl rfl (g:=?_)|refine GoR.conv_u16 rfl rfl rfl rfl rfl ?_|refine GoR.conv_u32 rfl rfl rfl rfl rfl ?_)|(refine GoR.kk 10 rfl ?_;first|refine GoR.build' rfl rfl rfl rfl rfl rfl (g:=?_))|(refine GoR.kk 11 rfl ?_;first|refine GoR.extract rfl rfl rfl rfl rfl rfl ?_|refine GoR.not rfl rfl rfl rfl rfl ?_|refine GoR.nilCheck rfl rfl rfl rfl rfl ?_|refine GoR.nilCheckF rfl rfl rfl rfl rfl ?_|refine GoR.makeFunc rfl rfl rfl rfl rfl rfl ?_)|(refine Go.kk 0 rfl ?_;refine Go.seq ?_)|(refine Go.kk 1 rfl ?_;refine Go.region (by kernel_rfl) rfl ?_)|(refine Go.kk 2 rfl ?_;refine Go.drawnQ rfl (by kernel_rfl) rfl ?_)|(refine Go.kk 3 rfl ?_;first|refine Go.cond_t' rfl (g:=?_)|refine Go.cond_f' rfl (g:=?_))|(refine Go.kk 4 rfl ?_;refine Go.block ?_)|(refine Go.kk 5 rfl ?_;first|refine Go.skip ?_|refine Go.ret ?_|refine Go.exit ?_|refine Go.scope ?_)|refine Go.leave_normal ?_|refine Go.leave_same ?_|refine Go.leave_ret ?_|refine Go.ret_code ?_|refine Go.exit_code ?_|refine Go.leave_other rfl ?_|refine Go.sc_normal ?_|refine Go.sc_ret ?_|refine Go.sc_exit ?_|refine Go.exit_back ?_|refine Go.ret_back ?_))
  refine GoR.store (off := 0) (n := 1) (v := .slice b9 (l.length + 1) c9) (l := [.slice b9 (l.length + 1) c9]) rfl rfl rfl rfl rfl gs9 rfl rfl (Nat.le_refl _) rfl rfl (.inl (by simp)) ?_
  refine GoR.name ?_
  intro h12 e12
  have k12 : Keeps [st] h9 h12 := by subst e12; exact (Keeps.rfl _ _).put (by simp) _
  have g12 : h12.get st = some (.cells [.slice b9 (l.length + 1) c9] 113) := by subst e12; exact AHeap.get_put_same _ (AHeap.lt gs9) _
  clear e12
  have n12 := k12.1
  (refine Go.run (g:=?_))
  (first|refine Go.finT (by first|exact .inr rfl|exact .inl rfl) rfl ?_|refine Go.fin1 (by first|exact .inr rfl|exact .inl rfl) rfl (hq:=?_))
  have ho : ∀ i ∈ blk b9, i ∈ blk la ∨ h.n ≤ i := fun i hi => by
    rcases o9 i hi with x | x
    · exact .inl x
    · exact .inr (by omega)
  have sb9 : st ∉ blk b9 := fun hi => by
    rcases o9 _ hi with x | x
    · exact stl x
    · omega
  have S8 := s3.trans s8
  have K : Keeps (st :: blk la) h h12 := ⟨by omega, fun i hi hn => by
    simp only [List.mem_cons, not_or] at hn
    rw [k12.2 i (by omega) (by simp only [List.mem_singleton]; exact hn.1), k9.2 i (by omega) hn.2, S8.2 i hi]⟩
  refine ⟨by simp [retV], b9, c9, h.n, ?_, Nat.le_refl _, ho⟩
  refine I.snoc K g12 (hs9.keeps k12 (fun i hi hm => ?_)) (Nat.le_refl _) (k12.get gn9 ?_) ho hno
  · simp only [List.mem_singleton] at hm
    subst hm
    exact sb9 hi
  · simp only [List.mem_singleton]
    omega
theorem iRem_int {k : IntKind} {x : Int} {y : Nat} (hy : 0 < y) : iBin .rem k x y = some (.int k (x.tmod y)) := by
  have h0 : ¬ ((y : Int) = 0) := by omega
  simp only [iBin, if_neg h0]
def pickN (n : Int) (L : Nat) : Nat := ((n.tmod L + L).tmod L).toNat
theorem tmod_bounds (n : Int) {L : Nat} (h : 0 < L) : -(L : Int) < n.tmod L ∧ n.tmod L < L := by
  constructor
  · have := Int.lt_tmod_of_pos n (b := (L : Int)) (by omega); omega
  · exact Int.tmod_lt_of_pos n (by omega)
theorem pickN_lt (n : Int) {L : Nat} (h : 0 < L) : pickN n L < L ∧ (n.tmod L + L).tmod L = (pickN n L : Int) := by
  obtain ⟨h1, h2⟩ := tmod_bounds n h
  have h3 := Int.tmod_lt_of_pos (n.tmod L + L) (b := L) (by omega)
  have h4 := Int.tmod_nonneg (a := n.tmod L + L) (L : Int) (by omega)
  unfold pickN
  omega
end Go.Proofs.Ytacfneokhmnkbaa
namespace Go.Proofs.Ytacfneokhmnkbaa
set_option maxRecDepth 100000
attribute [local irreducible] Go GoR GoL
theorem aEq_fn {P : Program} {h : AHeap} {t : TypeId} (hu : (match P.underlying t with | some (.func _ _ _) => true | _ => false) = true) (F : Fn) (ts cp : Array Value) : aEq P h t (.func F ts cp) .nilFunc = some (false, []) := by
  unfold aEq
  split at hu
  · rename_i e; rw [e]
  · cases hu
theorem stepU : (match Try.prog.underlying 54 with | some (.func _ _ _) => true | _ => false) = true := by kernel_rfl
def wakeT (t : TK) : TK := if t.inn = true then { t with wk := true } else if t.is = 2 then { t with is := 1 } else t
def wakeB (t : TK) : Bool := t.inn || decide (t.is = 2)
theorem set_same {l : List TK} {n : Nat} {t : TK} (h : l[n]? = some t) : l.set n t = l := by
  apply List.ext_getElem?
  intro i
  rw [List.getElem?_set]
  split
  · rename_i e; subst e
    rw [h]
    split
    · rfl
    · rename_i hn; rw [List.getElem?_eq_none (by omega)] at h; cases h
  · rfl
theorem wake_spec (n0 st : Nat) (l : List TK) (hl : l.length ≤ 1000000) (la : Option Addr) (lc : Nat) (h : AHeap) (I : SI n0 st l la lc h) (n : Nat) (t : TK) (hn : l[n]? = some t) : CallS Try.prog [t.p] 17 [.pointer (some ⟨st, 0, none⟩), .int .i64 n] h fun v h' => v = .bool (wakeB t) ∧ SI n0 st (l.set n (wakeT t)) la lc h' := by
  have hl1 : n < l.length := by
    rcases Nat.lt_or_ge n l.length with q | q
    · exact q
    · rw [List.getElem?_eq_none q] at hn; cases hn
  have gt := I.tk n t hn
  have fs := find_in n0 st l hl la lc h I n hl1
  have et : l[n] = t := by rw [List.getElem?_eq_getElem hl1] at hn; exact Option.some.inj hn
  rw [et] at fs
  have hst := I.st
  have hge := I.ge t (List.mem_of_getElem? hn)
  have SS : ∀ {H' : AHeap} {t' : TK}, Keeps [t.p] h H' → t'.p = t.p → H'.get t'.p = some (.cells t'.cs 119) → SI n0 st (l.set n t') la lc H' := fun {H' t'} k hp hg =>
    I.set hl1 (wr := []) (by rw [et]; exact k) (by simp) (fun i hi => by cases hi) (fun u hu hi => by cases hi) (by rw [et]; exact hp) hg
  unfold TK.cs at gt
  (refine CallS.of2 Try.func17 rfl Try.ntmps17 Try.results17 rfl ?_)
  (refine Go.run (g:=?_))
  refine GoR.call rfl rfl rfl rfl rfl rfl rfl (((fs).argA).mono ?_)
  rintro _ h3 ⟨rfl, rfl⟩ -
  (refine Go.run (g:=?_))
  refine GoR.eqRef rfl rfl rfl rfl (.inl rfl) rfl rfl (aEq_some oneU _) ?_
  (refine Go.run (g:=?_))
  rcases hin : t.inn with _ | _
  · by_cases c2 : t.is = 2
    · have c2' : (t.is : Int) = 2 := by omega
      (refine Go.run (g:=?_))
      refine Go.name ?_
      intro h4 e4
      have hS : SI n0 st (l.set n (wakeT t)) la lc h4 := SS (by subst e4; exact (Keeps.rfl _ _).put (by simp) _) (by simp [wakeT, hin, c2]) (by subst e4; simp only [wakeT, hin, c2, Bool.false_eq_true, if_false, if_true]; exact AHeap.get_put_same _ (AHeap.lt gt) _)
      clear e4
      (first|refine Go.finT (by first|exact .inr rfl|exact .inl rfl) rfl ?_|refine Go.fin1 (by first|exact .inr rfl|exact .inl rfl) rfl (hq:=?_))
      exact ⟨by simp [retV, wakeB, c2], hS⟩
    · have c2' : ¬ (t.is : Int) = 2 := by omega
      (refine Go.run (g:=?_))
      (first|refine Go.finT (by first|exact .inr rfl|exact .inl rfl) rfl ?_|refine Go.fin1 (by first|exact .inr rfl|exact .inl rfl) rfl (hq:=?_))
      refine ⟨by simp [retV, wakeB, hin, c2], ?_⟩
      rw [show wakeT t = t from by simp [wakeT, hin, c2], set_same hn]
      exact I
  · (refine Go.run (g:=?_))
    refine Go.name ?_
    intro h4 e4
    have hS : SI n0 st (l.set n (wakeT t)) la lc h4 := SS (by subst e4; exact (Keeps.rfl _ _).put (by simp) _) (by simp [wakeT, hin]) (by subst e4; simp only [wakeT, hin, if_true]; exact AHeap.get_put_same _ (AHeap.lt gt) _)
    clear e4
    (first|refine Go.finT (by first|exact .inr rfl|exact .inl rfl) rfl ?_|refine Go.fin1 (by first|exact .inr rfl|exact .inl rfl) rfl (hq:=?_))
    exact ⟨by simp [retV, wakeB, hin], hS⟩
def begun (t : TK) : TK := { t with inn := true, wk := false, pk := t.pk + 1 }
def ended (t : TK) (r : Nat) : TK := { t with inn := false, is := if r = 2 then (if t.wk = true then 1 else 2) else if r = 1 then 1 else 3 }
theorem ended_p (t : TK) (r : Nat) : (ended t r).p = t.p := rfl
set_option maxHeartbeats 8000000 in
theorem pick_gen (n0 st : Nat) (l : List TK) (hl : l.length ≤ 1000000) (la : Option Addr) (lc : Nat) (h : AHeap) (I : SI n0 st l la lc h) (hpk : ∀ t ∈ l, t.pk < 1000000000) (n : Int) (hn : -9223372036854775808 ≤ n ∧ n ≤ 9223372036854775807) (wr : List Nat) (Q : Nat → List TK → Option Addr → Nat → Nat → AHeap → Prop)
    (hstep : ∀ (j : Nat) (t : TK), l[j]? = some t → runB t = true → ∀ h5, SI n0 st (l.set j (begun t)) la lc h5 → Keeps [t.p] h h5 → ∃ (F : FuncId) (cp : Array Value), t.fn = .func (.func F) #[] cp ∧ calls Try.prog F = true ∧ CallS Try.prog wr F cp.toList h5 fun v h' => ∃ (r : Nat) (l2 : List TK) (la2 : Option Addr) (lc2 : Nat) (t2 : TK), v = .int .u8 r ∧ r < 256 ∧ l2[j]? = some t2 ∧ t2.p = t.p ∧ SI n0 st l2 la2 lc2 h' ∧ Q j l2 la2 lc2 r h') :
    CallS Try.prog (l.map (·.p) ++ wr) 28 [.pointer (some ⟨st, 0, none⟩), .int .i64 n] h fun v h' =>
    (idx runB l 0 = [] ∧ v = .tuple #[.int .i64 0, .bool false] ∧ Same h h') ∨
    (∃ (j : Nat) (t : TK), l[j]? = some t ∧ (idx runB l 0)[pickN n (idx runB l 0).length]? = some (j : Int) ∧ runB t = true ∧ v = .tuple #[.int .i64 j, .bool true] ∧ ∃ (r : Nat) (l2 : List TK) (la2 : Option Addr) (lc2 : Nat) (t2 : TK) (h6 : AHeap), l2[j]? = some t2 ∧ t2.p = t.p ∧ Q j l2 la2 lc2 r h6 ∧ SI n0 st (l2.set j (ended t2 r)) la2 lc2 h' ∧ Keeps [t.p] h6 h') := by
  have hlt := I.lt
  have hst := I.st
  (refine CallS.of2 Try.func28 rfl Try.ntmps28 Try.results28 rfl ?_)
  (refine Go.run (g:=?_))
  refine GoR.call rfl rfl rfl rfl rfl rfl rfl (((runnable_spec n0 st l hl la lc _ I).argA).mono ?_)
  rintro _ h3 ⟨b, rc, rfl, hs, ob⟩ s3
  have m3 := s3.1
  have hrl := idx_le runB l 0
  have hmem := fun x => @idx_mem runB l 0 x
  generalize idx runB l 0 = r at *
  rcases Nat.eq_zero_or_pos r.length with q | q
  · have q' : (r.length : Int) = 0 := by omega
    (refine Go.run (g:=?_))
    (first|refine Go.finT (by first|exact .inr rfl|exact .inl rfl) rfl ?_|refine Go.fin1 (by first|exact .inr rfl|exact .inl rfl) rfl (hq:=?_))
    exact .inl ⟨List.eq_nil_of_length_eq_zero q, rfl, s3⟩
  have q' : ¬ (r.length : Int) = 0 := by omega
  obtain ⟨b1, b2⟩ := tmod_bounds n q
  obtain ⟨p1, p2⟩ := pickN_lt n q
  generalize pickN n r.length = k at *
  obtain ⟨j, hj0, hjl, hrun⟩ := hmem r[k] (List.getElem_mem p1)
  rw [Nat.zero_add] at hj0
  have hkj : r[k]? = some (j : Int) := by rw [List.getElem?_eq_getElem p1, hj0]
  have c0 : (ints r)[k]? = some (.int .i64 (j : Int)) := by rw [ints_get p1, hj0]
  have hbe : k < (ints r).length := by rw [ints_len]; exact p1
  have hrv := hs.rv (P := Try.prog)
  have I3 := I.same s3
  have gb3 := I3.sb
  have hz3 := I3.sv.rv (P := Try.prog)
  have c1 := pcs_get hjl
  have hbe1 : j < (pcs l).length := by rw [pcs_len]; exact hjl
  have hjs : l[j]? = some l[j] := List.getElem?_eq_getElem hjl
  have hjm : l[j] ∈ l := List.getElem_mem hjl
  have gt := I3.tk j _ hjs
  have hge := I.ge _ hjm
  have hpj := hpk _ hjm
  have hW : l[j].p ∈ l.map (·.p) ++ wr := List.mem_append.2 (.inl (List.mem_map.2 ⟨_, hjm, rfl⟩))
  clear hmem hj0
  obtain ⟨t, ht⟩ : ∃ t, t = l[j] := ⟨_, rfl⟩
  have hset := fun {H' : AHeap} {t' : TK} (k : Keeps [l[j].p] h3 H') (hp : t'.p = l[j].p) hg => I3.set (H' := H') (t' := t') hjl (wr := []) k (by simp) (fun i hi => by cases hi) (fun u hu hi => by cases hi) hp hg
  rw [← ht] at hrun c1 hjs hjm gt hge hW hset hpj
  unfold TK.cs at gt
  have hst5 := hstep j t hjs hrun
  clear hstep
  (refine Go.run (g:=?_))
  refine GoR.binE _ rfl rfl rfl rfl rfl rfl (iRem_int q) ?_
  generalize n.tmod r.length = m at *
  (refine Go.run (g:=?_))
  refine GoR.binE _ rfl rfl rfl rfl rfl rfl (iRem_int q) ?_
  rw [p2]
  (refine Go.run (g:=?_))
  refine GoR.store (off := 0 + 4) (n := 1) (v := .int .u64 (t.pk + 1 : Nat)) (l := [.int .u64 (t.pk + 1 : Nat)]) rfl rfl rfl rfl rfl gt rfl rfl (Nat.le_refl _) rfl rfl (.inl hW) ?_
  refine GoR.name ?_
  intro h4 e4
  have k4 : Keeps [t.p] h3 h4 := by subst e4; exact (Keeps.rfl _ _).put (by simp) _
  have g4 : h4.get t.p = some (.cells [t.fn, .int .u8 t.is, .bool t.inn, .bool t.wk, .int .u64 (t.pk + 1 : Nat)] 119) := by subst e4; exact AHeap.get_put_same _ (AHeap.lt gt) _
  clear e4
  have n4 := k4.1
  (refine Go.run (g:=?_))
  refine GoR.store (off := 0 + 2) (n := 1) (v := .bool true) (l := [.bool true]) rfl rfl rfl rfl rfl g4 rfl rfl (show 3 ≤ 5 by decide) rfl rfl (.inl hW) ?_
  refine GoR.name ?_
  intro h5 e5
  have k5 : Keeps [t.p] h3 h5 := by subst e5; exact k4.put (by simp) _
  have g5 : h5.get t.p = some (.cells [t.fn, .int .u8 t.is, .bool true, .bool t.wk, .int .u64 (t.pk + 1 : Nat)] 119) := by subst e5; exact AHeap.get_put_same _ (AHeap.lt g4) _
  clear e5 k4 n4 g4
  have n5 := k5.1
  (refine Go.run (g:=?_))
  refine GoR.store (off := 0 + 3) (n := 1) (v := .bool false) (l := [.bool false]) rfl rfl rfl rfl rfl g5 rfl rfl (show 4 ≤ 5 by decide) rfl rfl (.inl hW) ?_
  refine GoR.name ?_
  intro h6 e6
  have k6 : Keeps [t.p] h3 h6 := by subst e6; exact k5.put (by simp) _
  have g7 : h6.get t.p = some (.cells [t.fn, .int .u8 t.is, .bool true, .bool false, .int .u64 (t.pk + 1 : Nat)] 119) := by subst e6; exact AHeap.get_put_same _ (AHeap.lt g5) _
  clear e6 k5 n5 g5
  have n6 := k6.1
  have I6 : SI n0 st (l.set j (begun t)) la lc h6 := hset k6 rfl g7
  have K6 : Keeps [t.p] h h6 := ⟨by omega, fun i hi hm => by rw [k6.2 i (by omega) hm, s3.2 i hi]⟩
  obtain ⟨F, cp, hfn, hcl, hcall⟩ := hst5 h6 I6 K6
  rw [hfn] at g7
  (refine Go.run (g:=?_))
  refine GoR.eqRef rfl rfl rfl rfl (.inr rfl) rfl rfl (aEq_fn stepU _ _ _) ?_
  (refine Go.run (g:=?_))
  refine GoR.callW rfl rfl rfl rfl rfl rfl hcl ((hcall.args (by simp)).mono ?_)
  rintro _ h7 ⟨rr, l2, la2, lc2, t2, rfl, hr256, hl2, hp2, I7, hQ⟩ k7
  refine ⟨fun i hi => .inl (List.mem_append.2 (.inr hi)), ?_⟩
  have n7 := k7.1
  have g77 := I7.tk j t2 hl2
  unfold TK.cs at g77
  rw [hp2] at g77
  have hj2 : j < l2.length := by
    rcases Nat.lt_or_ge j l2.length with q | q
    · exact q
    · rw [List.getElem?_eq_none q] at hl2; cases hl2
  have e2 : l2[j] = t2 := by rw [List.getElem?_eq_getElem hj2] at hl2; exact Option.some.inj hl2
  have hset7 := fun {H' : AHeap} {t' : TK} (k : Keeps [t.p] h7 H') (hp : t'.p = t.p) hg => I7.set (H' := H') (t' := t') hj2 (wr := []) (by rw [e2, hp2]; exact k) (by simp) (fun i hi => by cases hi) (fun u hu hi => by cases hi) (by rw [e2, hp2]; exact hp) hg
  (refine Go.run (g:=?_))
  refine GoR.store (off := 0 + 2) (n := 1) (v := .bool false) (l := [.bool false]) rfl rfl rfl rfl rfl g77 rfl rfl (show 3 ≤ 5 by decide) rfl rfl (.inl hW) ?_
  refine GoR.name ?_
  intro h8 e8
  have k8 : Keeps [t.p] h7 h8 := by subst e8; exact (Keeps.rfl _ _).put (by simp) _
  have g8 : h8.get t.p = some (.cells [t2.fn, .int .u8 t2.is, .bool false, .bool t2.wk, .int .u64 t2.pk] 119) := by subst e8; exact AHeap.get_put_same _ (AHeap.lt g77) _
  clear e8
  have n8 := k8.1
  clear gt g7 g77 k6 gb3 hz3 c0 c1 hrv hbe hbe1 hset hst5
  by_cases r2 : rr = 2
  · have r2' : (rr : Int) = 2 := by omega
    rcases hw : t2.wk with _ | _
    · rw [hw] at g8
      (refine Go.run (g:=?_))
      refine GoR.store (off := 0 + 1) (n := 1) (v := .int .u8 2) (l := [.int .u8 2]) rfl rfl rfl rfl rfl g8 rfl rfl (show 2 ≤ 5 by decide) rfl rfl (.inl hW) ?_
      refine GoR.name ?_
      intro h9 e9
      have k9 : Keeps [t.p] h7 h9 := by subst e9; exact k8.put (by simp) _
      have g9 := AHeap.get_put_same h8 (AHeap.lt g8) (some (.cells [t2.fn, .int .u8 2, .bool false, .bool t2.wk, .int .u64 t2.pk] 119))
      have hS : SI n0 st (l2.set j (ended t2 rr)) la2 lc2 h9 := by
        refine hset7 k9 hp2 ?_
        subst e9
        simp only [*, TK.cs, ended, if_true, if_false, Bool.false_eq_true] at g9 ⊢
        exact g9
      clear e9
      (refine Go.run (g:=?_))
      (first|refine Go.finT (by first|exact .inr rfl|exact .inl rfl) rfl ?_|refine Go.fin1 (by first|exact .inr rfl|exact .inl rfl) rfl (hq:=?_))
      exact .inr ⟨j, t, hjs, hkj, hrun, rfl, rr, l2, la2, lc2, t2, h7, hl2, hp2, hQ, hS, k9⟩
    · rw [hw] at g8
      (refine Go.run (g:=?_))
      refine GoR.store (off := 0 + 1) (n := 1) (v := .int .u8 1) (l := [.int .u8 1]) rfl rfl rfl rfl rfl g8 rfl rfl (show 2 ≤ 5 by decide) rfl rfl (.inl hW) ?_
      refine GoR.name ?_
      intro h9 e9
      have k9 : Keeps [t.p] h7 h9 := by subst e9; exact k8.put (by simp) _
      have g9 := AHeap.get_put_same h8 (AHeap.lt g8) (some (.cells [t2.fn, .int .u8 1, .bool false, .bool t2.wk, .int .u64 t2.pk] 119))
      have hS : SI n0 st (l2.set j (ended t2 rr)) la2 lc2 h9 := by
        refine hset7 k9 hp2 ?_
        subst e9
        simp only [*, TK.cs, ended, if_true, if_false, Bool.false_eq_true] at g9 ⊢
        exact g9
      clear e9
      (refine Go.run (g:=?_))
      (first|refine Go.finT (by first|exact .inr rfl|exact .inl rfl) rfl ?_|refine Go.fin1 (by first|exact .inr rfl|exact .inl rfl) rfl (hq:=?_))
      exact .inr ⟨j, t, hjs, hkj, hrun, rfl, rr, l2, la2, lc2, t2, h7, hl2, hp2, hQ, hS, k9⟩
  · have r2' : ¬ (rr : Int) = 2 := by omega
    have hw := t2.wk
    by_cases r1 : rr = 1
    · have r1' : (rr : Int) = 1 := by omega
      (refine Go.run (g:=?_))
      refine GoR.store (off := 0 + 1) (n := 1) (v := .int .u8 1) (l := [.int .u8 1]) rfl rfl rfl rfl rfl g8 rfl rfl (show 2 ≤ 5 by decide) rfl rfl (.inl hW) ?_
      refine GoR.name ?_
      intro h9 e9
      have k9 : Keeps [t.p] h7 h9 := by subst e9; exact k8.put (by simp) _
      have g9 := AHeap.get_put_same h8 (AHeap.lt g8) (some (.cells [t2.fn, .int .u8 1, .bool false, .bool t2.wk, .int .u64 t2.pk] 119))
      have hS : SI n0 st (l2.set j (ended t2 rr)) la2 lc2 h9 := by
        refine hset7 k9 hp2 ?_
        subst e9
        simp only [*, TK.cs, ended, if_true, if_false, Bool.false_eq_true] at g9 ⊢
        exact g9
      clear e9
      (refine Go.run (g:=?_))
      (first|refine Go.finT (by first|exact .inr rfl|exact .inl rfl) rfl ?_|refine Go.fin1 (by first|exact .inr rfl|exact .inl rfl) rfl (hq:=?_))
      exact .inr ⟨j, t, hjs, hkj, hrun, rfl, rr, l2, la2, lc2, t2, h7, hl2, hp2, hQ, hS, k9⟩
    · have r1' : ¬ (rr : Int) = 1 := by omega
      (refine Go.run (g:=?_))
      refine GoR.store (off := 0 + 1) (n := 1) (v := .int .u8 3) (l := [.int .u8 3]) rfl rfl rfl rfl rfl g8 rfl rfl (show 2 ≤ 5 by decide) rfl rfl (.inl hW) ?_
      refine GoR.name ?_
      intro h9 e9
      have k9 : Keeps [t.p] h7 h9 := by subst e9; exact k8.put (by simp) _
      have g9 := AHeap.get_put_same h8 (AHeap.lt g8) (some (.cells [t2.fn, .int .u8 3, .bool false, .bool t2.wk, .int .u64 t2.pk] 119))
      have hS : SI n0 st (l2.set j (ended t2 rr)) la2 lc2 h9 := by
        refine hset7 k9 hp2 ?_
        subst e9
        simp only [*, TK.cs, ended, if_true, if_false, Bool.false_eq_true] at g9 ⊢
        exact g9
      clear e9
      (refine Go.run (g:=?_))
      (first|refine Go.finT (by first|exact .inr rfl|exact .inl rfl) rfl ?_|refine Go.fin1 (by first|exact .inr rfl|exact .inl rfl) rfl (hq:=?_))
      exact .inr ⟨j, t, hjs, hkj, hrun, rfl, rr, l2, la2, lc2, t2, h7, hl2, hp2, hQ, hS, k9⟩
end Go.Proofs.Ytacfneokhmnkbaa
namespace Go.Proofs.Ytacfneokhmnkbaa
set_option maxRecDepth 100000
attribute [local irreducible] Go GoR GoL
abbrev ptr (b : Nat) : Value := .pointer (some ⟨b, 0, none⟩)
abbrev cloM (x bt bs : Nat) : Value := .func (.func 29) #[] #[ptr x, ptr bt, ptr bs]
set_option maxHeartbeats 4000000 in
theorem maker_spec (n0 st : Nat) (l : List TK) (hl : l.length ≤ 1000000) (la : Option Addr) (lc : Nat) (h : AHeap) (I : SI n0 st l la lc h) (t0 : TK) (h0 : l[0]? = some t0) (x bt bs L T : Nat) (gx : h.get x = some (.cells [.int .i64 L] 3)) (gt : h.get bt = some (.cells [.int .i64 T] 3)) (gs : h.get bs = some (.cells [ptr st] 31)) (hT : T < 1000000) (hL : L < 1000000) (n1 : x ≠ bt) (n2 : x ≠ t0.p) (n3 : bt ≠ t0.p) (n4 : bs ≠ x) (n5 : bs ≠ bt) (n6 : x ≠ st) (n7 : bt ≠ st) (n8 : x ∉ blk la) (n9 : bt ∉ blk la) (n10 : ∀ t ∈ l, t.p ≠ x ∧ t.p ≠ bt) : CallS Try.prog [x, bt, t0.p] 29 [ptr x, ptr bt, ptr bs] h fun v h' =>
    (L = 0 ∧ v = .int .u8 3 ∧ Same h h') ∨ (0 < L ∧ v = .int .u8 1 ∧ SI n0 st (l.set 0 (wakeT t0)) la lc h' ∧ h'.get x = some (.cells [.int .i64 (L - 1 : Nat)] 3) ∧ h'.get bt = some (.cells [.int .i64 (T + 1 : Nat)] 3)) := by
  (refine CallS.of3 Try.func29 rfl Try.ntmps29 Try.results29 rfl ?_)
  rcases Nat.eq_zero_or_pos L with q | q
  · have q' : (L : Int) = 0 := by omega
    (refine Go.run (g:=?_))
    (first|refine Go.finT (by first|exact .inr rfl|exact .inl rfl) rfl ?_|refine Go.fin1 (by first|exact .inr rfl|exact .inl rfl) rfl (hq:=?_))
    exact .inl ⟨q, rfl, Same.refl _⟩
  have q' : ¬ (L : Int) = 0 := by omega
  (refine Go.run (g:=?_))
  refine GoR.name ?_
  intro h4 e4
  have k4 : Keeps [x, bt] h h4 := by subst e4; exact ((Keeps.rfl _ _).put (by simp) _).put (by simp) _
  have gx4 : h4.get x = some (.cells [.int .i64 (L - 1 : Nat)] 3) := by subst e4; rw [AHeap.get_put_ne _ _ (fun e => n1 e.symm)]; exact AHeap.get_put_same _ (AHeap.lt gx) _
  have gt4 : h4.get bt = some (.cells [.int .i64 (T + 1 : Nat)] 3) := by subst e4; exact AHeap.get_put_same _ (by rw [AHeap.n_put]; exact AHeap.lt gt) _
  clear e4
  have I4 : SI n0 st l la lc h4 := I.keeps k4 (by simp only [List.mem_cons, List.not_mem_nil, or_false, not_or]; exact ⟨fun e => n6 e.symm, fun e => n7 e.symm⟩) (fun i hi => by
    simp only [List.mem_cons, List.not_mem_nil, or_false] at hi
    rcases hi with rfl | rfl
    · exact n8
    · exact n9) (fun t ht => by simp only [List.mem_cons, List.not_mem_nil, or_false, not_or]; exact n10 t ht)
  refine GoR.callW rfl rfl rfl rfl rfl rfl rfl (((wake_spec n0 st l hl la lc h4 I4 0 t0 h0).argA).mono ?_)
  rintro _ h5 ⟨rfl, I5⟩ k5
  refine ⟨fun i hi => .inl (by simp only [List.mem_singleton] at hi; subst hi; simp), ?_⟩
  have gx5 := k5.get gx4 (by simp only [List.mem_singleton]; exact n2)
  have gt5 := k5.get gt4 (by simp only [List.mem_singleton]; exact n3)
  clear gx gt gs gx4 gt4
  (refine Go.run (g:=?_))
  (first|refine Go.finT (by first|exact .inr rfl|exact .inl rfl) rfl ?_|refine Go.fin1 (by first|exact .inr rfl|exact .inl rfl) rfl (hq:=?_))
  exact .inr ⟨q, rfl, I5, gx5, gt5⟩
theorem wakeT_p (t : TK) : (wakeT t).p = t.p := by unfold wakeT; split <;> first | rfl | (split <;> rfl)
theorem wakeT_fn (t : TK) : (wakeT t).fn = t.fn := by unfold wakeT; split <;> first | rfl | (split <;> rfl)
theorem wakeT_pk (t : TK) : (wakeT t).pk = t.pk := by unfold wakeT; split <;> first | rfl | (split <;> rfl)
abbrev cloT (B : Nat) : Value := .func (.func 27) #[] #[ptr (B + 6), ptr (B + 7), ptr (B + 5), ptr (B + 3), ptr (B + 4), ptr B, ptr (B + 2)]
structure MK1 (B x w cnt : Nat) (t : TK) (H : AHeap) : Prop where
  fn : t.fn = cloM x (B + 3) (B + 2)
  gx : H.get x = some (.cells [.int .i64 (w / 4 : Nat)] 3)
  inn : t.inn = false
  is : t.is = if w = 0 then 3 else 1
  hw : w = 0 ∨ w % 4 = 1
  lt : w < 100
  pk : t.pk ≤ cnt
structure WW (B : Nat) (xs ws : List Nat) (l : List TK) (la : Option Addr) (lc T cnt : Nat) (t0 : TK) (H : AHeap) : Prop where
  si : SI (B + 8) (B + 1) l la lc H
  len : l.length = xs.length + 1
  lws : ws.length = xs.length
  gs : H.get (B + 2) = some (.cells [ptr (B + 1)] 31)
  gt : H.get (B + 3) = some (.cells [.int .i64 T] 3)
  h0 : l[0]? = some t0
  fn0 : t0.fn = cloT B
  pk0 : t0.pk ≤ cnt
  mks : ∀ (i x w : Nat) (t : TK), xs[i]? = some x → ws[i]? = some w → l[i + 1]? = some t → MK1 B x w cnt t H
  xge : ∀ x ∈ xs, B + 8 ≤ x ∧ x ∉ blk la ∧ ∀ t ∈ l, t.p ≠ x
  xap : ∀ (i j x : Nat), xs[i]? = some x → xs[j]? = some x → i = j
theorem WW.keepsT {B : Nat} {xs ws : List Nat} {l : List TK} {la : Option Addr} {lc T cnt cnt' : Nat} {T' : Nat} {t0 : TK} {wr : List Nat} {H H' : AHeap} (W : WW B xs ws l la lc T cnt t0 H) (k : Keeps wr H H') (hw : ∀ i ∈ wr, (i < B ∨ i = B + 3 ∨ i = B + 4 ∨ i = B + 5 ∨ i = B + 6 ∨ i = B + 7 ∨ H.n ≤ i)) (hc : cnt ≤ cnt') (gt' : H'.get (B + 3) = some (.cells [.int .i64 T'] 3)) : WW B xs ws l la lc T' cnt' t0 H' := by
  have hlt := W.si.lt
  have hown := W.si.own
  have hsl := W.si.sv.lt
  have hge := W.si.ge
  have htl : ∀ t ∈ l, t.p < H.n := fun t ht => by
    obtain ⟨j, hj, hjt⟩ := List.mem_iff_getElem.1 ht
    exact AHeap.lt (W.si.tk j t (by rw [List.getElem?_eq_getElem hj, hjt]))
  refine ⟨W.si.keeps k (fun h => by have := hw _ h; omega) (fun i hi hb => by have := hw _ hi; have := hown _ hb; have := hsl _ hb; omega) (fun t ht hi => by have := hw _ hi; have := (hge t ht).1; have := htl t ht; omega), W.len, W.lws, k.get W.gs (fun h => by have := hw _ h; omega), gt', W.h0, W.fn0, Nat.le_trans W.pk0 hc, fun i x w t hx hw' ht => ?_, W.xge, W.xap⟩
  have m := W.mks i x w t hx hw' ht
  have hxl := AHeap.lt m.gx
  have hxg := (W.xge x (List.mem_of_getElem? hx)).1
  exact { m with gx := k.get m.gx (fun h => by have := hw _ h; omega), pk := Nat.le_trans m.pk hc }
theorem WW.keeps {B : Nat} {xs ws : List Nat} {l : List TK} {la : Option Addr} {lc T cnt cnt' : Nat} {t0 : TK} {wr : List Nat} {H H' : AHeap} (W : WW B xs ws l la lc T cnt t0 H) (k : Keeps wr H H') (hw : ∀ i ∈ wr, (i < B ∨ i = B + 4 ∨ i = B + 5 ∨ i = B + 6 ∨ i = B + 7 ∨ H.n ≤ i)) (hc : cnt ≤ cnt') : WW B xs ws l la lc T cnt' t0 H' :=
  W.keepsT k (fun i hi => by have := hw i hi; omega) hc (k.get W.gt (fun h => by have := hw _ h; have := AHeap.lt W.gt; omega))
def mvW (w : Nat) : Nat := if w / 4 = 0 then 0 else w - 4
def mvT (w T : Nat) : Nat := if w / 4 = 0 then T else T + 1
def mvS (w : Nat) (t0 : TK) : TK := if w / 4 = 0 then t0 else wakeT t0
def mvR (w : Nat) : Nat := if w / 4 = 0 then 3 else 1
theorem set_mv {l : List TK} {i : Nat} {a d t0 : TK} : ((l.set (i + 1) a).set 0 t0).set (i + 1) d = (l.set (i + 1) d).set 0 t0 := by
  rw [List.set_comm _ _ (show (0 : Nat) ≠ i + 1 by omega), List.set_set]
theorem lt_of_some {α : Type} {l : List α} {i : Nat} {a : α} (h : l[i]? = some a) : i < l.length := by
  rcases Nat.lt_or_ge i l.length with q | q
  · exact q
  · rw [List.getElem?_eq_none q] at h; cases h
theorem WW.mv {B : Nat} {xs ws : List Nat} {l : List TK} {la : Option Addr} {lc T cnt : Nat} {t0 t : TK} {i x w : Nat} {H H' : AHeap} (W : WW B xs ws l la lc T cnt t0 H) (hx : xs[i]? = some x) (hw : ws[i]? = some w) (ht : l[i + 1]? = some t) (k : Keeps [t.p, x, B + 3, t0.p] H H') (hS : SI (B + 8) (B + 1) ((l.set (i + 1) (ended (begun t) (mvR w))).set 0 (mvS w t0)) la lc H') (gx : H'.get x = some (.cells [.int .i64 (mvW w / 4 : Nat)] 3)) (gt : H'.get (B + 3) = some (.cells [.int .i64 (mvT w T : Nat)] 3)) : WW B xs (ws.set i (mvW w)) ((l.set (i + 1) (ended (begun t) (mvR w))).set 0 (mvS w t0)) la lc (mvT w T) (cnt + 1) (mvS w t0) H' := by
  have hi := lt_of_some ht
  have hiw := lt_of_some hw
  have m := W.mks i x w t hx hw ht
  have hge := W.si.ge
  have hst := W.si.st
  have ge0 := (hge _ (List.mem_of_getElem? W.h0)).1
  have get := (hge _ (List.mem_of_getElem? ht)).1
  have xg := (W.xge x (List.mem_of_getElem? hx)).1
  have hp0 : (mvS w t0).p = t0.p := by unfold mvS; split; rfl; exact wakeT_p _
  have hf0 : (mvS w t0).fn = t0.fn := by unfold mvS; split; rfl; exact wakeT_fn _
  have hk0 : (mvS w t0).pk = t0.pk := by unfold mvS; split; rfl; exact wakeT_pk _
  refine ⟨hS, by simp only [List.length_set]; exact W.len, by rw [List.length_set]; exact W.lws, k.get W.gs ?_, gt, ?_, hf0.trans W.fn0, by rw [hk0]; have := W.pk0; omega, ?_, ?_, W.xap⟩
  · simp only [List.mem_cons, List.not_mem_nil, or_false, not_or]; omega
  · rw [List.getElem?_set_self (by rw [List.length_set]; omega)]
  · intro j y v u hy hv hu
    rw [List.getElem?_set_ne (by omega)] at hu
    by_cases e : i = j
    · subst e
      rw [hx] at hy
      obtain rfl := Option.some.inj hy
      rw [List.getElem?_set_self hiw] at hv
      obtain rfl := Option.some.inj hv
      rw [List.getElem?_set_self hi] at hu
      obtain rfl := Option.some.inj hu
      have hm := m.hw
      have hl := m.lt
      have hpk := m.pk
      refine ⟨m.fn, gx, rfl, ?_, ?_, ?_, by simp only [ended, begun]; omega⟩
      · unfold mvW mvR
        by_cases q : w / 4 = 0
        · simp [q, ended]
        · simp only [if_neg q, ended]
          rw [if_neg (show ¬ w - 4 = 0 by omega)]
          simp
      · unfold mvW; split <;> omega
      · unfold mvW; split <;> omega
    · rw [List.getElem?_set_ne e] at hv
      rw [List.getElem?_set_ne (by omega)] at hu
      have m' := W.mks j y v u hy hv hu
      have yg := (W.xge y (List.mem_of_getElem? hy))
      have hyx : y ≠ x := fun e' => e (W.xap _ _ _ hx (e' ▸ hy))
      refine { m' with gx := k.get m'.gx ?_, pk := by have := m'.pk; omega }
      simp only [List.mem_cons, List.not_mem_nil, or_false, not_or]
      exact ⟨fun e' => yg.2.2 t (List.mem_of_getElem? ht) e'.symm, hyx, by omega, fun e' => yg.2.2 t0 (List.mem_of_getElem? W.h0) e'.symm⟩
  · intro y hy
    obtain ⟨a1, a2, a3⟩ := W.xge y hy
    refine ⟨a1, a2, fun u hu => ?_⟩
    rcases List.mem_or_eq_of_mem_set hu with hu | rfl
    · rcases List.mem_or_eq_of_mem_set hu with hu | rfl
      · exact a3 u hu
      · exact a3 t (List.mem_of_getElem? ht)
    · rw [hp0]; exact a3 t0 (List.mem_of_getElem? W.h0)
theorem CallS.kp {P : Program} {wr : List Nat} {f : FuncId} {args : List Value} {h : AHeap} {Q : Value → AHeap → Prop} (k : CallS P wr f args h Q) : CallS P wr f args h fun v h' => Q v h' ∧ Keeps wr h h' :=
  let ⟨v, h', a, b⟩ := k
  ⟨v, h', a, b, ⟨a.fr.n, fun i hi hn => a.fr.get i hi hn⟩⟩
theorem CallS.weak {P : Program} {wr wr' : List Nat} {f : FuncId} {args : List Value} {h : AHeap} {Q : Value → AHeap → Prop} (k : CallS P wr f args h Q) (hw : ∀ i ∈ wr, i ∈ wr') : CallS P wr' f args h Q :=
  let ⟨v, h', a, b⟩ := k
  ⟨v, h', a.weak hw, b⟩
def QM (B : Nat) (xs ws : List Nat) (l : List TK) (la : Option Addr) (lc T : Nat) (t0 : TK) (h : AHeap) (j : Nat) (l2 : List TK) (la2 : Option Addr) (lc2 r : Nat) (h6 : AHeap) : Prop :=
  ∃ (i x w : Nat) (t : TK), j = i + 1 ∧ xs[i]? = some x ∧ ws[i]? = some w ∧ l[i + 1]? = some t ∧ w ≠ 0 ∧ la2 = la ∧ lc2 = lc ∧ r = mvR w ∧ l2 = (l.set (i + 1) (begun t)).set 0 (mvS w t0) ∧ Keeps [t.p, x, B + 3, t0.p] h h6 ∧ h6.get x = some (.cells [.int .i64 (mvW w / 4 : Nat)] 3) ∧ h6.get (B + 3) = some (.cells [.int .i64 (mvT w T : Nat)] 3)
theorem getSome {α : Type} {l : List α} {i : Nat} (h : i < l.length) : ∃ a, l[i]? = some a := ⟨l[i], List.getElem?_eq_getElem h⟩
theorem mk_step {B : Nat} {xs ws : List Nat} {l : List TK} {la : Option Addr} {lc T cnt : Nat} {t0 : TK} {h : AHeap} (W : WW B xs ws l la lc T cnt t0 h) (hT : T < 100000) (hxs : xs.length ≤ 100) {i : Nat} {t : TK} (ht : l[i + 1]? = some t) (hrun : runB t = true) {h5 : AHeap} (I5 : SI (B + 8) (B + 1) (l.set (i + 1) (begun t)) la lc h5) (K5 : Keeps [t.p] h h5) : ∃ (F : FuncId) (cp : Array Value), t.fn = .func (.func F) #[] cp ∧ calls Try.prog F = true ∧ CallS Try.prog (xs ++ [B + 3, t0.p]) F cp.toList h5 fun v h' => ∃ (r : Nat) (l2 : List TK) (la2 : Option Addr) (lc2 : Nat) (t2 : TK), v = .int .u8 r ∧ r < 256 ∧ l2[i + 1]? = some t2 ∧ t2.p = t.p ∧ SI (B + 8) (B + 1) l2 la2 lc2 h' ∧ QM B xs ws l la lc T t0 h (i + 1) l2 la2 lc2 r h' := by
  have hi := lt_of_some ht
  have hlen := W.len
  have hlws := W.lws
  obtain ⟨x, hx⟩ := getSome (l := xs) (i := i) (by omega)
  obtain ⟨w, hw⟩ := getSome (l := ws) (i := i) (by omega)
  have m := W.mks i x w t hx hw ht
  obtain ⟨xg1, xg2, xg3⟩ := W.xge x (List.mem_of_getElem? hx)
  have hge := W.si.ge
  have htm := List.mem_of_getElem? ht
  have h0m := List.mem_of_getElem? W.h0
  have ge0 := (hge _ h0m).1
  have get := (hge _ htm).1
  have hw0 : w ≠ 0 := fun e => by
    have := m.is
    rw [if_pos e] at this
    simp [runB, this] at hrun
  have hml := m.lt
  have hown := W.si.own
  have gx5 := K5.get m.gx (by simp only [List.mem_singleton]; exact fun e => xg3 t htm e.symm)
  have gt5 := K5.get W.gt (by simp only [List.mem_singleton]; omega)
  have gs5 := K5.get W.gs (by simp only [List.mem_singleton]; omega)
  have h05 : (l.set (i + 1) (begun t))[0]? = some t0 := by rw [List.getElem?_set_ne (by omega)]; exact W.h0
  have x0 := xg3 t0 h0m
  refine ⟨_, _, m.fn, by kernel_rfl, ?_⟩
  have C := (maker_spec (B + 8) (B + 1) (l.set (i + 1) (begun t)) (by rw [List.length_set]; omega) la lc h5 I5 t0 h05 x (B + 3) (B + 2) (w / 4) T gx5 gt5 gs5 (by omega) (by omega) (by omega) (fun e => x0 e.symm) (by omega) (by omega) (by omega) (by omega) (by omega) xg2 (fun hi => by have := hown _ hi; omega) (fun u hu => by
    rcases List.mem_or_eq_of_mem_set hu with hu | rfl
    · exact ⟨xg3 u hu, by have := (hge u hu).1; omega⟩
    · exact ⟨xg3 t htm, by show t.p ≠ B + 3; omega⟩)).kp
  refine (C.mono fun v h6 hv => ?_).weak (fun k hk => ?_)
  · obtain ⟨hv, k6⟩ := hv
    have n5 := K5.1
    have K6 : Keeps [t.p, x, B + 3, t0.p] h h6 := ⟨by have := k6.1; omega, fun k hk hm => by
      simp only [List.mem_cons, List.not_mem_nil, or_false, not_or] at hm
      rw [k6.2 k (by omega) (by simp only [List.mem_cons, List.not_mem_nil, or_false, not_or]; exact hm.2), K5.2 k hk (by simp only [List.mem_singleton]; exact hm.1)]⟩
    rcases hv with ⟨e, rfl, s6⟩ | ⟨e, rfl, I6, gx6, gt6⟩
    · have e1 : mvS w t0 = t0 := if_pos e
      have e2 : (l.set (i + 1) (begun t)).set 0 (mvS w t0) = l.set (i + 1) (begun t) := by rw [e1]; exact set_same h05
      refine ⟨3, l.set (i + 1) (begun t), la, lc, begun t, rfl, by decide, List.getElem?_set_self hi, rfl, I5.same s6, i, x, w, t, rfl, hx, hw, ht, hw0, rfl, rfl, (if_pos e).symm, e2.symm, K6, ?_, ?_⟩
      · rw [show mvW w = 0 from if_pos e]
        rw [e] at gx5
        exact s6.get gx5
      · rw [show mvT w T = T from if_pos e]
        exact s6.get gt5
    · have ne : ¬ w / 4 = 0 := by omega
      have e1 : mvS w t0 = wakeT t0 := if_neg ne
      refine ⟨1, (l.set (i + 1) (begun t)).set 0 (wakeT t0), la, lc, begun t, rfl, by decide, by rw [List.getElem?_set_ne (by omega)]; exact List.getElem?_set_self hi, rfl, I6, i, x, w, t, rfl, hx, hw, ht, hw0, rfl, rfl, (if_neg ne).symm, by rw [e1], K6, ?_, ?_⟩
      · rw [show mvW w = w - 4 from if_neg ne, show (w - 4) / 4 = w / 4 - 1 from by omega]
        exact gx6
      · rw [show mvT w T = T + 1 from if_neg ne]
        exact gt6
  · simp only [List.mem_cons, List.not_mem_nil, or_false] at hk
    rcases hk with rfl | rfl | rfl
    · exact List.mem_append.2 (.inl (List.mem_of_getElem? hx))
    · simp
    · simp
theorem mk_done {B : Nat} {xs ws : List Nat} {l l2 : List TK} {la la2 : Option Addr} {lc lc2 T cnt r j : Nat} {t0 t t2 : TK} {h h6 h' : AHeap} (W : WW B xs ws l la lc T cnt t0 h) (q : QM B xs ws l la lc T t0 h j l2 la2 lc2 r h6) (ht : l[j]? = some t) (h2 : l2[j]? = some t2) (hS : SI (B + 8) (B + 1) (l2.set j (ended t2 r)) la2 lc2 h') (k : Keeps [t.p] h6 h') : ∃ (i w : Nat) (l' : List TK), ws[i]? = some w ∧ w ≠ 0 ∧ l'.map (·.p) = l.map (·.p) ∧ WW B xs (ws.set i (mvW w)) l' la lc (mvT w T) (cnt + 1) (mvS w t0) h' := by
  obtain ⟨i, x, w, u, rfl, hx, hw, hu, hw0, rfl, rfl, rfl, rfl, K, gx, gt⟩ := q
  rw [ht] at hu
  obtain rfl := Option.some.inj hu
  have hi := lt_of_some ht
  rw [List.getElem?_set_ne (by omega), List.getElem?_set_self hi] at h2
  obtain rfl := Option.some.inj h2
  rw [set_mv] at hS
  obtain ⟨xg1, xg2, xg3⟩ := W.xge x (List.mem_of_getElem? hx)
  have htm := List.mem_of_getElem? ht
  have get := (W.si.ge _ htm).1
  have n6 := K.1
  have K' : Keeps [t.p, x, B + 3, t0.p] h h' := ⟨by have := k.1; omega, fun b hb hm => by
    have hm' := hm
    simp only [List.mem_cons, List.not_mem_nil, or_false, not_or] at hm
    rw [k.2 b (by omega) (by simp only [List.mem_singleton]; exact hm.1), K.2 b hb hm']⟩
  refine ⟨i, w, _, hw, hw0, ?_, W.mv hx hw ht K' hS (k.get gx (by simp only [List.mem_singleton]; exact fun e => xg3 t htm e.symm)) (k.get gt (by simp only [List.mem_singleton]; omega))⟩
  have hp0 : (mvS w t0).p = t0.p := by unfold mvS; split; rfl; exact wakeT_p _
  apply List.ext_getElem?
  intro a
  simp only [List.getElem?_map, List.getElem?_set, List.length_set]
  split
  · rename_i e; subst e
    rw [W.h0, if_pos (by omega)]
    simp [hp0]
  · split
    · rename_i e; subst e
      rw [ht]
      rfl
    · rfl
theorem pickM_spec {B : Nat} {xs ws : List Nat} {l : List TK} {la : Option Addr} {lc T cnt : Nat} {t0 : TK} {h : AHeap} (W : WW B xs ws l la lc T cnt t0 h) (hin : t0.inn = true) (hT : T < 100000) (hcnt : cnt < 1000000) (hxs : xs.length ≤ 100) (n : Int) (hn : -9223372036854775808 ≤ n ∧ n ≤ 9223372036854775807) : CallS Try.prog (l.map (·.p) ++ (xs ++ [B + 3, t0.p])) 28 [ptr (B + 1), .int .i64 n] h fun v h' => WW B xs ws l la lc T (cnt + 1) t0 h' ∨ ∃ (i w : Nat) (l' : List TK), ws[i]? = some w ∧ w ≠ 0 ∧ l'.map (·.p) = l.map (·.p) ∧ WW B xs (ws.set i (mvW w)) l' la lc (mvT w T) (cnt + 1) (mvS w t0) h' := by
  have hlen := W.len
  refine (pick_gen (B + 8) (B + 1) l (by omega) la lc h W.si (fun t ht => ?_) n hn (xs ++ [B + 3, t0.p]) (QM B xs ws l la lc T t0 h) (fun j t ht hrun h5 I5 K5 => ?_)).mono fun v h' hv => ?_
  · obtain ⟨j, hj, hjt⟩ := List.mem_iff_getElem.1 ht
    have hjs : l[j]? = some t := by rw [List.getElem?_eq_getElem hj, hjt]
    cases j with
    | zero => rw [W.h0] at hjs; obtain rfl := Option.some.inj hjs; have := W.pk0; omega
    | succ i =>
      obtain ⟨x, hx⟩ := getSome (l := xs) (i := i) (by omega)
      obtain ⟨w, hw⟩ := getSome (l := ws) (i := i) (by have := W.lws; omega)
      have := (W.mks i x w t hx hw hjs).pk
      omega
  · cases j with
    | zero => rw [W.h0] at ht; obtain rfl := Option.some.inj ht; simp [runB, hin] at hrun
    | succ i => exact mk_step W hT hxs ht hrun I5 K5
  · rcases hv with ⟨-, -, s⟩ | ⟨j, t, ht, -, -, -, r, l2, la2, lc2, t2, h6, h2, -, q, hS, k⟩
    · exact .inl (W.keeps (s.keeps []) (fun i hi => by cases hi) (Nat.le_succ _))
    · exact .inr (mk_done W q ht h2 hS k)
end Go.Proofs.Ytacfneokhmnkbaa
namespace Go.Proofs.Ytacfneokhmnkbaa
set_option maxRecDepth 100000
attribute [local irreducible] Go GoR GoL
structure TX (B : Nat) (c : Option Addr) (mc : Nat) (ins : List Int) (K S : Nat) (H : AHeap) : Prop where
  gc : H.get B = some (.cells [.slice c ins.length mc] 27)
  gk : H.get (B + 4) = some (.cells [.int .i64 K] 3)
  gp : H.get (B + 5) = some (.cells [.int .i64 S] 3)
  gi : H.get (B + 6) = some (.cells [.bool false] 4)
  gb : H.get (B + 7) = some (.cells [.bool false] 4)
  rv : Rv Try.prog H 1 c ins.length mc (ints ins)
  lt : ∀ i ∈ blk c, i < B
set_option maxHeartbeats 8000000 in
theorem taker_spec {B : Nat} {xs ws : List Nat} {l : List TK} {la : Option Addr} {lc T cnt : Nat} {t0 : TK} {h : AHeap} (W : WW B xs ws l la lc T cnt t0 h) (hin : t0.inn = true) (hT : T < 100000) (hcnt : cnt < 1000000) (hxs : xs.length ≤ 100) {c : Option Addr} {mc : Nat} {ins : List Int} {K S : Nat} (X : TX B c mc ins K S h) (hins : ∀ x ∈ ins, -9223372036854775808 ≤ x ∧ x ≤ 9223372036854775807) (hm : ins.length ≤ 500) (hK : K < 1000000) (hS : S < 1000000) : CallS Try.prog ([B + 6, B + 5, B + 3, B + 4] ++ (l.map (·.p) ++ (xs ++ [B + 3, t0.p]))) 27 [ptr (B + 6), ptr (B + 7), ptr (B + 5), ptr (B + 3), ptr (B + 4), ptr B, ptr (B + 2)] h fun v h' => v = .int .u8 (if 0 < T then 1 else 2) ∧ TX B c mc ins (if 0 < T then K + 1 else K) (S + 1) h' ∧
    (WW B xs ws l la lc (T - 1) (cnt + 1) t0 h' ∨ ∃ (i w : Nat) (l' : List TK), ws[i]? = some w ∧ w ≠ 0 ∧ l'.map (·.p) = l.map (·.p) ∧ WW B xs (ws.set i (mvW w)) l' la lc (mvT w (T - 1)) (cnt + 1) (mvS w t0) h') := by
  have gt := W.gt
  have gs := W.gs
  obtain ⟨gc, gk, gp, gi, gb, rv, ltc⟩ := X
  have w6 : B + 6 ∈ [B + 6, B + 5, B + 3, B + 4] ++ (l.map (·.p) ++ (xs ++ [B + 3, t0.p])) := by simp
  (refine CallS.of7 Try.func27 rfl Try.ntmps27 Try.results27 rfl ?_)
  rcases Nat.eq_zero_or_pos T with q | q
  · have q' : ¬ (0 : Int) < (T : Int) := by omega
    (refine Go.run (g:=?_))
    refine GoR.name ?_
    intro h4 e4
    have K4 : Keeps [B + 6, B + 5, B + 3, B + 4] h h4 := by subst e4; exact ((Keeps.rfl _ _).put (by simp) _).put (by simp) _
    have gp4 : h4.get (B + 5) = some (.cells [.int .i64 (S + 1 : Nat)] 3) := by subst e4; exact AHeap.get_put_same _ (by rw [AHeap.n_put]; exact AHeap.lt gp) _
    have gi4 : h4.get (B + 6) = some (.cells [.bool true] 4) := by subst e4; rw [AHeap.get_put_ne _ _ (by omega)]; exact AHeap.get_put_same _ (AHeap.lt gi) _
    have gt4 : h4.get (B + 3) = some (.cells [.int .i64 (T - 1 : Nat)] 3) := by subst e4; rw [AHeap.get_put_ne _ _ (by omega), AHeap.get_put_ne _ _ (by omega), gt, q]
    have gk4 : h4.get (B + 4) = some (.cells [.int .i64 (if 0 < T then K + 1 else K : Nat)] 3) := by subst e4; rw [AHeap.get_put_ne _ _ (by omega), AHeap.get_put_ne _ _ (by omega), gk, if_neg (by omega)]
    clear e4
    rw [if_neg (show ¬ 0 < T by omega)] at gk4 ⊢
    simp only [if_neg (show ¬ 0 < T by omega)]
    have W4 := W.keepsT (cnt' := cnt) K4 (fun i hi => by simp only [List.mem_cons, List.not_mem_nil, or_false] at hi; omega) (Nat.le_refl _) gt4
    have rv4 := rv.keeps K4 (fun i hi hm => by have := ltc i hi; simp only [List.mem_cons, List.not_mem_nil, or_false] at hm; omega)
    have gc4 := K4.get gc (by simp)
    have gb4 := K4.get gb (by simp)
    have gs4 := W4.gs
    clear gt gs gc gk gp gi gb
    have hB := W4.si.st
    rcases Nat.eq_zero_or_pos ins.length with m0 | m0
    · have m0' : ¬ (0 : Int) < (ins.length : Int) := by omega
      rw [decide_eq_false m0']
      (refine Go.run (g:=?_))
      refine Go.name ?_
      intro h5 e5
      have k5 : Keeps [B + 6] h4 h5 := by subst e5; exact (Keeps.rfl _ _).put (by simp) _
      have gi5 : h5.get (B + 6) = some (.cells [.bool false] 4) := by subst e5; exact AHeap.get_put_same _ (AHeap.lt gi4) _
      clear e5
      (first|refine Go.finT (by first|exact .inr rfl|exact .inl rfl) rfl ?_|refine Go.fin1 (by first|exact .inr rfl|exact .inl rfl) rfl (hq:=?_))
      refine ⟨rfl, ⟨k5.get gc4 (by simp), k5.get gk4 (by simp), k5.get gp4 (by simp), gi5, k5.get gb4 (by simp), rv4.keeps k5 (fun i hi hm => by have := ltc i hi; simp only [List.mem_singleton] at hm; omega), ltc⟩, .inl ?_⟩
      exact W4.keeps k5 (fun i hi => by simp only [List.mem_singleton] at hi; omega) (Nat.le_succ _)
    · have m0' : (0 : Int) < (ins.length : Int) := by omega
      have hk : (S + 1) % ins.length < ins.length := Nat.mod_lt _ m0
      have c0 := ints_get hk
      have hbe : (S + 1) % ins.length < (ints ins).length := by rw [ints_len]; exact hk
      have hvr := hins _ (List.getElem_mem hk)
      generalize ins[(S + 1) % ins.length] = v at *
      by_cases v0 : (0 : Int) ≤ v
      · (iterate 19 (first|refine GoR.end ?_|(refine GoR.gd rfl ?_;first|refine GoR.wanted' rfl rfl rfl rfl (g:=?_)|refine GoR.unwanted' rfl rfl rfl rfl (hd:=rfl) (hN:=rfl) (g:=?_)|refine GoR.unwantedU rfl rfl rfl rfl rfl rfl ?_)|(refine GoR.kk 0 rfl ?_;first|refine GoR.move rfl rfl rfl rfl rfl ?_|refine GoR.assign rfl rfl rfl rfl rfl ?_)|(refine GoR.kk 1 rfl ?_;first|refine GoR.load' rfl rfl rfl rfl rfl (g:=?_)|refine GoR.loadA' rfl rfl rfl rfl rfl (hv:=rfl) (g:=?_)|refine GoR.loadV' rfl rfl rfl rfl rfl (g:=?_)|refine GoR.loadVN' rfl rfl rfl rfl rfl (g:=?_))|(refine GoR.kk 2 rfl ?_;first|refine GoR.store' rfl rfl rfl rfl rfl (hl:=rfl) (h1:=rfl) (h3:=rfl) (g:=?_))|(refine GoR.kk 3 rfl ?_;first|refine GoR.fieldAddr rfl rfl rfl rfl rfl ?_|refine GoR.indexN' rfl rfl rfl rfl rfl rfl (g:=?_)|refine GoR.indexNs' rfl rfl rfl rfl rfl rfl (g:=?_)|refine GoR.indexV' rfl rfl rfl rfl rfl rfl (g:=?_)|refine GoR.indexA' rfl rfl rfl rfl rfl rfl (g:=?_)|refine GoR.fieldV' rfl rfl rfl rfl rfl (g:=?_))|(refine GoR.kk 4 rfl ?_;first|refine GoR.eq rfl rfl rfl rfl rfl rfl ?_|refine GoR.ne rfl rfl rfl rfl rfl rfl ?_|refine GoR.lt rfl rfl rfl rfl rfl rfl ?_|refine GoR.le rfl rfl rfl rfl rfl rfl ?_|refine GoR.gt rfl rfl rfl rfl rfl rfl ?_|refine GoR.ge rfl rfl rfl rfl rfl rfl ?_|refine GoR.addN' rfl rfl rfl rfl rfl rfl (g:=?_)|refine GoR.subN' rfl rfl rfl rfl rfl rfl (g:=?_)|refine GoR.add' rfl rfl rfl rfl rfl rfl (g:=?_)|refine GoR.sub' rfl rfl rfl rfl rfl rfl (g:=?_)|refine GoR.addM' rfl rfl rfl rfl rfl rfl (g:=?_)|refine GoR.subM' rfl rfl rfl rfl rfl rfl (g:=?_)|refine GoR.mulM' rfl rfl rfl rfl rfl rfl (g:=?_)|refine GoR.shrN rfl rfl rfl rfl rfl rfl rfl ?_|refine GoR.structEq rfl rfl rfl rfl rfl rfl (by rfl) (by rfl) ?_|refine GoR.structNe rfl rfl rfl rfl rfl rfl (by rfl) (by rfl) ?_|refine GoR.strEq rfl rfl rfl rfl rfl rfl ?_|refine GoR.strNe rfl rfl rfl rfl rfl rfl ?_|refine GoR.remN' rfl rfl rfl rfl rfl rfl (g:=?_)|refine GoR.quoN' rfl rfl rfl rfl rfl rfl (g:=?_)|refine GoR.shlN' rfl rfl rfl rfl rfl rfl rfl (g:=?_)|refine GoR.orN' rfl rfl rfl rfl rfl rfl (g:=?_))|(refine GoR.kk 5 rfl ?_;first|refine GoR.len rfl rfl rfl rfl rfl ?_|refine GoR.lenStr rfl rfl rfl rfl rfl ?_|refine GoR.capB rfl rfl rfl rfl rfl ?_)|(refine GoR.kk 7 rfl ?_;first|refine GoR.pickE' rfl rfl rfl rfl rfl (hx:=rfl) (hy:=rfl) (g:=?_)|refine GoR.pickN' rfl rfl rfl rfl rfl (hx:=rfl) (hy:=rfl) (g:=?_)|refine GoR.pickB rfl rfl rfl rfl rfl rfl rfl ?_)|(refine GoR.kk 8 rfl ?_;first|refine GoR.boxA rfl rfl rfl rfl rfl ?_|refine GoR.boxS rfl rfl rfl rfl rfl rfl ?_|refine GoR.alloc rfl rfl rfl rfl ?_)|(refine GoR.kk 9 rfl ?_;first|refine GoR.strV' rfl rfl rfl rfl rfl (g:=?_)|refine GoR.conv_u8 rfl rfl rfl rfl rfl ?_|refine GoR.convW' rfl rfl rfl rfl rfl (g:=?_)|refine GoR.conv_u16 rfl rfl rfl rfl rfl ?_|refine GoR.conv_u32 rfl rfl rfl rfl rfl ?_)|(refine GoR.kk 10 rfl ?_;first|refine GoR.build' rfl rfl rfl rfl rfl rfl (g:=?_))|(refine GoR.kk 11 rfl ?_;first|refine GoR.extract rfl rfl rfl rfl rfl rfl ?_|refine GoR.not rfl rfl rfl rfl rfl ?_|refine GoR.nilCheck rfl rfl rfl rfl rfl ?_|refine GoR.nilCheckF rfl rfl rfl rfl rfl ?_|refine GoR.makeFunc rfl rfl rfl rfl rfl rfl ?_)|(refine Go.kk 0 rfl ?_;refine Go.seq ?_)|(refine Go.kk 1 rfl ?_;refine Go.region (by kernel_rfl) rfl ?_)|(refine Go.kk 2 rfl ?_;refine Go.drawnQ rfl (by kernel_rfl) rfl ?_)|(refine Go.kk 3 rfl ?_;first|refine Go.cond_t' rfl (g:=?_)|refine Go.cond_f' rfl (g:=?_))|(refine Go.kk 4 rfl ?_;refine Go.block ?_)|(refine Go.kk 5 rfl ?_;first|refine Go.skip ?_|refine Go.ret ?_|refine Go.exit ?_|refine Go.scope ?_)|refine Go.leave_normal ?_|refine Go.leave_same ?_|refine Go.leave_ret ?_|refine Go.ret_code ?_|refine Go.exit_code ?_|refine Go.leave_other rfl ?_|refine Go.sc_normal ?_|refine Go.sc_ret ?_|refine Go.sc_exit ?_|refine Go.exit_back ?_|refine Go.ret_back ?_))
        refine Go.loud (by kernel_rfl) rfl ?_
        (refine Go.runL (g:=?_))
        refine GoL.call rfl rfl rfl rfl rfl rfl rfl (((pickM_spec W4 hin (by omega) hcnt hxs v hvr).argA).mono ?_)
        intro v5 h5 hv5 k5
        refine ⟨fun i hi => .inl (List.mem_append.2 (.inr hi)), ?_⟩
        (refine Go.runL (g:=?_))
        refine GoL.end_ (hl := by (simp only [List.nil_append, List.cons_append]); repeat (first | exact loudP.nil | refine loudP.none ?_ | refine loudP.new (fun _ hb => absurd hb List.not_mem_nil) ?_ | refine loudP.row (by repeat (first | exact loudRowP.nil | refine loudRowP.none ?_ | refine loudRowP.bef (by decide +kernel) ?_)) ?_)) ?_
        have ge4 := W4.si.ge
        have h0m := List.mem_of_getElem? W4.h0
        have hnk : ∀ i ∈ l.map (·.p) ++ (xs ++ [B + 3, t0.p]), i = B + 3 ∨ B + 8 ≤ i := fun i hi => by
          simp only [List.mem_append, List.mem_map, List.mem_cons, List.not_mem_nil, or_false] at hi
          rcases hi with ⟨t, ht, rfl⟩ | hi | rfl | rfl
          · exact .inr (ge4 t ht).1
          · exact .inr (W4.xge i hi).1
          · exact .inl rfl
          · exact .inr (ge4 _ h0m).1
        have gc5 := k5.get gc4 (fun h => by have := hnk _ h; omega)
        have gk5 := k5.get gk4 (fun h => by have := hnk _ h; omega)
        have gp5 := k5.get gp4 (fun h => by have := hnk _ h; omega)
        have gi5 := k5.get gi4 (fun h => by have := hnk _ h; omega)
        have gb5 := k5.get gb4 (fun h => by have := hnk _ h; omega)
        have rv5 := rv4.keeps k5 (fun i hi hm => by have := ltc i hi; have := hnk _ hm; omega)
        have n5 := k5.1
        clear gc4 gk4 gp4 gi4 gb4 rv4 gs4 gt4
        (refine Go.run (g:=?_))
        refine Go.name ?_
        intro h6 e6
        have k6 : Keeps [B + 6] h5 h6 := by subst e6; exact (Keeps.rfl _ _).put (by simp) _
        have gi6 : h6.get (B + 6) = some (.cells [.bool false] 4) := by subst e6; exact AHeap.get_put_same _ (AHeap.lt gi5) _
        clear e6
        (first|refine Go.finT (by first|exact .inr rfl|exact .inl rfl) rfl ?_|refine Go.fin1 (by first|exact .inr rfl|exact .inl rfl) rfl (hq:=?_))
        refine ⟨rfl, ⟨k6.get gc5 (by simp), k6.get gk5 (by simp), k6.get gp5 (by simp), gi6, k6.get gb5 (by simp), rv5.keeps k6 (fun i hi hm => by have := ltc i hi; simp only [List.mem_singleton] at hm; omega), ltc⟩, ?_⟩
        rcases hv5 with W5 | ⟨i, w, l', a1, a2, a3, W5⟩
        · exact .inl (W5.keeps k6 (fun i hi => by simp only [List.mem_singleton] at hi; omega) (Nat.le_refl _))
        · exact .inr ⟨i, w, l', a1, a2, a3, W5.keeps k6 (fun i hi => by simp only [List.mem_singleton] at hi; omega) (Nat.le_refl _)⟩
      · (refine Go.run (g:=?_))
        refine Go.name ?_
        intro h5 e5
        have k5 : Keeps [B + 6] h4 h5 := by subst e5; exact (Keeps.rfl _ _).put (by simp) _
        have gi5 : h5.get (B + 6) = some (.cells [.bool false] 4) := by subst e5; exact AHeap.get_put_same _ (AHeap.lt gi4) _
        clear e5
        (first|refine Go.finT (by first|exact .inr rfl|exact .inl rfl) rfl ?_|refine Go.fin1 (by first|exact .inr rfl|exact .inl rfl) rfl (hq:=?_))
        refine ⟨rfl, ⟨k5.get gc4 (by simp), k5.get gk4 (by simp), k5.get gp4 (by simp), gi5, k5.get gb4 (by simp), rv4.keeps k5 (fun i hi hm => by have := ltc i hi; simp only [List.mem_singleton] at hm; omega), ltc⟩, .inl ?_⟩
        exact W4.keeps k5 (fun i hi => by simp only [List.mem_singleton] at hi; omega) (Nat.le_succ _)
  · have q' : (0 : Int) < (T : Int) := by omega
    (refine Go.run (g:=?_))
    refine GoR.name ?_
    intro h4 e4
    have K4 : Keeps [B + 6, B + 5, B + 3, B + 4] h h4 := by subst e4; exact ((((Keeps.rfl _ _).put (by simp) _).put (by simp) _).put (by simp) _).put (by simp) _
    have gp4 : h4.get (B + 5) = some (.cells [.int .i64 (S + 1 : Nat)] 3) := by subst e4; rw [AHeap.get_put_ne _ _ (by omega), AHeap.get_put_ne _ _ (by omega)]; exact AHeap.get_put_same _ (by rw [AHeap.n_put]; exact AHeap.lt gp) _
    have gi4 : h4.get (B + 6) = some (.cells [.bool true] 4) := by subst e4; rw [AHeap.get_put_ne _ _ (by omega), AHeap.get_put_ne _ _ (by omega), AHeap.get_put_ne _ _ (by omega)]; exact AHeap.get_put_same _ (AHeap.lt gi) _
    have gt4 : h4.get (B + 3) = some (.cells [.int .i64 (T - 1 : Nat)] 3) := by subst e4; rw [AHeap.get_put_ne _ _ (by omega)]; exact AHeap.get_put_same _ (by simp only [AHeap.n_put]; exact AHeap.lt gt) _
    have gk4 : h4.get (B + 4) = some (.cells [.int .i64 (K + 1 : Nat)] 3) := by subst e4; exact AHeap.get_put_same _ (by simp only [AHeap.n_put]; exact AHeap.lt gk) _
    clear e4
    simp only [if_pos q]
    have W4 := W.keepsT (cnt' := cnt) K4 (fun i hi => by simp only [List.mem_cons, List.not_mem_nil, or_false] at hi; omega) (Nat.le_refl _) gt4
    have rv4 := rv.keeps K4 (fun i hi hm => by have := ltc i hi; simp only [List.mem_cons, List.not_mem_nil, or_false] at hm; omega)
    have gc4 := K4.get gc (by simp)
    have gb4 := K4.get gb (by simp)
    have gs4 := W4.gs
    clear gt gs gc gk gp gi gb
    have hB := W4.si.st
    rcases Nat.eq_zero_or_pos ins.length with m0 | m0
    · have m0' : ¬ (0 : Int) < (ins.length : Int) := by omega
      rw [decide_eq_false m0']
      (refine Go.run (g:=?_))
      refine Go.name ?_
      intro h5 e5
      have k5 : Keeps [B + 6] h4 h5 := by subst e5; exact (Keeps.rfl _ _).put (by simp) _
      have gi5 : h5.get (B + 6) = some (.cells [.bool false] 4) := by subst e5; exact AHeap.get_put_same _ (AHeap.lt gi4) _
      clear e5
      (first|refine Go.finT (by first|exact .inr rfl|exact .inl rfl) rfl ?_|refine Go.fin1 (by first|exact .inr rfl|exact .inl rfl) rfl (hq:=?_))
      refine ⟨rfl, ⟨k5.get gc4 (by simp), k5.get gk4 (by simp), k5.get gp4 (by simp), gi5, k5.get gb4 (by simp), rv4.keeps k5 (fun i hi hm => by have := ltc i hi; simp only [List.mem_singleton] at hm; omega), ltc⟩, .inl ?_⟩
      exact W4.keeps k5 (fun i hi => by simp only [List.mem_singleton] at hi; omega) (Nat.le_succ _)
    · have m0' : (0 : Int) < (ins.length : Int) := by omega
      have hk : (S + 1) % ins.length < ins.length := Nat.mod_lt _ m0
      have c0 := ints_get hk
      have hbe : (S + 1) % ins.length < (ints ins).length := by rw [ints_len]; exact hk
      have hvr := hins _ (List.getElem_mem hk)
      generalize ins[(S + 1) % ins.length] = v at *
      by_cases v0 : (0 : Int) ≤ v
      · (iterate 19 (first|refine GoR.end ?_|(refine GoR.gd rfl ?_;first|refine GoR.wanted' rfl rfl rfl rfl (g:=?_)|refine GoR.unwanted' rfl rfl rfl rfl (hd:=rfl) (hN:=rfl) (g:=?_)|refine GoR.unwantedU rfl rfl rfl rfl rfl rfl ?_)|(refine GoR.kk 0 rfl ?_;first|refine GoR.move rfl rfl rfl rfl rfl ?_|refine GoR.assign rfl rfl rfl rfl rfl ?_)|(refine GoR.kk 1 rfl ?_;first|refine GoR.load' rfl rfl rfl rfl rfl (g:=?_)|refine GoR.loadA' rfl rfl rfl rfl rfl (hv:=rfl) (g:=?_)|refine GoR.loadV' rfl rfl rfl rfl rfl (g:=?_)|refine GoR.loadVN' rfl rfl rfl rfl rfl (g:=?_))|(refine GoR.kk 2 rfl ?_;first|refine GoR.store' rfl rfl rfl rfl rfl (hl:=rfl) (h1:=rfl) (h3:=rfl) (g:=?_))|(refine GoR.kk 3 rfl ?_;first|refine GoR.fieldAddr rfl rfl rfl rfl rfl ?_|refine GoR.indexN' rfl rfl rfl rfl rfl rfl (g:=?_)|refine GoR.indexNs' rfl rfl rfl rfl rfl rfl (g:=?_)|refine GoR.indexV' rfl rfl rfl rfl rfl rfl (g:=?_)|refine GoR.indexA' rfl rfl rfl rfl rfl rfl (g:=?_)|refine GoR.fieldV' rfl rfl rfl rfl rfl (g:=?_))|(refine GoR.kk 4 rfl ?_;first|refine GoR.eq rfl rfl rfl rfl rfl rfl ?_|refine GoR.ne rfl rfl rfl rfl rfl rfl ?_|refine GoR.lt rfl rfl rfl rfl rfl rfl ?_|refine GoR.le rfl rfl rfl rfl rfl rfl ?_|refine GoR.gt rfl rfl rfl rfl rfl rfl ?_|refine GoR.ge rfl rfl rfl rfl rfl rfl ?_|refine GoR.addN' rfl rfl rfl rfl rfl rfl (g:=?_)|refine GoR.subN' rfl rfl rfl rfl rfl rfl (g:=?_)|refine GoR.add' rfl rfl rfl rfl rfl rfl (g:=?_)|refine GoR.sub' rfl rfl rfl rfl rfl rfl (g:=?_)|refine GoR.addM' rfl rfl rfl rfl rfl rfl (g:=?_)|refine GoR.subM' rfl rfl rfl rfl rfl rfl (g:=?_)|refine GoR.mulM' rfl rfl rfl rfl rfl rfl (g:=?_)|refine GoR.shrN rfl rfl rfl rfl rfl rfl rfl ?_|refine GoR.structEq rfl rfl rfl rfl rfl rfl (by rfl) (by rfl) ?_|refine GoR.structNe rfl rfl rfl rfl rfl rfl (by rfl) (by rfl) ?_|refine GoR.strEq rfl rfl rfl rfl rfl rfl ?_|refine GoR.strNe rfl rfl rfl rfl rfl rfl ?_|refine GoR.remN' rfl rfl rfl rfl rfl rfl (g:=?_)|refine GoR.quoN' rfl rfl rfl rfl rfl rfl (g:=?_)|refine GoR.shlN' rfl rfl rfl rfl rfl rfl rfl (g:=?_)|refine GoR.orN' rfl rfl rfl rfl rfl rfl (g:=?_))|(refine GoR.kk 5 rfl ?_;first|refine GoR.len rfl rfl rfl rfl rfl ?_|refine GoR.lenStr rfl rfl rfl rfl rfl ?_|refine GoR.capB rfl rfl rfl rfl rfl ?_)|(refine GoR.kk 7 rfl ?_;first|refine GoR.pickE' rfl rfl rfl rfl rfl (hx:=rfl) (hy:=rfl) (g:=?_)|refine GoR.pickN' rfl rfl rfl rfl rfl (hx:=rfl) (hy:=rfl) (g:=?_)|refine GoR.pickB rfl rfl rfl rfl rfl rfl rfl ?_)|(refine GoR.kk 8 rfl ?_;first|refine GoR.boxA rfl rfl rfl rfl rfl ?_|refine GoR.boxS rfl rfl rfl rfl rfl rfl ?_|refine GoR.alloc rfl rfl rfl rfl ?_)|(refine GoR.kk 9 rfl ?_;first|refine GoR.strV' rfl rfl rfl rfl rfl (g:=?_)|refine GoR.conv_u8 rfl rfl rfl rfl rfl ?_|refine GoR.convW' rfl rfl rfl rfl rfl (g:=?_)|refine GoR.conv_u16 rfl rfl rfl rfl rfl ?_|refine GoR.conv_u32 rfl rfl rfl rfl rfl ?_)|(refine GoR.kk 10 rfl ?_;first|refine GoR.build' rfl rfl rfl rfl rfl rfl (g:=?_))|(refine GoR.kk 11 rfl ?_;first|refine GoR.extract rfl rfl rfl rfl rfl rfl ?_|refine GoR.not rfl rfl rfl rfl rfl ?_|refine GoR.nilCheck rfl rfl rfl rfl rfl ?_|refine GoR.nilCheckF rfl rfl rfl rfl rfl ?_|refine GoR.makeFunc rfl rfl rfl rfl rfl rfl ?_)|(refine Go.kk 0 rfl ?_;refine Go.seq ?_)|(refine Go.kk 1 rfl ?_;refine Go.region (by kernel_rfl) rfl ?_)|(refine Go.kk 2 rfl ?_;refine Go.drawnQ rfl (by kernel_rfl) rfl ?_)|(refine Go.kk 3 rfl ?_;first|refine Go.cond_t' rfl (g:=?_)|refine Go.cond_f' rfl (g:=?_))|(refine Go.kk 4 rfl ?_;refine Go.block ?_)|(refine Go.kk 5 rfl ?_;first|refine Go.skip ?_|refine Go.ret ?_|refine Go.exit ?_|refine Go.scope ?_)|refine Go.leave_normal ?_|refine Go.leave_same ?_|refine Go.leave_ret ?_|refine Go.ret_code ?_|refine Go.exit_code ?_|refine Go.leave_other rfl ?_|refine Go.sc_normal ?_|refine Go.sc_ret ?_|refine Go.sc_exit ?_|refine Go.exit_back ?_|refine Go.ret_back ?_))
        refine Go.loud (by kernel_rfl) rfl ?_
        (refine Go.runL (g:=?_))
        refine GoL.call rfl rfl rfl rfl rfl rfl rfl (((pickM_spec W4 hin (by omega) hcnt hxs v hvr).argA).mono ?_)
        intro v5 h5 hv5 k5
        refine ⟨fun i hi => .inl (List.mem_append.2 (.inr hi)), ?_⟩
        (refine Go.runL (g:=?_))
        refine GoL.end_ (hl := by (simp only [List.nil_append, List.cons_append]); repeat (first | exact loudP.nil | refine loudP.none ?_ | refine loudP.new (fun _ hb => absurd hb List.not_mem_nil) ?_ | refine loudP.row (by repeat (first | exact loudRowP.nil | refine loudRowP.none ?_ | refine loudRowP.bef (by decide +kernel) ?_)) ?_)) ?_
        have ge4 := W4.si.ge
        have h0m := List.mem_of_getElem? W4.h0
        have hnk : ∀ i ∈ l.map (·.p) ++ (xs ++ [B + 3, t0.p]), i = B + 3 ∨ B + 8 ≤ i := fun i hi => by
          simp only [List.mem_append, List.mem_map, List.mem_cons, List.not_mem_nil, or_false] at hi
          rcases hi with ⟨t, ht, rfl⟩ | hi | rfl | rfl
          · exact .inr (ge4 t ht).1
          · exact .inr (W4.xge i hi).1
          · exact .inl rfl
          · exact .inr (ge4 _ h0m).1
        have gc5 := k5.get gc4 (fun h => by have := hnk _ h; omega)
        have gk5 := k5.get gk4 (fun h => by have := hnk _ h; omega)
        have gp5 := k5.get gp4 (fun h => by have := hnk _ h; omega)
        have gi5 := k5.get gi4 (fun h => by have := hnk _ h; omega)
        have gb5 := k5.get gb4 (fun h => by have := hnk _ h; omega)
        have rv5 := rv4.keeps k5 (fun i hi hm => by have := ltc i hi; have := hnk _ hm; omega)
        have n5 := k5.1
        clear gc4 gk4 gp4 gi4 gb4 rv4 gs4 gt4
        (refine Go.run (g:=?_))
        refine Go.name ?_
        intro h6 e6
        have k6 : Keeps [B + 6] h5 h6 := by subst e6; exact (Keeps.rfl _ _).put (by simp) _
        have gi6 : h6.get (B + 6) = some (.cells [.bool false] 4) := by subst e6; exact AHeap.get_put_same _ (AHeap.lt gi5) _
        clear e6
        (first|refine Go.finT (by first|exact .inr rfl|exact .inl rfl) rfl ?_|refine Go.fin1 (by first|exact .inr rfl|exact .inl rfl) rfl (hq:=?_))
        refine ⟨rfl, ⟨k6.get gc5 (by simp), k6.get gk5 (by simp), k6.get gp5 (by simp), gi6, k6.get gb5 (by simp), rv5.keeps k6 (fun i hi hm => by have := ltc i hi; simp only [List.mem_singleton] at hm; omega), ltc⟩, ?_⟩
        rcases hv5 with W5 | ⟨i, w, l', a1, a2, a3, W5⟩
        · exact .inl (W5.keeps k6 (fun i hi => by simp only [List.mem_singleton] at hi; omega) (Nat.le_refl _))
        · exact .inr ⟨i, w, l', a1, a2, a3, W5.keeps k6 (fun i hi => by simp only [List.mem_singleton] at hi; omega) (Nat.le_refl _)⟩
      · (refine Go.run (g:=?_))
        refine Go.name ?_
        intro h5 e5
        have k5 : Keeps [B + 6] h4 h5 := by subst e5; exact (Keeps.rfl _ _).put (by simp) _
        have gi5 : h5.get (B + 6) = some (.cells [.bool false] 4) := by subst e5; exact AHeap.get_put_same _ (AHeap.lt gi4) _
        clear e5
        (first|refine Go.finT (by first|exact .inr rfl|exact .inl rfl) rfl ?_|refine Go.fin1 (by first|exact .inr rfl|exact .inl rfl) rfl (hq:=?_))
        refine ⟨rfl, ⟨k5.get gc4 (by simp), k5.get gk4 (by simp), k5.get gp4 (by simp), gi5, k5.get gb4 (by simp), rv4.keeps k5 (fun i hi hm => by have := ltc i hi; simp only [List.mem_singleton] at hm; omega), ltc⟩, .inl ?_⟩
        exact W4.keeps k5 (fun i hi => by simp only [List.mem_singleton] at hi; omega) (Nat.le_succ _)
end Go.Proofs.Ytacfneokhmnkbaa
namespace Go.Proofs.Ytacfneokhmnkbaa
set_option maxRecDepth 100000
theorem WW.set0 {B : Nat} {xs ws : List Nat} {l : List TK} {la : Option Addr} {lc T cnt cnt' : Nat} {t0 t0' : TK} {H H' : AHeap} (W : WW B xs ws l la lc T cnt t0 H) (hp : t0'.p = t0.p) (hf : t0'.fn = t0.fn) (hc : cnt ≤ cnt') (hk : t0'.pk ≤ cnt') (k : Keeps [t0.p] H H') (hS : SI (B + 8) (B + 1) (l.set 0 t0') la lc H') : WW B xs ws (l.set 0 t0') la lc T cnt' t0' H' := by
  have hl0 := lt_of_some W.h0
  have h0m := List.mem_of_getElem? W.h0
  have ge0 := (W.si.ge _ h0m).1
  refine ⟨hS, by rw [List.length_set]; exact W.len, W.lws, k.get W.gs (by simp only [List.mem_singleton]; omega), k.get W.gt (by simp only [List.mem_singleton]; omega), List.getElem?_set_self hl0, hf.trans W.fn0, hk, fun i x w t hx hw ht => ?_, fun x hx => ?_, W.xap⟩
  · rw [List.getElem?_set_ne (by omega)] at ht
    have m := W.mks i x w t hx hw ht
    have x3 := (W.xge x (List.mem_of_getElem? hx)).2.2 t0 h0m
    exact { m with gx := k.get m.gx (by simp only [List.mem_singleton]; exact fun e => x3 e.symm), pk := Nat.le_trans m.pk hc }
  · obtain ⟨a1, a2, a3⟩ := W.xge x hx
    refine ⟨a1, a2, fun u hu => ?_⟩
    rcases List.mem_or_eq_of_mem_set hu with hu | rfl
    · exact a3 u hu
    · rw [hp]; exact a3 t0 h0m
def Mv (t0 : TK) (ws : List Nat) (T K : Nat) (t0' : TK) (ws' : List Nat) (T' K' : Nat) : Prop :=
  (∃ i w, ws[i]? = some w ∧ w ≠ 0 ∧ ws' = ws.set i (mvW w) ∧ T' = mvT w T ∧ t0' = mvS w t0 ∧ K' = K) ∨
  (runB t0 = true ∧ K' = (if 0 < T then K + 1 else K) ∧ ((ws' = ws ∧ T' = T - 1 ∧ t0' = ended (begun t0) (if 0 < T then 1 else 2)) ∨ ∃ i w, ws[i]? = some w ∧ w ≠ 0 ∧ ws' = ws.set i (mvW w) ∧ T' = mvT w (T - 1) ∧ t0' = ended (mvS w (begun t0)) (if 0 < T then 1 else 2)))
structure TI (t0 : TK) (ws : List Nat) (T K all M : Nat) : Prop where
  inn : t0.inn = false
  is : t0.is = 1 ∨ t0.is = 2 ∧ T = 0
  sum : K + T + (ws.map (· / 4)).sum = all
  m : ws.sum + 2 * T + (if t0.is = 1 then 1 else 0) = M
  hw : ∀ w ∈ ws, w = 0 ∨ w % 4 = 1
theorem sum_set : ∀ {ws : List Nat} {i w : Nat} (v : Nat), ws[i]? = some w → (ws.set i v).sum + w = ws.sum + v
  | [], i, w, v, h => by simp at h
  | a :: ws, 0, w, v, h => by simp at h; subst h; simp; omega
  | a :: ws, i + 1, w, v, h => by
    have := sum_set (ws := ws) (i := i) (w := w) v (by simpa using h)
    simp only [List.set_cons_succ, List.sum_cons]
    omega
theorem mvW_cases {w : Nat} (h0 : w ≠ 0) (h : w = 0 ∨ w % 4 = 1) : (w = 1 ∧ mvW w = 0 ∧ (∀ T, mvT w T = T) ∧ ∀ t, mvS w t = t) ∨ (5 ≤ w ∧ mvW w = w - 4 ∧ (w - 4) % 4 = 1 ∧ (∀ T, mvT w T = T + 1) ∧ ∀ t, mvS w t = wakeT t) := by
  unfold mvW mvT mvS
  rcases Nat.eq_zero_or_pos (w / 4) with q | q
  · exact .inl ⟨by omega, by rw [if_pos q], fun T => if_pos q, fun t => if_pos q⟩
  · have q' : ¬ w / 4 = 0 := by omega
    exact .inr ⟨by omega, by rw [if_neg q'], by omega, fun T => if_neg q', fun t => if_neg q'⟩
theorem sums_set {ws : List Nat} {i w : Nat} (v : Nat) (h : ws[i]? = some w) : ((ws.set i v).map (· / 4)).sum + w / 4 = (ws.map (· / 4)).sum + v / 4 := by
  rw [List.map_set]
  exact sum_set (v / 4) (by rw [List.getElem?_map, h]; rfl)
theorem wakeT_out {t : TK} (h : t.inn = false) : (wakeT t).is = (if t.is = 2 then 1 else t.is) ∧ (wakeT t).inn = false := by
  unfold wakeT
  rw [h]
  simp only [Bool.false_eq_true, if_false]
  split
  · exact ⟨rfl, rfl⟩
  · exact ⟨rfl, h⟩
theorem mem_set_or {ws : List Nat} {i v : Nat} (hw : ∀ w ∈ ws, w = 0 ∨ w % 4 = 1) (hv : v = 0 ∨ v % 4 = 1) : ∀ w ∈ ws.set i v, w = 0 ∨ w % 4 = 1 := fun w hm => by
  rcases List.mem_or_eq_of_mem_set hm with h | rfl
  · exact hw w h
  · exact hv
theorem Mv.ti {t0 t0' : TK} {ws ws' : List Nat} {T K T' K' all M : Nat} (I : TI t0 ws T K all M) (v : Mv t0 ws T K t0' ws' T' K') : ∃ M', M' < M ∧ TI t0' ws' T' K' all M' := by
  obtain ⟨hin, his, hsum, hm, hw⟩ := I
  have hrun : (if t0.is = 1 then 1 else 0) = if runB t0 = true then 1 else 0 := by simp [runB, hin]
  rcases v with ⟨i, w, h1, h2, rfl, rfl, rfl, rfl⟩ | ⟨hr, rfl, v⟩
  · have e1 := sum_set (mvW w) h1
    have e2 := sums_set (mvW w) h1
    rcases mvW_cases h2 (hw w (List.mem_of_getElem? h1)) with ⟨rfl, c1, c2, c3⟩ | ⟨c0, c1, c4, c2, c3⟩
    · rw [c1] at e1 e2 ⊢
      rw [c2, c3]
      exact ⟨_, by omega, hin, his, by omega, rfl, mem_set_or hw (.inl rfl)⟩
    · rw [c1] at e1 e2 ⊢
      rw [c2, c3]
      obtain ⟨w1, w2⟩ := wakeT_out hin
      refine ⟨_, ?_, w2, ?_, by omega, rfl, mem_set_or hw (.inr c4)⟩
      · rw [w1]
        rcases his with h | ⟨h, h'⟩
        · rw [h] at hm ⊢; simp at hm ⊢; omega
        · rw [h] at hm ⊢; simp at hm ⊢; omega
      · left
        rw [w1]
        rcases his with h | ⟨h, h'⟩ <;> rw [h] <;> simp
  · have his1 : t0.is = 1 := by simp only [runB, Bool.and_eq_true, decide_eq_true_eq] at hr; exact hr.1
    rw [if_pos his1] at hm
    rcases v with ⟨rfl, rfl, rfl⟩ | ⟨i, w, h1, h2, rfl, rfl, rfl⟩
    · rcases Nat.eq_zero_or_pos T with q | q
      · subst q
        refine ⟨ws'.sum, by omega, rfl, ?_, by simpa using hsum, ?_, hw⟩
        · right; simp [ended, begun]
        · simp [ended, begun]
      · rw [if_pos q, if_pos q]
        refine ⟨_, ?_, rfl, ?_, by omega, rfl, hw⟩
        · simp only [ended, begun]; simp; omega
        · left; simp [ended]
    · have e1 := sum_set (mvW w) h1
      have e2 := sums_set (mvW w) h1
      rcases mvW_cases h2 (hw w (List.mem_of_getElem? h1)) with ⟨rfl, c1, c2, c3⟩ | ⟨c0, c1, c4, c2, c3⟩
      · rw [c1] at e1 e2 ⊢
        rw [c2, c3]
        rcases Nat.eq_zero_or_pos T with q | q
        · subst q
          refine ⟨_, ?_, rfl, ?_, by rw [if_neg (Nat.lt_irrefl 0)]; omega, rfl, mem_set_or hw (.inl rfl)⟩
          · simp [ended, begun]; omega
          · right; simp [ended, begun]
        · rw [if_pos q, if_pos q]
          refine ⟨_, ?_, rfl, ?_, by omega, rfl, mem_set_or hw (.inl rfl)⟩
          · simp only [ended, begun]; simp; omega
          · left; simp [ended]
      · rw [c1] at e1 e2 ⊢
        rw [c2, c3]
        have hwk : (wakeT (begun t0)).wk = true := by simp [wakeT, begun]
        rcases Nat.eq_zero_or_pos T with q | q
        · subst q
          refine ⟨_, ?_, rfl, ?_, by rw [if_neg (Nat.lt_irrefl 0)]; omega, rfl, mem_set_or hw (.inr c4)⟩
          · simp [ended, hwk]; omega
          · left; simp [ended, hwk]
        · rw [if_pos q, if_pos q]
          refine ⟨_, ?_, rfl, ?_, by omega, rfl, mem_set_or hw (.inr c4)⟩
          · simp only [ended]; simp; omega
          · left; simp [ended]
def QT (B : Nat) (xs ws : List Nat) (l : List TK) (la : Option Addr) (lc T cnt : Nat) (t0 : TK) (c : Option Addr) (mc : Nat) (ins : List Int) (K S : Nat) (h : AHeap) (j : Nat) (l2 : List TK) (la2 : Option Addr) (lc2 r : Nat) (h6 : AHeap) : Prop :=
  j = 0 ∧ runB t0 = true ∧ la2 = la ∧ lc2 = lc ∧ r = (if 0 < T then 1 else 2) ∧ TX B c mc ins (if 0 < T then K + 1 else K) (S + 1) h6 ∧ l2.map (·.p) = l.map (·.p) ∧
  ((l2 = l.set 0 (begun t0) ∧ WW B xs ws l2 la lc (T - 1) (cnt + 2) (begun t0) h6) ∨ ∃ i w, ws[i]? = some w ∧ w ≠ 0 ∧ WW B xs (ws.set i (mvW w)) l2 la lc (mvT w (T - 1)) (cnt + 2) (mvS w (begun t0)) h6)
theorem begun_p (t : TK) : (begun t).p = t.p := rfl
theorem mvS_p (w : Nat) (t0 : TK) : (mvS w t0).p = t0.p := by unfold mvS; split; rfl; exact wakeT_p _
theorem map_set0 {l : List TK} {t0 t0' : TK} (h0 : l[0]? = some t0) (hp : t0'.p = t0.p) : (l.set 0 t0').map (·.p) = l.map (·.p) := by
  cases l with
  | nil => rfl
  | cons a l => simp at h0; subst h0; simp [hp]
theorem TX.keeps {B : Nat} {c : Option Addr} {mc : Nat} {ins : List Int} {K S : Nat} {wr : List Nat} {H H' : AHeap} (X : TX B c mc ins K S H) (k : Keeps wr H H') (hw : ∀ i ∈ wr, B ≤ i ∧ i ≠ B ∧ i ≠ B + 4 ∧ i ≠ B + 5 ∧ i ≠ B + 6 ∧ i ≠ B + 7) : TX B c mc ins K S H' :=
  ⟨k.get X.gc (fun h => (hw _ h).2.1 rfl), k.get X.gk (fun h => (hw _ h).2.2.1 rfl), k.get X.gp (fun h => (hw _ h).2.2.2.1 rfl), k.get X.gi (fun h => (hw _ h).2.2.2.2.1 rfl), k.get X.gb (fun h => (hw _ h).2.2.2.2.2 rfl), X.rv.keeps k (fun i hi hm => by have := X.lt i hi; have := (hw _ hm).1; omega), X.lt⟩
abbrev wrT (B : Nat) (l : List TK) (xs : List Nat) (t0 : TK) : List Nat := l.map (·.p) ++ ([B + 6, B + 5, B + 3, B + 4] ++ (l.map (·.p) ++ (xs ++ [B + 3, t0.p])))
set_option maxHeartbeats 4000000 in
theorem pickT_spec {B : Nat} {xs ws : List Nat} {l : List TK} {la : Option Addr} {lc T cnt : Nat} {t0 : TK} {h : AHeap} (W : WW B xs ws l la lc T cnt t0 h) (hin : t0.inn = false) (hT : T < 50000) (hcnt : cnt < 500000) (hxs : xs.length ≤ 100) {c : Option Addr} {mc : Nat} {ins : List Int} {K S : Nat} (X : TX B c mc ins K S h) (hins : ∀ x ∈ ins, -9223372036854775808 ≤ x ∧ x ≤ 9223372036854775807) (hm : ins.length ≤ 500) (hK : K < 1000000) (hS : S < 1000000) (n : Int) (hn : -9223372036854775808 ≤ n ∧ n ≤ 9223372036854775807) : CallS Try.prog (wrT B l xs t0) 28 [ptr (B + 1), .int .i64 n] h fun v h' =>
    (idx runB l 0 = [] ∧ v = .tuple #[.int .i64 0, .bool false] ∧ Same h h') ∨
    (∃ j : Nat, v = .tuple #[.int .i64 j, .bool true] ∧ ∃ ws' l' T' t0' K' S', TX B c mc ins K' S' h' ∧ S' ≤ S + 1 ∧ WW B xs ws' l' la lc T' (cnt + 2) t0' h' ∧ l'.map (·.p) = l.map (·.p) ∧ t0'.p = t0.p ∧ Mv t0 ws T K t0' ws' T' K') := by
  have hlen := W.len
  have h0m := List.mem_of_getElem? W.h0
  have hl0 := lt_of_some W.h0
  have hge := W.si.ge
  have hown := W.si.own
  have gep : ∀ i ∈ l.map (·.p), B + 8 ≤ i := fun i hi => by obtain ⟨t, ht, rfl⟩ := List.mem_map.1 hi; exact (hge t ht).1
  refine (pick_gen (B + 8) (B + 1) l (by omega) la lc h W.si (fun t ht => ?_) n hn ([B + 6, B + 5, B + 3, B + 4] ++ (l.map (·.p) ++ (xs ++ [B + 3, t0.p]))) (fun j l2 la2 lc2 r h6 => (QM B xs ws l la lc T t0 h j l2 la2 lc2 r h6 ∧ TX B c mc ins K S h6) ∨ QT B xs ws l la lc T cnt t0 c mc ins K S h j l2 la2 lc2 r h6) (fun j t ht hrun h5 I5 K5 => ?_)).mono fun v h' hv => ?_
  · obtain ⟨j, hj, hjt⟩ := List.mem_iff_getElem.1 ht
    have hjs : l[j]? = some t := by rw [List.getElem?_eq_getElem hj, hjt]
    cases j with
    | zero => rw [W.h0] at hjs; obtain rfl := Option.some.inj hjs; have := W.pk0; omega
    | succ i =>
      obtain ⟨x, hx⟩ := getSome (l := xs) (i := i) (by omega)
      obtain ⟨w, hw⟩ := getSome (l := ws) (i := i) (by have := W.lws; omega)
      have := (W.mks i x w t hx hw hjs).pk
      omega
  · cases j with
    | zero =>
      rw [W.h0] at ht
      obtain rfl := Option.some.inj ht
      have W5 : WW B xs ws (l.set 0 (begun t0)) la lc T (cnt + 1) (begun t0) h5 := W.set0 rfl rfl (Nat.le_succ _) (by have := W.pk0; simp only [begun]; omega) K5 I5
      have ge0 := (hge _ h0m).1
      have X5 := X.keeps K5 (fun i hi => by simp only [List.mem_singleton] at hi; omega)
      have C := taker_spec W5 rfl (by omega) (by omega) hxs X5 hins hm hK hS
      refine ⟨_, _, W.fn0, by kernel_rfl, (C.mono fun v h6 hv => ?_).weak fun i hi => ?_⟩
      · obtain ⟨rfl, X6, hv⟩ := hv
        have em := map_set0 W.h0 (begun_p t0)
        rcases hv with W6 | ⟨i, w, l', h1, h2, h3, W6⟩
        · exact ⟨if 0 < T then 1 else 2, l.set 0 (begun t0), la, lc, begun t0, by split <;> rfl, by split <;> decide, W6.h0, rfl, W6.si, .inr ⟨rfl, hrun, rfl, rfl, rfl, X6, em, .inl ⟨rfl, W6⟩⟩⟩
        · exact ⟨if 0 < T then 1 else 2, l', la, lc, _, by split <;> rfl, by split <;> decide, W6.h0, mvS_p _ _, W6.si, .inr ⟨rfl, hrun, rfl, rfl, rfl, X6, h3.trans em, .inr ⟨i, w, h1, h2, W6⟩⟩⟩
      · rw [map_set0 W.h0 (begun_p t0)] at hi
        exact hi
    | succ i =>
      obtain ⟨F, cp, e1, e2, C⟩ := mk_step W (by omega) hxs ht hrun I5 K5
      refine ⟨F, cp, e1, e2, (C.kp.mono fun v h6 hv => ?_).weak fun k hk => List.mem_append.2 (.inr (List.mem_append.2 (.inr hk)))⟩
      obtain ⟨⟨r, l2, la2, lc2, t2, a1, a2, a3, a4, a5, a6⟩, k6⟩ := hv
      refine ⟨r, l2, la2, lc2, t2, a1, a2, a3, a4, a5, .inl ⟨a6, ?_⟩⟩
      have get := (hge _ (List.mem_of_getElem? ht)).1
      have ge0 := (hge _ h0m).1
      have X5 := X.keeps K5 (fun i hi => by simp only [List.mem_singleton] at hi; omega)
      refine X5.keeps k6 (fun k hk => ?_)
      rcases List.mem_append.1 hk with hk | hk
      · have := (W.xge k hk).1; omega
      · simp only [List.mem_cons, List.not_mem_nil, or_false] at hk; omega
  · rcases hv with ⟨a, b, s⟩ | ⟨j, t, ht, -, hrun, rfl, r, l2, la2, lc2, t2, h6, h2, hp2, q, hSI, k⟩
    · exact .inl ⟨a, b, s⟩
    · have get := (hge _ (List.mem_of_getElem? ht)).1
      refine .inr ⟨j, rfl, ?_⟩
      rcases q with ⟨q, X6⟩ | ⟨rfl, hr, rfl, rfl, rfl, X6, em, q⟩
      · have X' := X6.keeps k (fun i hi => by simp only [List.mem_singleton] at hi; omega)
        obtain ⟨i, w, l', h1, h3, h4, W'⟩ := mk_done W q ht h2 hSI k
        exact ⟨_, l', _, _, K, S, X', Nat.le_succ _, { W' with pk0 := Nat.le_succ_of_le W'.pk0, mks := fun i x w t a b c => by have m := W'.mks i x w t a b c; exact { m with pk := Nat.le_succ_of_le m.pk } }, h4, mvS_p _ _, .inl ⟨i, w, h1, h3, rfl, rfl, rfl, rfl⟩⟩
      · have X' := X6.keeps k (fun i hi => by simp only [List.mem_singleton] at hi; omega)
        rw [W.h0] at ht
        obtain rfl := Option.some.inj ht
        rcases q with ⟨e, W6⟩ | ⟨i, w, h1, h3, W6⟩
        · rw [W6.h0] at h2
          obtain rfl := Option.some.inj h2
          refine ⟨ws, _, T - 1, _, _, _, X', Nat.le_refl _, W6.set0 (t0' := ended (begun t0) (if 0 < T then 1 else 2)) rfl rfl (Nat.le_refl _) (W6.pk0) k hSI, (map_set0 W6.h0 (ended_p _ _)).trans em, rfl, .inr ⟨hr, rfl, .inl ⟨rfl, rfl, rfl⟩⟩⟩
        · rw [W6.h0] at h2
          obtain rfl := Option.some.inj h2
          have e0 : (mvS w (begun t0)).p = t0.p := mvS_p _ _
          refine ⟨_, _, _, _, _, _, X', Nat.le_refl _, W6.set0 (t0' := ended (mvS w (begun t0)) (if 0 < T then 1 else 2)) rfl rfl (Nat.le_refl _) (W6.pk0) (by rw [e0]; exact k) hSI, (map_set0 W6.h0 (ended_p _ _)).trans em, e0, .inr ⟨hr, rfl, .inr ⟨i, w, h1, h3, rfl, rfl, rfl⟩⟩⟩
end Go.Proofs.Ytacfneokhmnkbaa
namespace Go.Proofs.Ytacfneokhmnkbaa
set_option maxRecDepth 100000
attribute [local irreducible] Go GoR GoL
def encS (p : Nat × Nat) : Value := .agg #[.int .i64 p.1, .int .i64 p.2]
def SMap (h : AHeap) (r : Nat) (L : Nat) (p : List HEv) : Prop := ∃ f, IMap h r .i64 f ∧ ∀ c, al f c = (spanOf L p c).map encS
theorem SMap.same {h h' : AHeap} {r L : Nat} {p : List HEv} (m : SMap h r L p) (s : Same h h') : SMap h' r L p := by
  obtain ⟨f, a, b⟩ := m
  exact ⟨f, a.same s, b⟩
end Go.Proofs.Ytacfneokhmnkbaa
namespace Go.Proofs.Ytacfneokhmnkbaa
set_option maxRecDepth 100000
attribute [local irreducible] Go GoR GoL
end Go.Proofs.Ytacfneokhmnkbaa
namespace Go.Proofs.Ytacfneokhmnkbaa
set_option maxRecDepth 100000
attribute [local irreducible] Go GoR GoL
theorem SMap.at {h : AHeap} {r L : Nat} {p : List HEv} {f : List (Int × Value)} (hf : ∀ c, al f c = (spanOf L p c).map encS) (c : Int) : (al f c).isSome = (fd p c false).isSome := by
  rw [hf, spanOf]; cases fd p c false <;> rfl
end Go.Proofs.Ytacfneokhmnkbaa
namespace Go.Proofs.Ytacfneokhmnkbaa
set_option maxRecDepth 100000
attribute [local irreducible] Go GoR GoL
end Go.Proofs.Ytacfneokhmnkbaa
namespace Go.Proofs.Ytacfneokhmnkbaa
set_option maxRecDepth 100000
attribute [local irreducible] Go GoR GoL
end Go.Proofs.Ytacfneokhmnkbaa
namespace Go.Proofs.Ytacfneokhmnkbaa
set_option maxRecDepth 100000
attribute [local irreducible] Go GoR GoL
end Go.Proofs.Ytacfneokhmnkbaa
namespace Go.Proofs.Ytacfneokhmnkbaa
set_option maxRecDepth 100000
attribute [local irreducible] Go GoR GoL
end Go.Proofs.Ytacfneokhmnkbaa
namespace Go.Proofs.Ytacfneokhmnkbaa
set_option maxRecDepth 100000
attribute [local irreducible] Go GoR GoL
end Go.Proofs.Ytacfneokhmnkbaa
namespace Go.Proofs.Ytacfneokhmnkbaa
end Go.Proofs.Ytacfneokhmnkbaa
namespace Go.Proofs.Ytacfneokhmnkbaa
open Go.RowKit
set_option maxRecDepth 100000
attribute [local irreducible] Go GoR GoL
def asB : Value → AHeap → List Nat → Option Bool
  | .bool b, _, _ => some b
  | _, _, _ => none
theorem asB_true {v : Value} {h : AHeap} {wr : List Nat} (e : asB v h wr = some true) : v = .bool true := by
  unfold asB at e
  split at e
  · cases e; rfl
  · cases e
end Go.Proofs.Ytacfneokhmnkbaa
namespace Go.Proofs.Ytacfneokhmnkbaa
set_option maxRecDepth 100000
attribute [local irreducible] Go GoR GoL
theorem known25Run : callK (A := Bool) Try.prog noS (fev Try.prog noS 20000) 13 [] emptyH asB = some true := by kernel_rfl
theorem known25 (h : AHeap) : CallS Try.prog [] 13 [] h fun u h' => u = .bool true ∧ h' = h := by
  obtain ⟨v, h', wr, hc, he⟩ := callRun_of (noS_ok _) known25Run
  obtain rfl := asB_true he
  exact CallS.known noGlobals hc rfl h
theorem new_spec (h : AHeap) : CallS Try.prog [] 14 [] h fun v h' => v = .pointer (some ⟨h.n, 0, none⟩) ∧ h'.n = h.n + 1 ∧ h'.get h.n = some (.cells [.slice none 0 0] 113) := by
  (refine CallS.of0 Try.func14 rfl Try.ntmps14 Try.results14 rfl ?_)
  (refine Go.run (g:=?_))
  (first|refine Go.finT (by first|exact .inr rfl|exact .inl rfl) rfl ?_|refine Go.fin1 (by first|exact .inr rfl|exact .inl rfl) rfl (hq:=?_))
  exact ⟨rfl, rfl, AHeap.get_push_same h _⟩
theorem SI.empty {n0 st : Nat} {H : AHeap} (g : H.get st = some (.cells [.slice none 0 0] 113)) (h1 : n0 ≤ H.n) (h2 : st < n0) : SI n0 st [] none 0 H :=
  ⟨g, .nil, Own.nil _, h1, h2, (fun i t ht => by simp at ht), (fun t ht => by cases ht), fun i j t t' ht => by simp at ht⟩
end Go.Proofs.Ytacfneokhmnkbaa
namespace Go.Proofs.Ytacfneokhmnkbaa
set_option maxRecDepth 100000
attribute [local irreducible] Go GoR GoL
theorem snoc_get {α : Type} {l : List α} {a b : α} {i : Nat} (h : (l ++ [a])[i]? = some b) : (i < l.length ∧ l[i]? = some b) ∨ (i = l.length ∧ a = b) := by
  rcases Nat.lt_or_ge i l.length with q | q
  · rw [List.getElem?_append_left q] at h
    exact .inl ⟨q, h⟩
  · rw [List.getElem?_append_right q] at h
    cases hq : i - l.length with
    | zero => rw [hq] at h; exact .inr ⟨by omega, by simpa using h⟩
    | succ n => rw [hq] at h; simp at h
theorem WW.snoc {B : Nat} {xs ws : List Nat} {l : List TK} {la la' : Option Addr} {lc lc' T cnt : Nat} {t0 : TK} {H H2 H3 : AHeap} (W : WW B xs ws l la lc T cnt t0 H) (s : Same H H2) (k : Keeps ((B + 1) :: blk la) H2 H3) (ho : ∀ i ∈ blk la', i ∈ blk la ∨ H2.n ≤ i) {x p v : Nat} (hx : H.n ≤ x) (hx2 : x < H2.n) (gx : H2.get x = some (.cells [.int .i64 v] 3)) (hv : v < 20) (hp : H2.n ≤ p) (hS : SI (B + 8) (B + 1) (l ++ [⟨p, cloM x (B + 3) (B + 2), 1, false, false, 0⟩]) la' lc' H3) : WW B (xs ++ [x]) (ws ++ [4 * v + 1]) (l ++ [⟨p, cloM x (B + 3) (B + 2), 1, false, false, 0⟩]) la' lc' T cnt t0 H3 := by
  have hlt := W.si.lt
  have hsl := W.si.sv.lt
  have hown := W.si.own
  have hs := s.1
  have hlen := W.len
  have hlws := W.lws
  have hl0 := lt_of_some W.h0
  have htl : ∀ t ∈ l, t.p < H.n := fun t ht => by
    obtain ⟨j, hj, hjt⟩ := List.mem_iff_getElem.1 ht
    exact AHeap.lt (W.si.tk j t (by rw [List.getElem?_eq_getElem hj, hjt]))
  have hxl : ∀ y ∈ xs, y < H.n := fun y hy => by
    obtain ⟨j, hj, hjt⟩ := List.mem_iff_getElem.1 hy
    obtain ⟨w, hw⟩ := getSome (l := ws) (i := j) (by omega)
    obtain ⟨t, ht⟩ := getSome (l := l) (i := j + 1) (by omega)
    exact AHeap.lt (W.mks j y w t (by rw [List.getElem?_eq_getElem hj, hjt]) hw ht).gx
  refine ⟨hS, by simp [hlen], by simp [hlws], k.get (s.get W.gs) ?_, k.get (s.get W.gt) ?_, by rw [List.getElem?_append_left hl0]; exact W.h0, W.fn0, W.pk0, ?_, ?_, ?_⟩
  · simp only [List.mem_cons, not_or]; exact ⟨by omega, fun hi => by have := hown _ hi; omega⟩
  · simp only [List.mem_cons, not_or]; exact ⟨by omega, fun hi => by have := hown _ hi; omega⟩
  · intro i y w t hy hw ht
    rcases snoc_get hy with ⟨q, hy⟩ | ⟨q, rfl⟩
    · rw [List.getElem?_append_left (by omega)] at hw
      rw [List.getElem?_append_left (by omega)] at ht
      have m := W.mks i y w t hy hw ht
      obtain ⟨y1, y2, y3⟩ := W.xge y (List.mem_of_getElem? hy)
      refine { m with gx := k.get (s.get m.gx) ?_ }
      simp only [List.mem_cons, not_or]
      exact ⟨by omega, y2⟩
    · subst q
      rw [show xs.length = ws.length from by omega, List.getElem?_append_right (Nat.le_refl _), Nat.sub_self] at hw
      rw [show xs.length + 1 = l.length from by omega, List.getElem?_append_right (Nat.le_refl _), Nat.sub_self] at ht
      simp only [List.getElem?_cons_zero, Option.some.injEq] at hw ht
      subst hw ht
      refine ⟨rfl, ?_, rfl, by rw [if_neg (by omega)], .inr (by omega), by omega, Nat.zero_le _⟩
      rw [show (4 * v + 1) / 4 = v from by omega]
      refine k.get gx ?_
      simp only [List.mem_cons, not_or]
      exact ⟨by omega, fun hi => by have := hsl _ hi; omega⟩
  · intro y hy
    rcases List.mem_append.1 hy with hy | hy
    · obtain ⟨y1, y2, y3⟩ := W.xge y hy
      have := hxl y hy
      refine ⟨y1, fun hi => ?_, fun u hu => ?_⟩
      · rcases ho _ hi with h | h
        · exact y2 h
        · omega
      · rcases List.mem_append.1 hu with hu | hu
        · exact y3 u hu
        · obtain rfl := List.mem_singleton.1 hu
          simp only; omega
    · obtain rfl := List.mem_singleton.1 hy
      refine ⟨by omega, fun hi => ?_, fun u hu => ?_⟩
      · rcases ho _ hi with h | h
        · have := hsl _ h; omega
        · omega
      · rcases List.mem_append.1 hu with hu | hu
        · have := htl u hu; omega
        · obtain rfl := List.mem_singleton.1 hu
          simp only; omega
  · intro i j y hi hj
    rcases snoc_get hi with ⟨q, hi⟩ | ⟨q, rfl⟩ <;> rcases snoc_get hj with ⟨q', hj⟩ | ⟨q', e⟩
    · exact W.xap i j y hi hj
    · subst e; have := hxl _ (List.mem_of_getElem? hi); omega
    · have := hxl _ (List.mem_of_getElem? hj); omega
    · omega
theorem idx_none {p : TK → Bool} : ∀ {l : List TK} {i : Nat}, (∀ (j : Nat) t, l[j]? = some t → p t = false) → idx p l i = []
  | [], i, h => rfl
  | a :: l, i, h => by
    have h0 := h 0 a rfl
    simp only [idx, h0, Bool.false_eq_true, if_false, List.nil_append]
    exact idx_none fun j t ht => h (j + 1) t (by simpa using ht)
theorem WW.waits {B : Nat} {xs ws : List Nat} {l : List TK} {la : Option Addr} {lc T cnt : Nat} {t0 : TK} {H : AHeap} (W : WW B xs ws l la lc T cnt t0 H) : idx waitB l 0 = if t0.is = 2 then [0] else [] := by
  have hlen := W.len
  have h0 := W.h0
  have hm : ∀ (j : Nat) t, l[j + 1]? = some t → waitB t = false := fun j t ht => by
    have hj := lt_of_some ht
    obtain ⟨x, hx⟩ := getSome (l := xs) (i := j) (by omega)
    obtain ⟨w, hw⟩ := getSome (l := ws) (i := j) (by have := W.lws; omega)
    have m := W.mks j x w t hx hw ht
    simp only [waitB, m.is]
    split <;> rfl
  cases l with
  | nil => simp at h0
  | cons a l =>
    simp at h0; subst h0
    simp only [idx]
    rw [idx_none (fun j t ht => hm j t (by simpa using ht))]
    by_cases q : a.is = 2
    · simp [waitB, q]
    · simp [waitB, q]
theorem WW.rest {B : Nat} {xs ws : List Nat} {l : List TK} {la : Option Addr} {lc T cnt K all M : Nat} {t0 : TK} {H : AHeap} (W : WW B xs ws l la lc T cnt t0 H) (I : TI t0 ws T K all M) (hr : idx runB l 0 = []) : T = 0 ∧ K = all ∧ t0.is = 2 := by
  have hlen := W.len
  have hn : ∀ {j : Nat} {t : TK}, l[j]? = some t → runB t = false := fun {j t} ht => by
    have hj := lt_of_some ht
    have e : l[j] = t := by rw [List.getElem?_eq_getElem hj] at ht; exact Option.some.inj ht
    cases hb : runB t
    · rfl
    · have := mem_idx (p := runB) (l := l) (i := 0) hj (by rw [e]; exact hb)
      rw [hr] at this; cases this
  have h0 := hn W.h0
  have hin := I.inn
  have h2 : t0.is = 2 ∧ T = 0 := by
    rcases I.is with h | h
    · simp [runB, h, hin] at h0
    · exact h
  refine ⟨h2.2, ?_, h2.1⟩
  have hz : (ws.map (· / 4)).sum = 0 := by
    have hall : ∀ w ∈ ws, w = 0 := fun w hw => by
      obtain ⟨j, hj, hjt⟩ := List.mem_iff_getElem.1 hw
      have hws : ws[j]? = some w := by rw [List.getElem?_eq_getElem hj, hjt]
      obtain ⟨x, hx⟩ := getSome (l := xs) (i := j) (by have := W.lws; omega)
      obtain ⟨t, ht⟩ := getSome (l := l) (i := j + 1) (by have := W.lws; omega)
      have m := W.mks j x w t hx hws ht
      have := hn ht
      rcases Nat.eq_zero_or_pos w with q | q
      · exact q
      · have e := m.is
        rw [if_neg (by omega)] at e
        simp [runB, e, m.inn] at this
    clear W I
    induction ws with
    | nil => rfl
    | cons a ws ih => simp only [List.map_cons, List.sum_cons]; rw [hall a (by simp), ih (fun w hw => hall w (List.mem_cons_of_mem _ hw))]
  have := I.sum
  omega
def wOf (z : UInt8) : Nat := 4 * (z.toNat % 20) + 1
theorem wsum (zb : List UInt8) : (zb.map wOf).sum = 4 * ((zb.map wOf).map (· / 4)).sum + zb.length ∧ ((zb.map wOf).map (· / 4)).sum ≤ 20 * zb.length := by
  induction zb with
  | nil => simp
  | cons a l ih =>
    simp only [List.map_cons, List.sum_cons, List.length_cons]
    have : wOf a / 4 = a.toNat % 20 := by unfold wOf; omega
    have h2 : wOf a = 4 * (a.toNat % 20) + 1 := rfl
    omega
structure LW (h : AHeap) (B : Nat) (c : Option Addr) (mc : Nat) (ins : List Int) (all M cnt : Nat) (xs ws : List Nat) (l : List TK) (la : Option Addr) (lc T K S : Nat) (t0 : TK) (H : AHeap) : Prop where
  same : Same h H
  w : WW B xs ws l la lc T cnt t0 H
  x : TX B c mc ins K S H
  i : TI t0 ws T K all M
  hS : S ≤ cnt
theorem LW.to {h : AHeap} {B : Nat} {c : Option Addr} {mc : Nat} {ins : List Int} {all M cnt : Nat} {xs ws : List Nat} {l : List TK} {la : Option Addr} {lc T K S : Nat} {t0 : TK} {H H' : AHeap} (J : LW h B c mc ins all M cnt xs ws l la lc T K S t0 H) (s : Same H H') : LW h B c mc ins all M cnt xs ws l la lc T K S t0 H' :=
  ⟨J.same.trans s, J.w.keeps (s.keeps []) (fun i hi => by cases hi) (Nat.le_refl _), J.x.keeps (s.keeps []) (fun i hi => by cases hi), J.i, J.hS⟩
theorem lw_pick {h : AHeap} {B : Nat} {c : Option Addr} {mc : Nat} {ins : List Int} {all M cnt : Nat} {xs ws : List Nat} {l : List TK} {la : Option Addr} {lc T K S : Nat} {t0 : TK} {H : AHeap} (J : LW h B c mc ins all M cnt xs ws l la lc T K S t0 H) (hB : h.n ≤ B) (hM : M < 50000) (hcnt : cnt < 400000) (hall : all < 10000) (hxs : xs.length ≤ 100) (hins : ∀ x ∈ ins, -9223372036854775808 ≤ x ∧ x ≤ 9223372036854775807) (hm : ins.length ≤ 500) (n : Int) (hn : -9223372036854775808 ≤ n ∧ n ≤ 9223372036854775807) : CallS Try.prog (wrT B l xs t0) 28 [ptr (B + 1), .int .i64 n] H fun v H' =>
    (idx runB l 0 = [] ∧ v = .tuple #[.int .i64 0, .bool false] ∧ LW h B c mc ins all M cnt xs ws l la lc T K S t0 H' ∧ Same H H') ∨
    (∃ j : Nat, v = .tuple #[.int .i64 j, .bool true] ∧ ∃ M' ws' l' T' t0' K' S', M' < M ∧ LW h B c mc ins all M' (cnt + 2) xs ws' l' la lc T' K' S' t0' H') := by
  have hI := J.i
  have hs := J.hS
  have hm1 := hI.m
  have hs1 := hI.sum
  have hge := J.w.si.ge
  refine (pickT_spec J.w hI.inn (by omega) (by omega) hxs J.x hins hm (by omega) (by omega) n hn).kp.mono fun v H' hv => ?_
  obtain ⟨hv, k⟩ := hv
  rcases hv with ⟨a, b, s⟩ | ⟨j, rfl, ws', l', T', t0', K', S', X', hS', W', e1, e2, mv⟩
  · exact .inl ⟨a, b, J.to s, s⟩
  · obtain ⟨M', hM', I'⟩ := mv.ti hI
    refine .inr ⟨j, rfl, M', ws', l', T', t0', K', S', hM', J.same.own k ?_, W', X', I', by omega⟩
    intro i hi
    simp only [wrT, List.mem_append, List.mem_map, List.mem_cons, List.not_mem_nil, or_false] at hi
    have h0m := List.mem_of_getElem? J.w.h0
    rcases hi with ⟨t, ht, rfl⟩ | hi | ⟨t, ht, rfl⟩ | hi | rfl | rfl
    · have := (hge t ht).1; omega
    · omega
    · have := (hge t ht).1; omega
    · have := (J.w.xge i hi).1; omega
    · omega
    · have := (hge _ h0m).1; omega
theorem wrT_ge {h : AHeap} {B : Nat} {c : Option Addr} {mc : Nat} {ins : List Int} {all M cnt : Nat} {xs ws : List Nat} {l : List TK} {la : Option Addr} {lc T K S : Nat} {t0 : TK} {H : AHeap} (J : LW h B c mc ins all M cnt xs ws l la lc T K S t0 H) (hB : h.n ≤ B) : ∀ i ∈ wrT B l xs t0, h.n ≤ i := fun i hi => by
  have hge := J.w.si.ge
  simp only [wrT, List.mem_append, List.mem_map, List.mem_cons, List.not_mem_nil, or_false] at hi
  have h0m := List.mem_of_getElem? J.w.h0
  rcases hi with ⟨t, ht, rfl⟩ | hi | ⟨t, ht, rfl⟩ | hi | rfl | rfl
  · have := (hge t ht).1; omega
  · omega
  · have := (hge t ht).1; omega
  · have := (J.w.xge i hi).1; omega
  · omega
  · have := (hge _ h0m).1; omega
def qsum (ws : List Nat) : Nat := (ws.map (· / 4)).sum
set_option maxHeartbeats 8000000 in
theorem taskWakes_spec (zb : List UInt8) (a : Option Addr) (ca : Nat) (ps : List Int) (hps : ∀ x ∈ ps, -9223372036854775808 ≤ x ∧ x ≤ 9223372036854775807) (b : Option Addr) (cb : Nat) (ins : List Int) (hins : ∀ x ∈ ins, -9223372036854775808 ≤ x ∧ x ≤ 9223372036854775807) (c : Option Addr) (cc : Nat) (h : AHeap) (hz : Rv Try.prog h 1 a zb.length ca (zb.map bv)) (hy : Rv Try.prog h 1 b ps.length cb (ints ps)) (hc : Rv Try.prog h 1 c ins.length cc (ints ins)) : CallS Try.prog [] 4 [.slice a zb.length ca, .slice b ps.length cb, .slice c ins.length cc] h fun v h' => v = .bool true := by
  have hclt := hc.lt
  (refine CallS.of3 Try.func4 rfl Try.ntmps4 Try.results4 rfl ?_)
  (refine Go.run (g:=?_))
  refine GoR.call rfl rfl rfl rfl rfl rfl rfl (((known25 _).argA).mono ?_)
  rintro _ h1 ⟨rfl, e1⟩ -
  have s1 : Same h h1 := by subst e1; exact ((Same.refl h).push _)
  have n1 : h1.n = h.n + 1 := by subst e1; rfl
  have gB : h1.get h.n = some (.cells [.slice c ins.length cc] 27) := by subst e1; exact AHeap.get_push_same h _
  clear e1
  by_cases q1 : 30 < zb.length
  · (refine Go.run (g:=?_))
    (first|refine Go.finT (by first|exact .inr rfl|exact .inl rfl) rfl ?_|refine Go.fin1 (by first|exact .inr rfl|exact .inl rfl) rfl (hq:=?_))
    rfl
  by_cases q2 : 500 < ps.length
  · (refine Go.run (g:=?_))
    (first|refine Go.finT (by first|exact .inr rfl|exact .inl rfl) rfl ?_|refine Go.fin1 (by first|exact .inr rfl|exact .inl rfl) rfl (hq:=?_))
    rfl
  by_cases q3 : 500 < ins.length
  · (refine Go.run (g:=?_))
    (first|refine Go.finT (by first|exact .inr rfl|exact .inl rfl) rfl ?_|refine Go.fin1 (by first|exact .inr rfl|exact .inl rfl) rfl (hq:=?_))
    rfl
  (refine Go.run (g:=?_))
  refine GoR.call rfl rfl rfl rfl rfl rfl rfl (((new_spec _).argA).mono ?_)
  rintro _ h3 ⟨rfl, n3, g3⟩ s3
  (refine Go.run (g:=?_))
  simp only [AHeap.n_push, AHeap.n_put]
  refine GoR.name ?_
  intro h4 e4
  obtain ⟨B, hB⟩ : ∃ B, B = h.n := ⟨_, rfl⟩
  have eB1 : h1.n = B + 1 := by omega
  have eB2 : h3.n = B + 2 := by omega
  have n4 : h4.n = B + 8 := by subst e4; simp only [AHeap.n_push, AHeap.n_put]; omega
  have s4 : Same h3 h4 := by
    subst e4
    exact (((((((((((Same.refl h3).push _).put (Nat.le_refl _) _).push _).push _).push _).push _).put (by omega) _).put (by omega) _).put (by omega) _).put (by omega) _).push _ |>.put (by omega) _
  have S4 := (s1.trans s3).trans s4
  have gB4 : h4.get B = some (.cells [.slice c ins.length cc] 27) := s4.get (s3.get (by rw [hB]; exact gB))
  have g14 : h4.get (B + 1) = some (.cells [.slice none 0 0] 113) := s4.get (by rw [← eB1]; exact g3)
  have g24 : h4.get (B + 2) = some (.cells [ptr (B + 1)] 31) := by subst e4; simp [AHeap.get_put, AHeap.get_push, eB1, eB2, Nat.add_assoc]
  have g34 : h4.get (B + 3) = some (.cells [.int .i64 (0 : Nat)] 3) := by subst e4; simp [AHeap.get_put, AHeap.get_push, eB1, eB2, Nat.add_assoc]
  have g44 : h4.get (B + 4) = some (.cells [.int .i64 (0 : Nat)] 3) := by subst e4; simp [AHeap.get_put, AHeap.get_push, eB1, eB2, Nat.add_assoc]
  have g54 : h4.get (B + 5) = some (.cells [.int .i64 (0 : Nat)] 3) := by subst e4; simp [AHeap.get_put, AHeap.get_push, eB1, eB2, Nat.add_assoc]
  have g64 : h4.get (B + 6) = some (.cells [.bool false] 4) := by subst e4; simp [AHeap.get_put, AHeap.get_push, eB1, eB2, Nat.add_assoc]
  have g74 : h4.get (B + 7) = some (.cells [.bool false] 4) := by subst e4; simp [AHeap.get_put, AHeap.get_push, eB1, eB2, Nat.add_assoc]
  clear e4 gB g3
  simp only [eB1, eB2, ← hB, Nat.add_assoc, Nat.reduceAdd]
  refine GoR.callW rfl rfl rfl rfl rfl rfl rfl (((spawn_spec (B + 8) (B + 1) [] (by simp) none 0 h4 (SI.empty g14 (by omega) (by omega)) 27 #[ptr (B + 6), ptr (B + 7), ptr (B + 5), ptr (B + 3), ptr (B + 4), ptr B, ptr (B + 2)]).argA).mono ?_)
  rintro _ h5 ⟨rfl, la, lc, p, SI5, hp, ho⟩ k5
  simp only [List.nil_append] at SI5
  have hb5 : ∀ i ∈ (B + 1) :: blk (none : Option Addr), i = B + 1 := fun i hi => by
    rcases List.mem_cons.1 hi with h | h
    · exact h
    · cases h
  refine ⟨fun i hi => .inr (by have := hb5 i hi; omega), ?_⟩
  have S5 := S4.own k5 (fun i hi => by have := hb5 i hi; omega)
  obtain ⟨t0, ht0⟩ : ∃ t0 : TK, t0 = ⟨p, cloT B, 1, false, false, 0⟩ := ⟨_, rfl⟩
  have J5 : LW h B c cc ins 0 1 0 [] [] [t0] la lc 0 0 0 t0 h5 := by
    have n1 : ∀ k, k ≠ 1 → B + k ∉ (B + 1) :: blk (none : Option Addr) := fun k hk hi => by have := hb5 _ hi; omega
    refine ⟨S5, ⟨by rw [ht0]; exact SI5, rfl, rfl, k5.get g24 (n1 2 (by decide)), k5.get g34 (n1 3 (by decide)), rfl, by rw [ht0], by rw [ht0]; exact Nat.le_refl _, (fun i x w t hx => by simp at hx), (fun x hx => by cases hx), (fun i j x hx => by simp at hx)⟩, ⟨k5.get gB4 (n1 0 (by decide)), k5.get g44 (n1 4 (by decide)), k5.get g54 (n1 5 (by decide)), k5.get g64 (n1 6 (by decide)), k5.get g74 (n1 7 (by decide)), hc.same S5, fun i hi => by have := hclt i hi; omega⟩, ⟨by rw [ht0], by rw [ht0]; exact .inl rfl, rfl, by rw [ht0]; rfl, fun w hw => by cases hw⟩, Nat.le_refl _⟩
  clear g14 g24 g34 g44 g54 g64 g74 gB4
  (refine Go.run (g:=?_))
  refine Go.loop (α := Nat × AHeap × List TK × Option Addr × Nat × List Nat) (fun x => [(44, .int .i64 x.1), (43, .int .i64 zb.length), (42, .slice a zb.length ca), (10, .int .i64 (qsum ((zb.take x.1).map wOf) : Nat)), (0, .slice a zb.length ca), (1, .slice b ps.length cb), (7, ptr (B + 2)), (8, ptr (B + 3)), (9, ptr (B + 4)), (13, ptr (B + 7))]) (fun _ => []) (fun x => x.2.1) (fun x => x.1 ≤ zb.length ∧ LW h B c cc ins (qsum ((zb.take x.1).map wOf)) (((zb.take x.1).map wOf).sum + 1) 0 x.2.2.2.2.2 ((zb.take x.1).map wOf) x.2.2.1 x.2.2.2.1 x.2.2.2.2.1 0 0 0 t0 x.2.1) (fun x => zb.length - x.1) (0, h5, [t0], la, lc, []) ?_ ?_ rfl rfl ?_
  · exact ⟨Nat.zero_le _, J5⟩
  · exact ⟨rfl, rfl, rfl, rfl, rfl, rfl, rfl, rfl, rfl, rfl, trivial⟩
  clear J5 SI5 S5 k5
  rintro ⟨i, H, l, la, lc, xs⟩ ⟨hi, J⟩
  simp only at hi J ⊢
  have S6 := J.same
  have n6 := S6.1
  have hlen := J.w.len
  have hlws : xs.length = i := by have := J.w.lws; simp only [List.length_map, List.length_take] at this; omega
  have gs := J.w.gs
  rcases Nat.lt_or_ge i zb.length with i0 | i0
  · have hz6 := hz.same S6
    have c0 : (zb.map bv)[i]? = some (.int .u8 zb[i].toNat) := by simp [bv, i0]
    have hbe : i < (zb.map bv).length := by rw [List.length_map]; exact i0
    have hz8 : zb[i].toNat < 256 := UInt8.toNat_lt _
    have e1 : (zb.take (i + 1)).map wOf = (zb.take i).map wOf ++ [4 * (zb[i].toNat % 20) + 1] := by rw [take_snoc' i0, List.map_append]; rfl
    obtain ⟨z1, z2⟩ := wsum (zb.take i)
    have z3 : (zb.take i).length ≤ 30 := by rw [List.length_take]; omega
    generalize zb[i].toNat = z at *
    generalize hws : (zb.take i).map wOf = ws at *
    have hqs : qsum (ws ++ [4 * (z % 20) + 1]) = qsum ws + z % 20 := by unfold qsum; simp only [List.map_append, List.sum_append, List.map_cons, List.map_nil, List.sum_cons, List.sum_nil]; omega
    have hqe : (ws.map (· / 4)).sum = qsum ws := rfl
    rw [hqe] at z1 z2
    generalize hqq : qsum ws = qs at *
    (refine Go.run (g:=?_))
    refine GoR.name ?_
    intro h7 e7
    have s7 : Same H h7 := by subst e7; exact ((Same.refl H).push _).put (Nat.le_refl _) _
    have n7 : h7.n = H.n + 1 := by subst e7; rfl
    have gx : h7.get H.n = some (.cells [.int .i64 (z % 20 : Nat)] 3) := by subst e7; exact AHeap.get_put_same _ (by simp) _
    clear e7
    have gs7 := s7.get gs
    (refine Go.run (g:=?_))
    refine GoR.callW rfl rfl rfl rfl rfl rfl rfl (((spawn_spec (B + 8) (B + 1) l (by omega) la lc h7 (J.w.si.same s7) 29 #[ptr H.n, ptr (B + 3), ptr (B + 2)]).argA).mono ?_)
    rintro _ h8 ⟨rfl, la', lc', p8, SI8, hp8, ho8⟩ k8
    have hown := J.w.si.own
    have hk8 : ∀ i ∈ (B + 1) :: blk la, h.n ≤ i ∧ (i = B + 1 ∨ B + 8 ≤ i) := fun i hi => by
      rcases List.mem_cons.1 hi with rfl | hi
      · omega
      · have := hown _ hi; omega
    refine ⟨fun i hi => .inr (by have := hk8 i hi; omega), ?_⟩
    have W8 := J.w.snoc s7 k8 ho8 (Nat.le_refl _) (by omega) gx (by omega) hp8 SI8
    have J8 : LW h B c cc ins (qs + z % 20) (ws.sum + (4 * (z % 20) + 1) + 1) 0 (xs ++ [H.n]) (ws ++ [4 * (z % 20) + 1]) (l ++ [⟨p8, cloM H.n (B + 3) (B + 2), 1, false, false, 0⟩]) la' lc' 0 0 0 t0 h8 := by
      have I := J.i
      refine ⟨(S6.trans s7).own k8 (fun i hi => (hk8 i hi).1), W8, (J.x.keeps (s7.keeps []) (fun i hi => by cases hi)).keeps k8 (fun i hi => by have := hk8 i hi; omega), ⟨I.inn, I.is, ?_, ?_, ?_⟩, J.hS⟩
      · show 0 + 0 + qsum (ws ++ [4 * (z % 20) + 1]) = _; omega
      · have := I.m
        rw [List.sum_append]
        simp only [List.sum_cons, List.sum_nil]
        omega
      · intro w hw
        rcases List.mem_append.1 hw with hw | hw
        · exact I.hw w hw
        · obtain rfl := List.mem_singleton.1 hw
          exact .inr (by omega)
    (refine Go.run (g:=?_))
    exact Go.again (i + 1, h8, l ++ [⟨p8, cloM H.n (B + 3) (B + 2), 1, false, false, 0⟩], la', lc', xs ++ [H.n]) ⟨by simp only; omega, by simp only; rw [e1, hqs, List.sum_append]; exact J8⟩ (by simp only; omega) ⟨rfl, rfl, rfl, by simp only; rw [e1, hqs]; rfl, rfl, rfl, rfl, rfl, rfl, rfl, trivial⟩ rfl rfl
  · have hiN : zb.length = i := by omega
    clear hi hz
    have hxs30 : xs.length ≤ 30 := by omega
    rw [List.take_of_length_le (by omega)] at J ⊢
    obtain ⟨z1, z2⟩ := wsum zb
    have hqe : ((zb.map wOf).map (· / 4)).sum = qsum (zb.map wOf) := rfl
    rw [hqe] at z1 z2
    generalize hws : zb.map wOf = ws0 at *
    generalize hall : qsum ws0 = all at *
    generalize hM : ws0.sum + 1 = M0 at *
    clear hqe hws hall
    have hM0 : M0 < 40 * (all + (zb.length + 10)) := by omega
    generalize zb.length = NZ at *
    obtain ⟨NP, hNP⟩ : ∃ NP, NP = ps.length := ⟨_, rfl⟩
    (refine Go.run (g:=?_))
    rw [← hNP] at hy ⊢
    refine Go.loop (α := Nat × AHeap × List TK × List Nat × (Nat × Nat × Nat × Nat × Nat) × TK) (fun x => [(60, .int .i64 x.1), (59, .int .i64 NP), (58, .slice b NP cb), (10, .int .i64 all), (0, .slice a NZ ca), (7, ptr (B + 2)), (8, ptr (B + 3)), (9, ptr (B + 4)), (13, ptr (B + 7))]) (fun _ => []) (fun x => x.2.1) (fun x => x.1 ≤ NP ∧ ∃ M cnt, M ≤ M0 ∧ cnt ≤ 2 * x.1 ∧ LW h B c cc ins all M cnt xs x.2.2.2.1 x.2.2.1 la lc x.2.2.2.2.1.1 x.2.2.2.2.1.2.1 x.2.2.2.2.1.2.2.1 x.2.2.2.2.2 x.2.1) (fun x => NP - x.1) (0, H, l, ws0, (0, 0, 0, 0, 0), t0) ?_ ?_ rfl rfl ?_
    · exact ⟨Nat.zero_le _, M0, 0, Nat.le_refl _, Nat.le_refl _, J⟩
    · exact ⟨rfl, rfl, rfl, rfl, rfl, rfl, rfl, rfl, rfl, trivial⟩
    clear J S6 n6 gs ht0 hlen hM
    rintro ⟨i, H, l, ws, ⟨T, K, S, x1, x2⟩, t0⟩ ⟨hi, M, cnt, hM, hcnt, J⟩
    simp only at hi hcnt J ⊢
    have S6 := J.same
    have n6 := S6.1
    have hlen := J.w.len
    have gs := J.w.gs
    rcases Nat.lt_or_ge i NP with i0 | i0
    · have hy6 := hy.same S6
      have i1 : i < ps.length := by omega
      have c0 := ints_get i1
      have hbe : i < (ints ps).length := by rw [ints_len]; exact i1
      have hnr := hps _ (List.getElem_mem i1)
      generalize ps[i] = n at *
      (refine Go.run (g:=?_))
      refine GoR.callW rfl rfl rfl rfl rfl rfl rfl (((lw_pick J (by omega) (by omega) (by omega) (by omega) (by omega) hins (by omega) n hnr).argA).mono ?_)
      intro v8 h8 hv8 k8
      have hge8 := wrT_ge J (by omega)
      refine ⟨fun i hi => .inr (by have := hge8 i hi; omega), ?_⟩
      obtain ⟨M', cnt', ws', l', T', t0', K', S', hM', hcnt', J'⟩ : ∃ M' cnt' ws' l' T' t0' K' S', M' ≤ M0 ∧ cnt' ≤ 2 * (i + 1) ∧ LW h B c cc ins all M' cnt' xs ws' l' la lc T' K' S' t0' h8 := by
        rcases hv8 with ⟨-, -, J', -⟩ | ⟨j, -, M', ws', l', T', t0', K', S', hM', J'⟩
        · exact ⟨M, cnt, ws, l, T, t0, K, S, hM, by omega, J'⟩
        · exact ⟨M', cnt + 2, ws', l', T', t0', K', S', by omega, by omega, J'⟩
      clear hv8 J S6 gs hlen
      have S8 := J'.same
      have n8 := S8.1
      have gs8 := J'.w.gs
      have hlen8 := J'.w.len
      (refine Go.run (g:=?_))
      refine GoR.call rfl rfl rfl rfl rfl rfl rfl (((waiting_spec (B + 8) (B + 1) l' (by omega) la lc _ J'.w.si).argA).mono ?_)
      rintro _ h9 ⟨wb, wc, rfl, hw9, ow9⟩ s9
      have J9 := J'.to s9
      have gb9 := J9.x.gb
      have gt9 := J9.w.gt
      have hT' := J'.i.is
      rw [J'.w.waits] at hw9 ⊢
      by_cases q : t0'.is = 2
      · rw [if_pos q] at hw9 ⊢
        have hT0 : T' = 0 := by
          rcases hT' with h | h
          · omega
          · exact h.2
        subst hT0
        have hrv9 := hw9.rv (P := Try.prog)
        have cw0 : (ints [0])[0]? = some (.int .i64 (0 : Int)) := rfl
        have hbw : 0 < (ints [0]).length := by decide
        simp only [List.length_cons, List.length_nil, Nat.zero_add] at hrv9 ⊢
        (refine Go.run (g:=?_))
        exact Go.again (i + 1, h9, l', ws', (0, K', S', 0, 0), t0') ⟨by simp only; omega, M', cnt', hM', by simp only; omega, J9⟩ (by simp only; omega) ⟨rfl, rfl, rfl, rfl, rfl, rfl, rfl, rfl, rfl, trivial⟩ rfl rfl
      · rw [if_neg q] at hw9 ⊢
        simp only [List.length_nil] at hw9 ⊢
        (refine Go.run (g:=?_))
        exact Go.again (i + 1, h9, l', ws', (T', K', S', 0, 0), t0') ⟨by simp only; omega, M', cnt', hM', by simp only; omega, J9⟩ (by simp only; omega) ⟨rfl, rfl, rfl, rfl, rfl, rfl, rfl, rfl, rfl, trivial⟩ rfl rfl
    · have hiP : NP = i := by omega
      subst hiP
      clear hi i0
      (refine Go.run (g:=?_))
      have hM1 : M0 < 40 * (all + NZ + 10) := by omega
      have hN1 : 40 * (all + NZ + 10) ≤ 30000 := by omega
      generalize 40 * (all + NZ + 10) = N1 at *
      refine Go.loop (α := Nat × AHeap × List TK × List Nat × (Nat × Nat × Nat × Nat × Nat) × TK) (fun x => [(97, .int .i64 x.1), (96, .int .i64 N1), (10, .int .i64 all), (7, ptr (B + 2)), (8, ptr (B + 3)), (9, ptr (B + 4)), (13, ptr (B + 7))]) (fun _ => []) (fun x => x.2.1) (fun x => x.1 ≤ N1 ∧ ∃ M cnt, M + x.1 ≤ M0 ∧ cnt ≤ 2 * NP + 2 * x.1 ∧ LW h B c cc ins all M cnt xs x.2.2.2.1 x.2.2.1 la lc x.2.2.2.2.1.1 x.2.2.2.2.1.2.1 x.2.2.2.2.1.2.2.1 x.2.2.2.2.2 x.2.1) (fun x => N1 - x.1) (0, H, l, ws, (T, K, S, 0, 0), t0) ?_ ?_ rfl rfl ?_
      · exact ⟨Nat.zero_le _, M, cnt, hM, hcnt, J⟩
      · exact ⟨rfl, rfl, rfl, rfl, rfl, rfl, rfl, trivial⟩
      clear J S6 n6 gs hlen hM hcnt M cnt
      rintro ⟨i, H, l, ws, ⟨T, K, S, x1, x2⟩, t0⟩ ⟨hi, M, cnt, hM, hcnt, J⟩
      simp only at hi hM hcnt J ⊢
      have S6 := J.same
      have n6 := S6.1
      have hlen := J.w.len
      have gs := J.w.gs
      rcases Nat.lt_or_ge i N1 with i0 | i0
      · (refine Go.run (g:=?_))
        refine GoR.callW rfl rfl rfl rfl rfl rfl rfl (((lw_pick J (by omega) (by omega) (by omega) (by omega) (by omega) hins (by omega) (i : Int) (by omega)).argA).mono ?_)
        intro v8 h8 hv8 k8
        have hge8 := wrT_ge J (by omega)
        refine ⟨fun i hi => .inr (by have := hge8 i hi; omega), ?_⟩
        rcases hv8 with ⟨hr, rfl, J8, -⟩ | ⟨j, rfl, M', ws', l', T', t0', K', S', hM', J8⟩
        · obtain ⟨r1, r2, r3⟩ := J8.w.rest J8.i hr
          subst r1 r2
          have S8 := J8.same
          have n8 := S8.1
          have gs8 := J8.w.gs
          have gt8 := J8.w.gt
          have gb8 := J8.x.gb
          have gk8 := J8.x.gk
          have hwt := J8.w.waits
          rw [if_pos r3] at hwt
          (refine Go.run (g:=?_))
          refine GoR.call rfl rfl rfl rfl rfl rfl rfl (((waiting_spec (B + 8) (B + 1) l (by omega) la lc _ J8.w.si).argA).mono ?_)
          rintro _ h9 ⟨wb, wc, rfl, hw9, ow9⟩ s9
          rw [hwt]
          have J9 := J8.to s9
          have gs9 := J9.w.gs
          simp only [List.length_cons, List.length_nil, Nat.zero_add]
          have hl0 : l[0]? = some t0 := J9.w.h0
          have hl1 : 0 < l.length := by omega
          have el0 : l[0] = t0 := by rw [List.getElem?_eq_getElem hl1] at hl0; exact Option.some.inj hl0
          have dn := done_in (B + 8) (B + 1) l (by omega) la lc h9 J9.w.si 0 hl1
          rw [el0, r3, show decide ((2 : Nat) = 3) = false from rfl] at dn
          (refine Go.run (g:=?_))
          refine GoR.call rfl rfl rfl rfl rfl rfl rfl (((dn).argA).mono ?_)
          rintro _ h10 ⟨rfl, rfl⟩ -
          (refine Go.run (g:=?_))
          (first|refine Go.finT (by first|exact .inr rfl|exact .inl rfl) rfl ?_|refine Go.fin1 (by first|exact .inr rfl|exact .inl rfl) rfl (hq:=?_))
          rfl
        · (refine Go.run (g:=?_))
          exact Go.again (i + 1, h8, l', ws', (T', K', S', 0, 0), t0') ⟨by simp only; omega, M', cnt + 2, by simp only; omega, by simp only; omega, J8⟩ (by simp only; omega) ⟨rfl, rfl, rfl, rfl, rfl, rfl, rfl, trivial⟩ rfl rfl
      · exfalso
        omega
end Go.Proofs.Ytacfneokhmnkbaa
namespace Go.Proofs.Ytacfneokhmnkbaa
set_option maxRecDepth 100000
open Go.ChangeShapes Go.WideShapes Go.ChangeAt Go.RowKit
theorem intB : Try.prog.underlying 3 = some (.int .i64) := by kernel_rfl
theorem hintsB : Try.prog.underlying 27 = some (.slice 3) := by kernel_rfl
theorem plainInts : plainB Try.prog 4 27 = true := by kernel_rfl
theorem cells_of {α : Type} {f : α → List Value} {sz : Nat} : ∀ (len : Nat) (c : List Value), c.length = len * sz → (∀ i, i < len → ∃ x, (c.drop (i * sz)).take sz = f x) → ∃ l : List α, l.length = len ∧ c = (l.map f).flatten
  | 0, c, hl, _ => ⟨[], rfl, by simpa using hl⟩
  | n + 1, c, hl, each => by
    obtain ⟨x, e⟩ := each 0 (by omega)
    rw [Nat.zero_mul, List.drop_zero] at e
    obtain ⟨l, i1, i2⟩ := cells_of (f := f) (sz := sz) n (c.drop sz) (by rw [List.length_drop, hl, Nat.add_mul]; omega) fun i hi => by
      have := each (i + 1) (by omega)
      rwa [Nat.add_mul, Nat.one_mul, Nat.add_comm, ← List.drop_drop] at this
    exact ⟨x :: l, by simp [i1], by rw [List.map_cons, List.flatten_cons, ← e, ← i2, List.take_append_drop]⟩
section
variable {H : Type} {enc : TypeId × Value → H} {W : World} {m : Mp} {h : AHeap} {base : Nat} {v : Value} {d : DataW H} {ps : List MemPlace}
end
end Go.Proofs.Ytacfneokhmnkbaa
namespace Go.Proofs.Ytacfneokhmnkbaa
set_option maxRecDepth 100000
open Go.ChangeShapes Go.WideShapes Go.ChangeAt Go.RowKit
theorem tU8 : Try.prog.underlying 5 = some (.int .u8) := by kernel_rfl
theorem tBytesU : Try.prog.underlying 49 = some (.slice 5) := by kernel_rfl
theorem plainBytesT : plainB Try.prog 4 49 = true := by kernel_rfl
theorem imp_bytesT {H : Type} {enc : TypeId × Value → H} {W : World} {m : Mp} {h : AHeap} {base : Nat} {v : Value} {d : DataW H} {ps : List MemPlace} (o : Value.okWide Try.prog W .any base 49 v) (ht : DataW.Trod enc Try.prog W 0 (fun _ => true) true 49 v d ps) (I : Im Try.prog W m h) :
    ∃ m' h', Im Try.prog W m' h' ∧ m.le m' ∧ Same h h' ∧ ∃ (a : Option Addr) (cap : Nat) (zs : List UInt8), VRel m' (.slice a zs.length cap) v ∧ Rv Try.prog h' 1 a zs.length cap (zs.map bv) := by
  obtain ⟨a0, l0, c0, rfl⟩ := okWide_slice tBytesU o
  obtain ⟨m', h', cs, I', hm, hs, hA, hR, hl⟩ := imp_val plainBytesT ht I
  obtain ⟨x, rfl, hv⟩ := vrel_one hA (by rw [hl]; kernel_rfl) rfl
  obtain ⟨a, cap, zs, e, hz, hc⟩ := hR.bytes tBytesU tU8 (by kernel_rfl)
  cases e
  exact ⟨m', h', I', hm, hs, a, cap, zs, hv, hz⟩
abbrev I64 (n : Int) : Prop := -9223372036854775808 ≤ n ∧ n ≤ 9223372036854775807
theorem imp_intsR {H : Type} {enc : TypeId × Value → H} {W : World} {m : Mp} {h : AHeap} {base : Nat} {v : Value} {d : DataW H} {ps : List MemPlace} (o : Value.okWide Try.prog W .any base 27 v) (ht : DataW.Trod enc Try.prog W 0 (fun _ => true) true 27 v d ps) (I : Im Try.prog W m h) :
    ∃ m' h', Im Try.prog W m' h' ∧ m.le m' ∧ Same h h' ∧ ∃ (a : Option Addr) (cap : Nat) (l : List Int), VRel m' (.slice a l.length cap) v ∧ Rv Try.prog h' 1 a l.length cap (ints l) ∧ ∀ x ∈ l, I64 x := by
  obtain ⟨a0, l0, c0, rfl⟩ := okWide_slice hintsB o
  obtain ⟨m', h', cs, I', hm, hs, hA, hR, hl⟩ := imp_val plainInts ht I
  obtain ⟨x, rfl, hv⟩ := vrel_one hA (by rw [hl]; kernel_rfl) rfl
  obtain ⟨a, len, cap, c, e, hz, -, hel⟩ := hR.slice_inv hintsB
  cases e
  rw [show Try.prog.cellsOf 3 = 1 from by kernel_rfl] at hz hel
  obtain ⟨l, rfl, rfl⟩ := cells_of (f := fun n : {n : Int // I64 n} => [.int .i64 n.1]) len c hz.length fun i hi => by
    obtain ⟨d', r⟩ := hel i hi
    obtain ⟨n, e0, w⟩ := r.int_inv intB
    simp [Lit.wf, IntKind.wrap, IntKind.bits, IntKind.signed, IntKind.min, IntKind.max] at w
    exact ⟨⟨n, by omega⟩, e0⟩
  have el : (l.map (·.1)).length = l.length := List.length_map _
  refine ⟨m', h', I', hm, hs, a, cap, l.map (·.1), by rw [el]; exact hv, ?_, fun x hx => ?_⟩
  · have e : ints (l.map (·.1)) = (l.map fun n : {n : Int // I64 n} => [Value.int .i64 n.1]).flatten := by
      clear hz hel hv hA hR hl el
      induction l with
      | nil => rfl
      | cons x l ih => simp only [ints, List.map_cons, List.flatten_cons, List.cons_append, List.nil_append] at ih ⊢; rw [ih]
    rw [e, el]; exact hz
  · obtain ⟨y, -, rfl⟩ := List.mem_map.1 hx
    exact y.2
end Go.Proofs.Ytacfneokhmnkbaa
namespace Go.Proofs.Ytacfneokhmnkbaa
open Go.ChangeShapes Go.WideShapes Go.ChangeAt Go.RowKit
set_option maxRecDepth 100000
theorem taskWakesWalk {H : Type} {enc : TypeId × Value → H} {base : Nat} {d0 d1 d2 : DataW H} {p0 p1 p2 : List MemPlace} (v0 v1 v2 : Value) (W : World) (o0 : Value.okWide Try.prog W .any base 49 v0) (h0 : DataW.Trod enc Try.prog W 0 (fun _ => true) true 49 v0 d0 p0) (o1 : Value.okWide Try.prog W .any base 27 v1) (h1 : DataW.Trod enc Try.prog W 0 (fun _ => true) true 27 v1 d1 p1) (o2 : Value.okWide Try.prog W .any base 27 v2) (h2 : DataW.Trod enc Try.prog W 0 (fun _ => true) true 27 v2 d2 p2) : Calls Try.prog 4 #[v0, v1, v2] W fun e w' => e = .returned (.bool true) ∧ Below W.heap.size W w' := by
  obtain ⟨m, h, I, _, _, a, ca, zb, hv, hz⟩ := imp_bytesT o0 h0 (Im.empty Try.prog W)
  obtain ⟨m1, h1', I1, hm1, s1, b, cb, ps, hv1, hy, hr⟩ := imp_intsR o1 h1 I
  obtain ⟨m2, h2', I2, hm2, s2, c, cc, ins, hv2, hc, hr2⟩ := imp_intsR o2 h2 I1
  exact calls_imp noGlobals I2 rfl (taskWakes_spec zb a ca ps hr b cb ins hr2 c cc h2' (hz.same (s1.trans s2)) (hy.same s2) hc) (((ARel.single (hv.mono (hm1.trans hm2))).push (hv1.mono hm2)).push hv2)
end Go.Proofs.Ytacfneokhmnkbaa