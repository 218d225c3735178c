/- What the law leans on, part 8. No conditions. -/
import Derived.Test.YtjpegoigipbmiaaPktTakesPart7
set_option linter.unusedVariables false
set_option linter.unusedSimpArgs false
namespace Go.Proofs.Ytjpegoigipbmiaa
set_option maxRecDepth 100000
attribute [local irreducible] Go GoR GoL
def pcs (l : List CP) : List PC := l.map fun x => pcOf x.1 x.2
def endsB (k : Nat) : Bool := !kn k && decide (k < 128)
def goP : List Thing → Bool → List PC → Except Nat (List PC)
  | [], well, acc => if well then .ok acc else .error 40
  | x :: l, well, acc => if endsB x.1 = true then .ok acc else match tkP x.1 x.2.1 x.2.2 with
    | none => .error 50
    | some p => goP l well (acc ++ [p])
def pmayK (g : Nat) (ks : List Nat) : Bool := decide (0 < ks.length) && (decide (ks.length ≤ 1) || !ks.any aloneB) && (ks.any startB == decide (g = 0))
theorem pmay_k (g : Nat) (l : List CP) : pmay g l = pmayK g ((pcs l).map (·.k)) := by
  unfold pmay pmayK anyA anyS pcs
  simp only [List.length_map, List.map_map, List.any_map]
  rfl
abbrev PR := Nat × Nat × Nat × List PC
def htk (zs : List UInt8) : Except Nat (Nat × Nat × Nat) :=
  if 1500 < zs.length then .error 3
  else if zs.length < 12 then .error 30
  else if zs.length % 4 ≠ 0 then .error 32
  else if beNum ((zs.drop 8).take 4) ≠ headSum zs then .error 31
  else .ok (beNum (zs.take 2), beNum ((zs.drop 2).take 2), beNum ((zs.drop 4).take 4))
def take6 (zs : List UInt8) : Except Nat PR := match htk zs with
  | .error e => .error e
  | .ok (f, t, g) => match goP (parse true (zs.drop 12)).1 (parse true (zs.drop 12)).2 [] with
    | .error e => .error e
    | .ok l => if pmayK g (l.map (·.k)) = true then .ok (f, t, g, l) else .error 60
theorem htk_err {zs : List UInt8} {e : Nat} (h : htk zs = .error e) : e ≠ 0 := by
  unfold htk at h
  split at h
  · cases h; decide
  split at h
  · cases h; decide
  split at h
  · cases h; decide
  split at h
  · cases h; decide
  · cases h
theorem htk_ok {zs : List UInt8} {f t g : Nat} (h : htk zs = .ok (f, t, g)) : 12 ≤ zs.length ∧ zs.length ≤ 1500 ∧ zs.length % 4 = 0 ∧ beNum ((zs.drop 8).take 4) = headSum zs ∧ f = beNum (zs.take 2) ∧ t = beNum ((zs.drop 2).take 2) ∧ g = beNum ((zs.drop 4).take 4) ∧ f < 65536 ∧ t < 65536 ∧ g < 4294967296 := by
  unfold htk at h
  split at h
  · cases h
  split at h
  · cases h
  split at h
  · cases h
  split at h
  · cases h
  · rename_i h1 h2 h3 h4
    cases h
    refine ⟨by omega, by omega, by omega, Decidable.of_not_not h4, rfl, rfl, rfl, ?_, ?_, ?_⟩
    · exact beNum_lt_of (k := 2) (by simp; omega) rfl
    · exact beNum_lt_of (k := 2) (by simp; omega) rfl
    · exact beNum_lt_of (k := 4) (by simp; omega) rfl
theorem goP_err {l : List Thing} {well : Bool} {acc : List PC} {e : Nat} (h : goP l well acc = .error e) : e = 40 ∨ e = 50 := by
  induction l generalizing acc with
  | nil => simp only [goP] at h; split at h <;> cases h; exact .inl rfl
  | cons x l ih =>
    simp only [goP] at h
    split at h
    · cases h
    · split at h
      · cases h; exact .inr rfl
      · exact ih h
theorem take6_err {zs : List UInt8} {e : Nat} (h : take6 zs = .error e) : e ≠ 0 := by
  unfold take6 at h
  split at h
  · rename_i he; cases h; exact htk_err he
  · split at h
    · rename_i he
      cases h
      have := goP_err he
      omega
    · split at h
      · cases h
      · cases h; decide
abbrev zPk : List Value := [.int .u16 (0 : Nat), .int .u16 (0 : Nat), .int .u32 (0 : Nat), .slice none 0 0]
abbrev pkC (f t g : Nat) (a : Option Addr) (n cap : Nat) : List Value := [.int .u16 f, .int .u16 t, .int .u32 g, .slice a n cap]
def TakeP (h' : AHeap) (v : Value) (r : Except Nat PR) : Prop := match r with
  | .error e => v = .tuple #[pkV 0 0 0 none 0 0, .int .i64 e]
  | .ok (f, t, g, pl) => ∃ a n cap l, v = .tuple #[pkV f t g a n cap, .int .i64 0] ∧ KS h' a n cap l ∧ pcs l = pl
structure KRow (n0 : Nat) (h : AHeap) (a : Option Addr) (cap : Nat) (l : List CP) : Prop where
  sv : Sv h 43 15 a l.length cap (kcs l)
  own : Own n0 a
  ok : ∀ x ∈ l, COk h x.1 x.2
  apart : ∀ x ∈ l, ∀ i ∈ blk a, CNot i x.1 x.2
  ownv : ∀ x ∈ l, CApart n0 x.1 x.2
theorem KRow.nil (n0 : Nat) (h : AHeap) : KRow n0 h none 0 [] := ⟨.nil, Own.nil _, (fun t ht => by cases ht), (fun t ht => by cases ht), fun t ht => by cases ht⟩
theorem KRow.same {n0 : Nat} {h h' : AHeap} {a : Option Addr} {cap : Nat} {l : List CP} (k : KRow n0 h a cap l) (s : Same h h') : KRow n0 h' a cap l := ⟨k.sv.same s, k.own, fun x hx => (k.ok x hx).same s, k.apart, k.ownv⟩
theorem KRow.ks {n0 : Nat} {h : AHeap} {a : Option Addr} {cap : Nat} {l : List CP} (k : KRow n0 h a cap l) : KS h a l.length cap l := ⟨rfl, k.sv.rv, k.ok⟩
theorem COk.keeps {wr : List Nat} {H H' : AHeap} {c : Ck} {d : CD} (ok : COk H c d) (kp : Keeps wr H H') (hn : ∀ i ∈ wr, CNot i c d) : COk H' c d := by
  have q : ∀ {a : Option Addr}, (∀ i ∈ wr, i ∉ blk a) → ∀ i ∈ blk a, i ∉ wr := fun w i hi hm => w i hm hi
  exact { ok with dv := ok.dv.keeps kp (q fun i hi => (hn i hi).1), av := ok.av.keeps kp (q fun i hi => (hn i hi).2.1), gv := ok.gv.keeps kp (q fun i hi => (hn i hi).2.2.1), uv := ok.uv.keeps kp (q fun i hi => (hn i hi).2.2.2.1), cv := ok.cv.keeps kp (q fun i hi => (hn i hi).2.2.2.2.1), cb := fun x hx => ⟨(ok.cb x hx).1, (ok.cb x hx).2.1, (ok.cb x hx).2.2.keeps kp (q fun i hi => (hn i hi).2.2.2.2.2 x hx)⟩ }
theorem CApart.cnot {n i : Nat} {c : Ck} {d : CD} (ap : CApart n c d) (hi : i < n) : CNot i c d := by
  obtain ⟨h1, h2, h3, h4, h5, h6⟩ := ap
  have q : ∀ {a : Option Addr}, Own n a → i ∉ blk a := fun w hm => by have := w _ hm; omega
  exact ⟨q h1, q h2, q h3, q h4, q h5, fun x hx => q (h6 x hx)⟩
theorem KRow.keeps {n0 : Nat} {h h' : AHeap} {a : Option Addr} {cap : Nat} {l : List CP} {wr : List Nat} (k : KRow n0 h a cap l) (kp : Keeps wr h h') (hn : ∀ i ∈ wr, i < n0 ∨ (i ∉ blk a ∧ ∀ x ∈ l, CNot i x.1 x.2)) : KRow n0 h' a cap l :=
  ⟨k.sv.keeps kp (fun i hi hm => (hn i hm).elim (fun x => by have := k.own i hi; omega) (fun x => x.1 hi)), k.own, fun x hx => (k.ok x hx).keeps kp (fun i hi => (hn i hi).elim (fun y => (k.ownv x hx).cnot y) (fun y => y.2 x hx)), k.apart, k.ownv⟩
theorem COk.lt {H : AHeap} {c : Ck} {d : CD} (ok : COk H c d) {i : Nat} (hi : H.n ≤ i) : CNot i c d :=
  ⟨fun hm => by have := ok.dv.lt i hm; omega, fun hm => by have := ok.av.lt i hm; omega, fun hm => by have := ok.gv.lt i hm; omega, fun hm => by have := ok.uv.lt i hm; omega, fun hm => by have := ok.cv.lt i hm; omega, fun x hx hm => by have := (ok.cb x hx).2.2.lt i hm; omega⟩
theorem kcs_snoc (l : List CP) (x : CP) : kcs (l ++ [x]) = kcs l ++ x.1.cs := by simp [kcs]
theorem KRow.snoc {n0 : Nat} {h₁ h₂ : AHeap} {a a₂ : Option Addr} {cap cap₂ : Nat} {l : List CP} {c : Ck} {d : CD} (k : KRow n0 h₁ a cap l) (hn : n0 ≤ h₁.n) (hc : COk h₁ c d) (hca : ∀ i ∈ blk a, CNot i c d) (hco : CApart n0 c d) (sv : Sv h₂ 43 15 a₂ (l.length + 1) cap₂ (kcs l ++ c.cs)) (kp : Keeps (blk a) h₁ h₂) (hb : ∀ i ∈ blk a₂, i ∈ blk a ∨ h₁.n ≤ i) : KRow n0 h₂ a₂ cap₂ (l ++ [(c, d)]) := by
  have all : ∀ x ∈ l ++ [(c, d)], COk h₁ x.1 x.2 ∧ ∀ i ∈ blk a, CNot i x.1 x.2 := fun x hx => by
    rcases List.mem_append.1 hx with hx | hx
    · exact ⟨k.ok x hx, k.apart x hx⟩
    · simp only [List.mem_singleton] at hx; subst hx; exact ⟨hc, hca⟩
  refine ⟨by rw [kcs_snoc, List.length_append]; exact sv, fun i hi => (hb i hi).elim (k.own i) (fun x => by omega), fun x hx => ?_, fun x hx i hi => ?_, fun x hx => ?_⟩
  · exact (all x hx).1.keeps kp (all x hx).2
  · exact (hb i hi).elim (fun y => (all x hx).2 i y) (fun y => (all x hx).1.lt y)
  · rcases List.mem_append.1 hx with hx | hx
    · exact k.ownv x hx
    · simp only [List.mem_singleton] at hx; subst hx; exact hco
theorem ends_spec (k : Nat) (hk : k < 256) (h : AHeap) : CallS Try.prog [] 31 [.int .u8 k] h fun v h' => v = .bool (endsB k) := by
  (refine CallS.of1 Try.func31 rfl Try.ntmps31 Try.results31 rfl ?_)
  (refine Go.run (g:=?_))
  refine GoR.call rfl rfl rfl rfl rfl rfl rfl (((kknown_spec k _).argA).mono ?_)
  rintro _ h1 ⟨rfl, rfl⟩ s1
  cases hkn : kn k
  · (refine Go.run (g:=?_))
    refine GoR.call rfl rfl rfl rfl rfl rfl rfl (((skips_spec k hk _).argA).mono ?_)
    rintro _ h2 ⟨rfl, rfl⟩ s2
    rw [hkn]
    (refine Go.run (g:=?_))
    (first|refine Go.finT (by first|exact .inr rfl|exact .inl rfl) rfl ?_|refine Go.fin1 (by first|exact .inr rfl|exact .inl rfl) rfl (hq:=?_))
    simp only [retV, endsB, hkn]
    by_cases c : 128 ≤ k
    · simp [c] <;> omega
    · simp [c] <;> omega
  · (refine Go.run (g:=?_))
    (first|refine Go.finT (by first|exact .inr rfl|exact .inl rfl) rfl ?_|refine Go.fin1 (by first|exact .inr rfl|exact .inl rfl) rfl (hq:=?_))
    simp [retV, endsB, hkn]
theorem rends_spec (k : Nat) (hk : k < 256) (h : AHeap) : CallS Try.prog [] 35 [.int .u8 k] h fun v h' => v = .bool (endsB k) := by
  (refine CallS.of1 Try.func35 rfl Try.ntmps35 Try.results35 rfl ?_)
  (refine Go.run (g:=?_))
  refine GoR.call rfl rfl rfl rfl rfl rfl rfl (((rknown_spec k _).argA).mono ?_)
  rintro _ h1 ⟨rfl, rfl⟩ s1
  cases hkn : kn k
  · by_cases c : k < 128
    · have c' : (k : Int) < 128 := by omega
      (refine Go.run (g:=?_))
      (first|refine Go.finT (by first|exact .inr rfl|exact .inl rfl) rfl ?_|refine Go.fin1 (by first|exact .inr rfl|exact .inl rfl) rfl (hq:=?_))
      simp [retV, endsB, hkn, c, c']
    · have c' : ¬ (k : Int) < 128 := by omega
      (refine Go.run (g:=?_))
      (first|refine Go.finT (by first|exact .inr rfl|exact .inl rfl) rfl ?_|refine Go.fin1 (by first|exact .inr rfl|exact .inl rfl) rfl (hq:=?_))
      simp [retV, endsB, hkn, c, c']
  · (refine Go.run (g:=?_))
    (first|refine Go.finT (by first|exact .inr rfl|exact .inl rfl) rfl ?_|refine Go.fin1 (by first|exact .inr rfl|exact .inl rfl) rfl (hq:=?_))
    simp [retV, endsB, hkn]
theorem thing_kind (z : List UInt8) : (thing true z).1 < 256 ∧ (thing true z).2.1 < 256 := by
  have h : ∀ l : List UInt8, beNum (l.take 1) < 256 := fun l => by
    have := beNum_lt_of (l := l.take 1) (k := 1) (by simp; omega) rfl
    omega
  exact ⟨h _, h _⟩
theorem parse_kind : ∀ (n : Nat) (z : List UInt8), z.length ≤ n → ∀ x ∈ (parse true z).1, x.1 < 256 ∧ x.2.1 < 256 ∧ x.2.2.length ≤ z.length := by
  intro n
  induction n with
  | zero =>
    intro z hz x hx
    obtain rfl : z = [] := List.eq_nil_of_length_eq_zero (by omega)
    rw [parse_nil] at hx; cases hx
  | succ n ih =>
    intro z hz x hx
    by_cases h0 : z = []
    · rw [h0, parse_nil] at hx; cases hx
    by_cases hW : Whole z
    · rw [parse_some hW] at hx
      have hu := up4_le (tN z)
      have h2 := hW.2.1
      rcases List.mem_cons.1 hx with rfl | hx
      · obtain ⟨h1, h2⟩ := thing_kind z
        exact ⟨h1, h2, by simp only [thing, List.length_take, List.length_drop]; omega⟩
      · obtain ⟨h1, h2, h3⟩ := ih _ (by rw [List.length_drop]; omega) x hx
        exact ⟨h1, h2, by rw [List.length_drop] at h3; omega⟩
    · rw [parse_none h0 hW] at hx; cases hx
end Go.Proofs.Ytjpegoigipbmiaa
namespace Go.Proofs.Ytjpegoigipbmiaa
set_option maxRecDepth 100000
attribute [local irreducible] Go GoR GoL
set_option maxHeartbeats 4000000 in
theorem headTake_err (a : Option Addr) (n cap : Nat) (hn : n ≤ 1000000) (h : AHeap) (x : Nat) (hx : 1500 < n ∧ x = 3 ∨ n < 12 ∧ x = 30 ∨ 12 ≤ n ∧ n ≤ 1500 ∧ n % 4 ≠ 0 ∧ x = 32) : CallS Try.prog [] 29 [.slice a n cap] h fun v h' => v = .tuple #[hdV 0 0 0, .slice none 0 0, .int .i64 x] := by
  rcases hx with ⟨g1, rfl⟩ | ⟨g1, rfl⟩ | ⟨g1, g2, g3, rfl⟩
  all_goals
    (refine CallS.of1 Try.func29 rfl Try.ntmps29 Try.results29 rfl ?_)
    (refine Go.run (g:=?_))
    (refine Go.fin (by first|exact .inr rfl|exact .inl rfl) (.cellN rfl inferInstance (by (first | assumption | exact AHeap.get_push_same _ _ | ((repeat first | exact AHeap.get_push_same _ _ | assumption | refine get_push_lt ?_ | exact AHeap.get_put_same _ (by first | omega | (simp only [AHeap.n_push, AHeap.n_put]; omega)) _ | exact get_put_self (by assumption) | apply get_put_self | refine get_put_other (by first | omega | (simp only [AHeap.n_push, AHeap.n_put]; omega)) ?_ | refine Same.get (by assumption) ?_ | refine Keeps.get (by assumption) ?_ (fun hi => by have hx := Own.out (by assumption) hi; omega)) ; fail_if_success focus skip) | fail)) (by first | exact Nat.le_refl _ | (simp [setL, cellsL]; fail_if_success focus skip) | (simp; omega)) rfl (.tmp rfl (.tmp rfl .nil))) ?_)
    rfl
set_option maxHeartbeats 4000000 in
theorem headTake_sum (a : Option Addr) (n cap : Nat) (zs : List UInt8) (hlen : zs.length = n) (h12 : 12 ≤ n) (hn : n ≤ 1500) (h4 : n % 4 = 0) (h : AHeap) (hz : Rv Try.prog h 1 a n cap (zs.map bv)) (hne : beNum ((zs.drop 8).take 4) ≠ headSum zs) : CallS Try.prog [] 29 [.slice a n cap] h fun v h' => v = .tuple #[hdV 0 0 0, .slice none 0 0, .int .i64 (31 : Nat)] := by
  (refine CallS.of1 Try.func29 rfl Try.ntmps29 Try.results29 rfl ?_)
  (refine Go.run (g:=?_))
  have hz1 := hz.push (.cells [.int .u16 (0 : Nat), .int .u16 (0 : Nat), .int .u32 (0 : Nat)] 25)
  refine GoR.bLH (l := 8) (r := 12) rfl rfl rfl rfl rfl rfl rfl hz1 (by omega) (by omega) ?_
  intro a1 hz2 _
  (refine Go.run (g:=?_))
  refine GoR.call rfl rfl rfl rfl rfl rfl rfl (((number_n a1 (cap - 8) ((zs.drop 8).take 4) 4 (by simp; omega) (by omega) _ hz2).argA).mono ?_)
  rintro _ h1 rfl s1
  (refine Go.run (g:=?_))
  have hz3 := hz1.same s1
  have hsum := sum_spec a cap zs (by omega) (by omega) _ (by rw [hlen]; exact hz3)
  rw [hlen] at hsum
  refine GoR.call rfl rfl rfl rfl rfl rfl rfl (((hsum).argA).mono ?_)
  rintro _ h2 rfl s2
  have G2 : h2.get h.n = some (.cells [.int .u16 (0 : Nat), .int .u16 (0 : Nat), .int .u32 (0 : Nat)] 25) := Same.get s2 (Same.get s1 (AHeap.get_push_same _ _))
  (refine Go.run (g:=?_))
  (refine Go.fin (by first|exact .inr rfl|exact .inl rfl) (.cellN rfl inferInstance (by (first | assumption | exact AHeap.get_push_same _ _ | ((repeat first | exact AHeap.get_push_same _ _ | assumption | refine get_push_lt ?_ | exact AHeap.get_put_same _ (by first | omega | (simp only [AHeap.n_push, AHeap.n_put]; omega)) _ | exact get_put_self (by assumption) | apply get_put_self | refine get_put_other (by first | omega | (simp only [AHeap.n_push, AHeap.n_put]; omega)) ?_ | refine Same.get (by assumption) ?_ | refine Keeps.get (by assumption) ?_ (fun hi => by have hx := Own.out (by assumption) hi; omega)) ; fail_if_success focus skip) | fail)) (by first | exact Nat.le_refl _ | (simp [setL, cellsL]; fail_if_success focus skip) | (simp; omega)) rfl (.tmp rfl (.tmp rfl .nil))) ?_)
  rfl
set_option maxHeartbeats 4000000 in
theorem headTake_ok (a : Option Addr) (n cap : Nat) (zs : List UInt8) (hlen : zs.length = n) (h12 : 12 ≤ n) (hn : n ≤ 1500) (h4 : n % 4 = 0) (h : AHeap) (hz : Rv Try.prog h 1 a n cap (zs.map bv)) (hne : beNum ((zs.drop 8).take 4) = headSum zs) : CallS Try.prog [] 29 [.slice a n cap] h fun v h' => ∃ b c, v = .tuple #[hdV (beNum (zs.take 2)) (beNum ((zs.drop 2).take 2)) (beNum ((zs.drop 4).take 4)), .slice b (n - 12) c, .int .i64 (0 : Nat)] ∧ Sv h' 5 1 b (n - 12) c ((zs.drop 12).map bv) ∧ Own h.n b := by
  (refine CallS.of1 Try.func29 rfl Try.ntmps29 Try.results29 rfl ?_)
  (refine Go.run (g:=?_))
  have hz1 := hz.push (.cells [.int .u16 (0 : Nat), .int .u16 (0 : Nat), .int .u32 (0 : Nat)] 25)
  refine GoR.bLH (l := 8) (r := 12) rfl rfl rfl rfl rfl rfl rfl hz1 (by omega) (by omega) ?_
  intro a1 hz2 _
  (refine Go.run (g:=?_))
  refine GoR.call rfl rfl rfl rfl rfl rfl rfl (((number_n a1 (cap - 8) ((zs.drop 8).take 4) 4 (by simp; omega) (by omega) _ hz2).argA).mono ?_)
  rintro _ h1 rfl s1
  (refine Go.run (g:=?_))
  have hz3 := hz1.same s1
  have hsum := sum_spec a cap zs (by omega) (by omega) _ (by rw [hlen]; exact hz3)
  rw [hlen] at hsum
  refine GoR.call rfl rfl rfl rfl rfl rfl rfl (((hsum).argA).mono ?_)
  rintro _ h2 rfl s2
  have hz4 := hz3.same s2
  rw [hne]
  (refine Go.run (g:=?_))
  have hlt : ∀ i ∈ blk a, i < h.n := hz.lt
  have n1 := s1.1
  have n2 := s2.1
  simp only [AHeap.n_push] at n1
  have G2 : h2.get h.n = some (.cells [.int .u16 (0 : Nat), .int .u16 (0 : Nat), .int .u32 (0 : Nat)] 25) := Same.get s2 (Same.get s1 (AHeap.get_push_same _ _))
  clear hz2 hz3 hsum hz1
  refine Go.loud (by kernel_rfl) rfl ?_
  (refine Go.runL (g:=?_))
  refine GoL.bHi (r := 2) rfl rfl rfl rfl rfl rfl hz4 (by omega) ?_
  intro a3 hz5 _
  (refine Go.runL (g:=?_))
  refine GoL.callS rfl rfl rfl rfl rfl rfl rfl (((number_n a3 cap (zs.take 2) 2 (by simp; omega) (by omega) _ hz5).argA).mono ?_)
  rintro _ h3 rfl s3
  (refine Go.runL (g:=?_))
  have hz6 := hz4.same s3
  refine GoL.bLH (l := 2) (r := 4) rfl rfl rfl rfl rfl rfl rfl hz6 (by omega) (by omega) ?_
  intro a4 hz7 _
  (refine Go.runL (g:=?_))
  refine GoL.callS rfl rfl rfl rfl rfl rfl rfl (((number_n a4 (cap - 2) ((zs.drop 2).take 2) 2 (by simp; omega) (by omega) _ hz7).argA).mono ?_)
  rintro _ h4 rfl s4
  (refine Go.runL (g:=?_))
  have hz8 := hz6.same s4
  refine GoL.bLH (l := 4) (r := 8) rfl rfl rfl rfl rfl rfl rfl hz8 (by omega) (by omega) ?_
  intro a5 hz9 _
  (refine Go.runL (g:=?_))
  refine GoL.callS rfl rfl rfl rfl rfl rfl rfl (((number_n a5 (cap - 4) ((zs.drop 4).take 4) 4 (by simp; omega) (by omega) _ hz9).argA).mono ?_)
  rintro _ h5 rfl s5
  (refine Go.runL (g:=?_))
  have hz10 := hz8.same s5
  refine GoL.bLo (l := 12) rfl rfl rfl rfl rfl rfl hz10 (by omega) ?_
  intro a6 hz11 hb6
  (refine Go.runL (g:=?_))
  have e6 : ((zs.drop 12).take (n - 12)) = zs.drop 12 := List.take_of_length_le (by simp; omega)
  rw [e6] at hz11
  refine GoL.callR (blk a) rfl rfl rfl rfl rfl rfl rfl (((clone_n a6 (cap - 12) (zs.drop 12) (n - 12) (by simp; omega) (by omega) _ (hz11.restr (blk a) hb6)).args rfl).mono ?_)
  rintro _ h6 ⟨b6, c6, rfl, hs6, ob6⟩ h7 nw
  rw [restr_n] at ob6
  have m3 := s3.1
  have m4 := s4.1
  have m5 := s5.1
  have m7 := nw.same.1
  have G7 : h7.get h.n = some (.cells [.int .u16 (0 : Nat), .int .u16 (0 : Nat), .int .u32 (0 : Nat)] 25) := Same.get nw.same (Same.get s5 (Same.get s4 (Same.get s3 G2)))
  have hs7 := nw.sv hs6 ob6
  (refine Go.runL (g:=?_))
  refine GoL.store rfl rfl rfl rfl rfl G7 rfl rfl (Nat.le_refl 3) rfl rfl (.inr (Nat.le_refl _)) ?_
  (refine Go.runL (g:=?_))
  refine GoL.end (by
    simp only [List.nil_append, List.cons_append]
    repeat (first | exact loudP.nil | refine loudP.none ?_ | refine loudP.new (fun _ hb => absurd hb List.not_mem_nil) ?_ | refine loudP.row (by repeat (first | exact loudRowP.nil | refine loudRowP.none ?_ | refine loudRowP.bef (by decide +kernel) ?_ | refine loudRowP.apart (.inr (by simp)) rfl (by intro i hi; simp only [List.mem_singleton] at hi; subst hi; exact ⟨fun hm => absurd (hlt _ hm) (Nat.lt_irrefl _), List.not_mem_nil, .inl (by omega)⟩) ?_)) ?_)) ?_
  (refine Go.run (g:=?_))
  refine Go.fin (.inr rfl) (.cellN rfl inferInstance (get_put_self G7) (Nat.le_refl 3) rfl (.tmp rfl (.tmp rfl .nil))) ?_
  have l6 : (zs.drop 12).length = n - 12 := by simp; omega
  have v0 : beNum (zs.take 2) < 65536 := beNum_lt_of (k := 2) (by simp; omega) rfl
  have v1 : beNum ((zs.drop 2).take 2) < 65536 := beNum_lt_of (k := 2) (by simp; omega) rfl
  rw [l6] at hs7 ⊢
  refine ⟨b6, c6, ?_, hs7.put (fun hm => by have := ob6 _ hm; omega) _, ob6.mono (by omega)⟩
  show Value.tuple #[.agg #[.int .u16 ((beNum (zs.take 2) % 65536 : Nat) : Int), .int .u16 ((beNum ((zs.drop 2).take 2) % 65536 : Nat) : Int), .int .u32 ((beNum ((zs.drop 4).take 4) : Nat) : Int)], .slice b6 (n - 12) c6, .int .i64 0] = _
  rw [Nat.mod_eq_of_lt v0, Nat.mod_eq_of_lt v1]
  rfl
end Go.Proofs.Ytjpegoigipbmiaa
namespace Go.Proofs.Ytjpegoigipbmiaa
set_option maxRecDepth 100000
attribute [local irreducible] Go GoR GoL
theorem htake_all (a : Option Addr) (n cap : Nat) (zs : List UInt8) (hlen : zs.length = n) (hn : n ≤ 1000000) (h : AHeap) (hz : Rv Try.prog h 1 a n cap (zs.map bv)) : CallS Try.prog [] 29 [.slice a n cap] h fun v h' => match htk zs with
    | .error e => v = .tuple #[hdV 0 0 0, .slice none 0 0, .int .i64 e]
    | .ok (f, t, g) => ∃ b c, v = .tuple #[hdV f t g, .slice b (n - 12) c, .int .i64 (0 : Nat)] ∧ Rv Try.prog h' 1 b (n - 12) c ((zs.drop 12).map bv) ∧ Own h.n b := by
  unfold htk
  rw [hlen]
  by_cases h1 : 1500 < n
  · rw [if_pos h1]; exact headTake_err a n cap hn h 3 (.inl ⟨h1, rfl⟩)
  rw [if_neg h1]
  by_cases h2 : n < 12
  · rw [if_pos h2]; exact headTake_err a n cap hn h 30 (.inr (.inl ⟨h2, rfl⟩))
  rw [if_neg h2]
  by_cases h3 : n % 4 ≠ 0
  · rw [if_pos h3]; exact headTake_err a n cap hn h 32 (.inr (.inr ⟨by omega, by omega, h3, rfl⟩))
  rw [if_neg h3]
  by_cases h4 : beNum ((zs.drop 8).take 4) ≠ headSum zs
  · rw [if_pos h4]; exact headTake_sum a n cap zs hlen (by omega) (by omega) (by omega) h hz h4
  · rw [if_neg h4]
    refine (headTake_ok a n cap zs hlen (by omega) (by omega) (by omega) h hz (Decidable.of_not_not h4)).mono ?_
    rintro v h' ⟨b, c, rfl, sv, o⟩
    exact ⟨b, c, rfl, sv.rv, o⟩
structure KInv6 (n0 : Nat) (tm : List Value) (ps : Array Tmp) (asg bo : Code) (l d pb r2 r3 f t g : Nat) (s : List CP × Option Addr × Nat) (h : AHeap) : Prop where
  loop : h.get l = some (.loop .ready none tm ps asg bo d)
  mark : h.get d = some (.deferred true)
  out : h.get pb = some (.cells (pkC f t g s.2.1 s.1.length s.2.2) 28)
  c2 : h.get r2 = some (.cells zPk 28)
  c3 : h.get r3 = some (.cells [.int .i64 (0 : Nat)] 32)
  row : KRow n0 h s.2.1 s.2.2 s.1
  n0 : n0 ≤ h.n
theorem Same.kps {wr : List Nat} {h h' : AHeap} (s : Same h h') : Keeps wr h h' := ⟨s.1, fun i hi _ => s.2 i hi⟩
set_option maxHeartbeats 16000000 in
theorem ptake_spec (a : Option Addr) (cap : Nat) (zs : List UInt8) (hl : zs.length ≤ 1000000) (h : AHeap) (hz : Rv Try.prog h 1 a zs.length cap (zs.map bv)) : CallS Try.prog [] 14 [.slice a zs.length cap] h fun v h' => TakeP h' v (take6 zs) := by
  unfold take6
  obtain ⟨n, hlen⟩ : ∃ n, n = zs.length := ⟨_, rfl⟩
  rw [← hlen] at hz ⊢
  (refine CallS.of1 Try.func14 rfl Try.ntmps14 Try.results14 rfl ?_)
  (iterate 4 (first|(refine Go.kk 0 rfl ?_;refine Go.seq ?_)|(refine Go.kk 1 rfl ?_;refine Go.region (by kernel_rfl) rfl ?_)|(refine GoR.kk 0 rfl ?_;first|refine GoR.move rfl rfl rfl rfl rfl ?_|refine GoR.assign rfl rfl rfl rfl rfl ?_)|(refine GoR.kk 8 rfl ?_;first|refine GoR.boxA rfl rfl rfl rfl rfl ?_|refine GoR.boxS rfl rfl rfl rfl rfl rfl ?_|refine GoR.alloc rfl rfl rfl rfl ?_)|refine GoR.end ?_))
  refine GoR.name ?_
  intro h0 e0
  have s0 : Same h h0 := by subst e0; exact ((Same.refl h).push _).push _
  have n0 : h0.n = h.n + 2 := by subst e0; rfl
  have g2 : h0.get h.n = some (.cells zPk 28) := by subst e0; exact get_push_lt (AHeap.get_push_same _ _)
  have g3 : h0.get (h.n + 1) = some (.cells [.int .i64 (0 : Nat)] 32) := by subst e0; exact AHeap.get_push_same (h.push _) _
  clear e0
  (refine Go.run (g:=?_))
  refine GoR.call rfl rfl rfl rfl rfl rfl rfl (((htake_all a n cap zs hlen.symm (by omega) _ (hz.same s0)).argA).mono ?_)
  intro v1 h1 hv1 s1
  have n1 := s1.1
  have g21 := s1.get g2
  have g31 := s1.get g3
  cases he : htk zs with
  | error e =>
    rw [he] at hv1
    simp only at hv1 ⊢
    subst hv1
    have e0 := htk_err he
    have e0' : ¬ (e : Int) = 0 := by omega
    (refine Go.run (g:=?_))
    refine Go.fin (.inr rfl) (.cellN (b := h.n) (off := 0) rfl inferInstance (by (first | assumption | exact AHeap.get_push_same _ _ | ((repeat first | exact AHeap.get_push_same _ _ | assumption | refine get_push_lt ?_ | exact AHeap.get_put_same _ (by first | omega | (simp only [AHeap.n_push, AHeap.n_put]; omega)) _ | exact get_put_self (by assumption) | apply get_put_self | refine get_put_other (by first | omega | (simp only [AHeap.n_push, AHeap.n_put]; omega)) ?_ | refine Same.get (by assumption) ?_ | refine Keeps.get (by assumption) ?_ (fun hi => by have hx := Own.out (by assumption) hi; omega)) ; fail_if_success focus skip) | fail)) (by first | exact Nat.le_refl _ | (simp [setL, cellsL]; fail_if_success focus skip) | (simp; omega)) rfl (.cell rfl inferInstance (by (first | assumption | exact AHeap.get_push_same _ _ | ((repeat first | exact AHeap.get_push_same _ _ | assumption | refine get_push_lt ?_ | exact AHeap.get_put_same _ (by first | omega | (simp only [AHeap.n_push, AHeap.n_put]; omega)) _ | exact get_put_self (by assumption) | apply get_put_self | refine get_put_other (by first | omega | (simp only [AHeap.n_push, AHeap.n_put]; omega)) ?_ | refine Same.get (by assumption) ?_ | refine Keeps.get (by assumption) ?_ (fun hi => by have hx := Own.out (by assumption) hi; omega)) ; fail_if_success focus skip) | fail)) rfl .nil)) ?_
    rfl
  | ok r =>
  obtain ⟨f, p, g⟩ := r
  rw [he] at hv1
  simp only at hv1 ⊢
  obtain ⟨hz1, hz2, hz3, -, -, -, -, hf, ht, hg⟩ := htk_ok he
  obtain ⟨b, c, rfl, rb, ob⟩ := hv1
  obtain ⟨body, hbody⟩ : ∃ y, y = zs.drop 12 := ⟨_, rfl⟩
  rw [← hbody] at rb ⊢
  have bl : body.length = n - 12 := by rw [hbody, List.length_drop, hlen]
  obtain ⟨m, hm⟩ : ∃ m, m = n - 12 := ⟨_, rfl⟩
  rw [← hm] at rb bl ⊢
  have hm1 : m ≤ 1488 := by omega
  clear hbody hm
  (refine Go.run (g:=?_))
  refine GoR.name ?_
  intro h2 e2
  have s2 : Same h1 h2 := by subst e2; exact ((((Same.refl h1).push _).put (Nat.le_refl _) _).push _).put (by simp) _
  have n2 : h2.n = h1.n + 2 := by subst e2; rfl
  have gp2 : h2.get (h1.n + 1) = some (.cells (pkC f p g none 0 0) 28) := by subst e2; exact AHeap.get_put_same _ (by simp) _
  clear e2
  refine GoR.call rfl rfl rfl rfl rfl rfl rfl (((allCall_spec true b m c _).argA).mono ?_)
  rintro _ _ ⟨rfl, rfl⟩ -
  (refine Go.run (g:=?_))
  refine Go.name ?_
  intro h3 e3
  have s3 : Same h2 h3 := by subst e3; exact ((Same.refl h2).push _).push _
  have n3 : h3.n = h2.n + 2 := by subst e3; rfl
  have gcb : h3.get h2.n = some (.cells [.bool true] 4) := by subst e3; exact get_push_lt (AHeap.get_push_same _ _)
  have gbb : h3.get (h2.n + 1) = some (.cells [.slice b m c] 31) := by subst e3; exact AHeap.get_push_same (h2.push _) _
  clear e3
  have rb3 := (rb.same s2).same s3
  have gp3 := s3.get gp2
  have g23 := s3.get (s2.get g21)
  have g33 := s3.get (s2.get g31)
  have S3 := (s1.trans s2).trans s3
  refine Go.rangeFunc' (wr := [h3.n + 1, h.n, h.n + 1, h1.n + 1, h3.n]) rfl (by rfl) (by kernel_rfl) ?_
  intro tm ps asg bo HH eps easg ebo eH hN hr
  have Hs : Same h3 HH := by subst eH; exact ((Same.refl h3).push _).push _
  have Hl : HH.get (h3.n + 1) = some (.loop .ready none tm ps asg bo h3.n) := by subst eH; exact AHeap.get_push_same (h3.push _) _
  have Hd : HH.get h3.n = some (.deferred true) := by subst eH; exact get_push_lt (AHeap.get_push_same _ _)
  have Hn : HH.n = h3.n + 2 := by subst eH; rfl
  clear eH
  have hpk := parse_kind _ body (Nat.le_refl _)
  have hpl := parse_len (chunk := true) body
  obtain ⟨its, hits⟩ : ∃ x, x = (parse true body).1 := ⟨_, rfl⟩
  obtain ⟨wl, hwl⟩ : ∃ x, x = (parse true body).2 := ⟨_, rfl⟩
  rw [← hits] at hpk hpl
  rw [← hits, ← hwl]
  refine ((all1_spec (l := h3.n + 1) (σ := List CP × Option Addr × Nat) (wrO := fun s => [h.n, h.n + 1, h1.n + 1, h3.n] ++ blk s.2.1) (inv := fun s i H => KInv6 HH.n tm ps asg bo (h3.n + 1) h3.n (h1.n + 1) h.n (h.n + 1) f p g s H ∧ goP its wl [] = goP (its.drop i) wl (pcs s.1) ∧ s.1.length ≤ i) (stop := fun s i H => (∃ e : Nat, goP its wl [] = .error e ∧ (∃ tm' ps' as' bo' df', H.get (h3.n + 1) = some (.loop .done (some .ret) tm' ps' as' bo' df')) ∧ H.get h3.n = some (.deferred true) ∧ H.get h.n = some (.cells zPk 28) ∧ H.get (h.n + 1) = some (.cells [.int .i64 e] 32)) ∨ (goP its wl [] = .ok (pcs s.1) ∧ (∃ tm' ps' as' bo' df', H.get (h3.n + 1) = some (.loop .done (some (.exit 0)) tm' ps' as' bo' df')) ∧ H.get h3.n = some (.deferred true) ∧ H.get (h1.n + 1) = some (.cells (pkC f p g s.2.1 s.1.length s.2.2) 28) ∧ H.get h.n = some (.cells zPk 28) ∧ H.get (h.n + 1) = some (.cells [.int .i64 (0 : Nat)] 32) ∧ KRow HH.n H s.2.1 s.2.2 s.1 ∧ HH.n ≤ H.n ∧ s.1.length ≤ its.length)) true (h2.n + 1) h2.n b m c body bl (by omega) _ ([], none, 0) ?Y ?i0 (Hs.get gbb) (Hs.get gcb) (rb3.same Hs) ?p1 ?p2 ?p3).args rfl).mono ?_
  case p1 => simp [blk]; omega
  case p2 => simp [blk]; omega
  case p3 => intro i hi; have := rb.lt i hi; have := ob i hi; simp [blk]; omega
  case i0 => exact ⟨⟨Hl, Hd, Hs.get gp3, Hs.get g23, Hs.get g33, KRow.nil _ _, Nat.le_refl _⟩, by simp [pcs], Nat.le_refl _⟩
  case Y =>
    rw [← hits, ← hwl]
    refine ⟨?_, ?_, ?_, ?_⟩
    · rintro s i H H' ⟨I, x1, x2⟩ sm
      exact ⟨⟨sm.get I.loop, sm.get I.mark, sm.get I.out, sm.get I.c2, sm.get I.c3, I.row.same sm, Nat.le_trans I.n0 sm.1⟩, x1, x2⟩
    · rintro s i H ⟨I, x1, x2⟩ b hb
      simp only [List.mem_cons, List.mem_append, List.not_mem_nil, or_false] at hb
      rcases hb with rfl | (rfl | rfl | rfl | rfl) | hb
      · exact AHeap.lt I.loop
      · exact AHeap.lt I.c2
      · exact AHeap.lt I.c3
      · exact AHeap.lt I.out
      · exact AHeap.lt I.mark
      · exact I.row.sv.lt _ hb
    · rintro ⟨ls, oa, oc⟩ i H t ⟨I, x1, x2⟩ hit hok hnw hto
      simp only at I x1 x2 hnw ⊢
      obtain ⟨hi1, hi2⟩ := List.getElem?_eq_some_iff.1 hit
      obtain ⟨k8, k9, k10⟩ := hpk t.thing (List.mem_of_getElem? hit)
      have k8 : t.k < 256 := k8
      have k9 : t.f < 256 := k9
      have k10 : t.z.length ≤ body.length := k10
      have hkm : t.k % 256 = t.k := Nat.mod_eq_of_lt k8
      have hgo : goP its wl [] = if endsB t.k = true then .ok (pcs ls) else match tkP t.k t.f t.z with | none => .error 50 | some p => goP (its.drop (i + 1)) wl (pcs ls ++ [p]) := by
        rw [x1, List.drop_eq_getElem_cons hi1, hi2]
        rfl
      have In0 := I.n0
      refine YieldS.of' I.loop hN hr eps easg ebo rfl (by rfl) rfl (List.mem_cons_self ..) ?_
      (refine Go.run (g:=?_))
      refine Go.name ?_
      intro h5 e5
      have s5 : Same H h5 := by subst e5; exact ((Same.refl H).push _).put (Nat.le_refl _) _
      have n5 : h5.n = H.n + 1 := by subst e5; rfl
      have g5 : h5.get H.n = some (.cells [.int .u16 t.k, .int .u8 t.f, .slice t.a t.z.length t.cap] 61) := by subst e5; exact AHeap.get_put_same _ (by simp) _
      clear e5
      refine Go.body (s5.get I.loop) ?_
      refine Go.name ?_
      intro h6 e6
      have k6 : Keeps [h3.n + 1] h5 h6 := by subst e6; exact (Keeps.rfl _ _).put (by simp) _
      have n6 : h6.n = h5.n := by subst e6; rfl
      have l6 : h6.get (h3.n + 1) = some (.loop .busy none tm ps asg bo h3.n) := by subst e6; exact get_put_self (s5.get I.loop)
      clear e6
      have Iout : H.get (h1.n + 1) = some (.cells (pkC f p g oa ls.length oc) 28) := I.out
      have go6 := k6.get (s5.get Iout) (by simp; omega)
      have gt6 := k6.get g5 (by simp; omega)
      have c26 := k6.get (s5.get I.c2) (by simp; omega)
      have c36 := k6.get (s5.get I.c3) (by simp; omega)
      have md6 := k6.get (s5.get I.mark) (by simp)
      have row6 : KRow HH.n h6 oa oc ls := (I.row.same s5).keeps k6 (fun i hi => .inl (by simp at hi; omega))
      have ok6 : Rv Try.prog h6 1 t.a t.z.length t.cap (t.z.map bv) := Rv.keeps (Rv.same hok s5) k6 (fun i hi hm => by simp only [List.mem_singleton] at hm; subst hm; exact hnw _ hi (by simp))
      (refine Go.run (g:=?_))
      try simp only [hkm]
      refine GoR.call rfl rfl rfl rfl rfl rfl rfl (((ends_spec t.k k8 _).argA).mono ?_)
      rintro _ h7 rfl s7
      have n7 := s7.1
      have go7 := s7.get go6
      have gt7 := s7.get gt6
      have c27 := s7.get c26
      have c37 := s7.get c36
      have md7 := s7.get md6
      have l7 := s7.get l6
      have row7 := row6.same s7
      clear go6 gt6 c26 c36 md6 l6 row6 Iout g5
      cases hE : endsB t.k
      case true =>
        rw [hE] at hgo
        simp only [if_true] at hgo
        (refine Go.run (g:=?_))
        refine Go.roundEnd (x := .exit 0) rfl l7 ?_
        exact ⟨(ls, oa, oc), fun b hb => .inl hb, (fun e => by cases e), fun _ => .inr ⟨hgo, ⟨_, _, _, _, _, AHeap.get_put_same _ (by first | omega | (simp only [AHeap.n_push, AHeap.n_put]; omega)) _⟩, get_put_other (by omega) md7, get_put_other (by omega) go7, get_put_other (by omega) c27, get_put_other (by omega) c37, row7.keeps ((Keeps.rfl [h3.n + 1] h7).put (by simp) _) (fun i hi => .inl (by simp at hi; omega)), by simp only [AHeap.n_put]; omega, by simp only; omega⟩⟩
      case false =>
        rw [hE] at hgo
        simp only [Bool.false_eq_true, if_false] at hgo
        (refine Go.run (g:=?_))
        refine GoR.call rfl rfl rfl rfl rfl rfl rfl (((ctake_own t.k t.f t.a t.cap t.z (by omega) k9 (by omega) _ (ok6.same s7)).argA).mono ?_)
        intro v8 h8 hv8 s8
        have n8 := s8.1
        have go8 := s8.get go7
        have c28 := s8.get c27
        have c38 := s8.get c37
        have md8 := s8.get md7
        have l8 := s8.get l7
        have row8 := row7.same s8
        clear go7 gt7 c27 c37 md7 l7 row7 ok6
        cases hT : tkP t.k t.f t.z with
        | none =>
          rw [hT] at hv8 hgo
          simp only [TakeO] at hv8 hgo
          subst hv8
          unfold Ck.none Sl.nil
          (refine Go.run (g:=?_))
          refine Go.name ?_
          intro h9 e9
          have k9' : Keeps [h.n, h.n + 1] h8 h9 := by subst e9; exact ((((Same.refl h8).push _).put (Nat.le_refl _) _).kps.put (by simp) _).put (by simp) _
          have r29 : h9.get h.n = some (.cells zPk 28) := by subst e9; exact get_put_other (by first | omega | (simp only [AHeap.n_push, AHeap.n_put]; omega)) (AHeap.get_put_same _ (by simp only [AHeap.n_put, AHeap.n_push]; omega) _)
          have r39 : h9.get (h.n + 1) = some (.cells [.int .i64 (50 : Nat)] 32) := by subst e9; exact AHeap.get_put_same _ (by simp only [AHeap.n_put, AHeap.n_push]; omega) _
          have n9 := k9'.1
          clear e9
          refine Go.roundEnd rfl (k9'.get l8 (by simp; omega)) ?_
          exact ⟨(ls, oa, oc), fun b hb => .inl hb, (fun e => by cases e), fun _ => .inl ⟨50, hgo, ⟨_, _, _, _, _, AHeap.get_put_same _ (by first | omega | (simp only [AHeap.n_push, AHeap.n_put]; omega)) _⟩, get_put_other (by omega) (k9'.get md8 (by simp; omega)), get_put_other (by omega) r29, get_put_other (by omega) r39⟩⟩
        | some q =>
          rw [hT] at hv8 hgo
          simp only [TakeO] at hv8 hgo
          obtain ⟨c', d', rfl, okc, apc, hq⟩ := hv8
          unfold Ck.v
          (refine Go.run (g:=?_))
          refine GoR.name ?_
          intro h9 e9
          have s9 : Same h8 h9 := by subst e9; exact ((Same.refl h8).push _).put (Nat.le_refl _) _
          have n9 := s9.1
          clear e9
          refine GoR.buildRo (c := c'.cs) rfl rfl rfl rfl rfl (by decide) (by rfl) (by rfl) ?_
          intro b10 h10 hb10 rb10 ob10 s10 n10
          have r10 := (row8.same s9).same s10
          have S10 := s9.trans s10
          refine GoR.appendV rfl rfl rfl rfl rfl rfl r10.sv hb10 (fun i hi => .inl (by simp [hi])) (by omega) (by omega) (by rfl) ?_
          intro b11 c11 h11 hs11 k11 o11
          have m11 := k11.1
          have r11 := r10.snoc (by omega) (okc.same S10) (fun i hi => apc.cnot (by have := I.row.sv.lt i hi; omega)) (apc.mono (by omega)) hs11 k11 o11
          have nob : ∀ i, i < HH.n → i ∉ blk oa := fun i hi hm => by have := I.row.own _ hm; omega
          have go11 := k11.get (S10.get go8) (nob _ (by omega))
          have c211 := k11.get (S10.get c28) (nob _ (by omega))
          have c311 := k11.get (S10.get c38) (nob _ (by omega))
          have md11 := k11.get (S10.get md8) (nob _ (by omega))
          have l11 := k11.get (S10.get l8) (nob _ (by omega))
          refine GoR.fieldAddr rfl rfl rfl rfl rfl ?_
          refine GoR.store (off := 0 + 3) (n := 1) (v := .slice b11 (ls.length + 1) c11) (l := [.slice b11 (ls.length + 1) c11]) rfl rfl rfl rfl rfl go11 rfl rfl (show 4 ≤ 4 from Nat.le_refl _) rfl rfl (.inl (by simp)) ?_
          (refine Go.run (g:=?_))
          refine Go.name ?_
          intro h12 e12
          have k12 : Keeps [h1.n + 1] h11 h12 := by subst e12; exact (Keeps.rfl _ _).put (by simp) _
          have go12 : h12.get (h1.n + 1) = some (.cells (pkC f p g b11 (ls.length + 1) c11) 28) := by subst e12; exact AHeap.get_put_same _ (by first | omega | (simp only [AHeap.n_push, AHeap.n_put]; omega)) _
          have n12 := k12.1
          clear e12
          refine Go.roundEnd rfl (k12.get l11 (by simp; omega)) ?_
          refine ⟨(ls ++ [(c', d')], b11, c11), fun b hb => ?_, fun _ => ⟨⟨AHeap.get_put_same _ (by first | omega | (simp only [AHeap.n_push, AHeap.n_put]; omega)) _, get_put_other (by omega) (k12.get md11 (by simp; omega)), get_put_other (by omega) (by simpa only [List.length_append, List.length_cons, List.length_nil] using go12), get_put_other (by omega) (k12.get c211 (by simp; omega)), get_put_other (by omega) (k12.get c311 (by simp; omega)), ?_, by simp only [AHeap.n_put]; omega⟩, ?_, ?_⟩, fun e => by cases e⟩
          · rcases List.mem_append.1 hb with x | x
            · exact .inl (List.mem_append_left _ x)
            · rcases o11 b x with y | y
              · exact .inl (List.mem_append_right _ y)
              · exact .inr (by omega)
          · exact (r11.keeps k12 (fun i hi => .inl (by simp at hi; omega))).keeps ((Keeps.rfl [h3.n + 1] h12).put (by simp) _) (fun i hi => .inl (by simp at hi; omega))
          · rw [hgo]
            simp [pcs, hq]
          · simp only [List.length_append, List.length_cons, List.length_nil]; omega
    · rintro ⟨ls, oa, oc⟩ H hbad ⟨I, x1, x2⟩
      simp only at I x1 x2 ⊢
      have hw : wl = false := by simpa using hbad
      have hgo : goP its wl [] = .error 40 := by rw [x1, List.drop_length, hw]; rfl
      have In0 := I.n0
      refine YieldS.of' I.loop hN hr eps easg ebo rfl (by rfl) rfl (List.mem_cons_self ..) ?_
      (refine Go.run (g:=?_))
      refine Go.name ?_
      intro h5 e5
      have s5 : Same H h5 := by subst e5; exact ((Same.refl H).push _).put (Nat.le_refl _) _
      have n5 : h5.n = H.n + 1 := by subst e5; rfl
      clear e5
      refine Go.body (s5.get I.loop) ?_
      refine Go.name ?_
      intro h6 e6
      have k6 : Keeps [h3.n + 1] h5 h6 := by subst e6; exact (Keeps.rfl _ _).put (by simp) _
      have n6 : h6.n = h5.n := by subst e6; rfl
      have l6 : h6.get (h3.n + 1) = some (.loop .busy none tm ps asg bo h3.n) := by subst e6; exact get_put_self (s5.get I.loop)
      clear e6
      have c26 := k6.get (s5.get I.c2) (by simp; omega)
      have c36 := k6.get (s5.get I.c3) (by simp; omega)
      have md6 := k6.get (s5.get I.mark) (by simp)
      (refine Go.run (g:=?_))
      refine Go.name ?_
      intro h9 e9
      have k9' : Keeps [h.n, h.n + 1] h6 h9 := by subst e9; exact ((Keeps.rfl _ _).put (by simp) _).put (by simp) _
      have r29 : h9.get h.n = some (.cells zPk 28) := by subst e9; exact get_put_other (by first | omega | (simp only [AHeap.n_push, AHeap.n_put]; omega)) (AHeap.get_put_same _ (by first | omega | (simp only [AHeap.n_push, AHeap.n_put]; omega)) _)
      have r39 : h9.get (h.n + 1) = some (.cells [.int .i64 (40 : Nat)] 32) := by subst e9; exact AHeap.get_put_same _ (by first | omega | (simp only [AHeap.n_push, AHeap.n_put]; omega)) _
      have n9 := k9'.1
      clear e9
      refine Go.roundEnd rfl (k9'.get l6 (by simp; omega)) ?_
      exact ⟨(ls, oa, oc), .inl ⟨40, hgo, ⟨_, _, _, _, _, AHeap.get_put_same _ (by first | omega | (simp only [AHeap.n_push, AHeap.n_put]; omega)) _⟩, get_put_other (by omega) (k9'.get md6 (by simp; omega)), get_put_other (by omega) r29, get_put_other (by omega) r39⟩⟩
  intro v H3 hres kp
  refine ⟨fun i hi => .inr (by simp only [List.mem_cons, List.not_mem_nil, or_false] at hi; omega), .inr (by omega), ?_⟩
  rw [← hits, ← hwl] at hres
  rcases hres with ⟨⟨ls, oa, oc⟩, hwell, I, x1, x2⟩ | ⟨⟨ls, oa, oc⟩, i, ⟨e, hgo, ⟨tm', ps', as', bo', df', hl⟩, hd, hr2, hr3⟩ | ⟨hgo, ⟨tm', ps', as', bo', df', hl⟩, hd, hout, hr2, hr3, row, hn3, hlen3⟩⟩
  · have hgo : goP its wl [] = .ok (pcs ls) := by rw [x1, List.drop_length, hwell]; rfl
    have hd := I.mark
    have hout := I.out
    have hr2 := I.c2
    have hr3 := I.c3
    have row := I.row
    have hn3 := I.n0
    simp only at hout row x2
    have hlen3 : ls.length ≤ its.length := x2
    refine ⟨_, _, _, _, _, _, _, .normal, I.loop, by rfl, rfl, ?_⟩
    rw [hgo]
    refine Go.name ?_
    intro h9 e9
    have k9 : Keeps [h3.n + 1] H3 h9 := by subst e9; exact (Keeps.rfl _ _).put (by simp) _
    have n9 : h9.n = H3.n := by subst e9; rfl
    clear e9
    have go9 := k9.get hout (by simp; omega)
    have g29 := k9.get hr2 (by simp; omega)
    have g39 := k9.get hr3 (by simp; omega)
    have gd9 := k9.get hd (by simp)
    have row9 := row.keeps k9 (fun i hi => .inl (by simp at hi; omega))
    (refine Go.run (g:=?_))
    refine GoR.call rfl rfl rfl rfl rfl rfl rfl (((pmay_spec f p g oa ls.length oc ls _ row9.ks (by omega)).argA).mono ?_)
    rintro _ h10 rfl s10
    have n10 := s10.1
    have go10 := s10.get go9
    have g210 := s10.get g29
    have g310 := s10.get g39
    have gd10 := s10.get gd9
    have row10 := row9.same s10
    rw [pmay_k]
    cases hP : pmayK g ((pcs ls).map (·.k))
    case false =>
      (refine Go.run (g:=?_))
      refine Go.fin_marks (.inr rfl) (by intro d hd; simp only [List.mem_singleton] at hd; omega) (takeAll_one (by (first | assumption | exact AHeap.get_push_same _ _ | ((repeat first | exact AHeap.get_push_same _ _ | assumption | refine get_push_lt ?_ | exact AHeap.get_put_same _ (by first | omega | (simp only [AHeap.n_push, AHeap.n_put]; omega)) _ | exact get_put_self (by assumption) | apply get_put_self | refine get_put_other (by first | omega | (simp only [AHeap.n_push, AHeap.n_put]; omega)) ?_ | refine Same.get (by assumption) ?_ | refine Keeps.get (by assumption) ?_ (fun hi => by have hx := Own.out (by assumption) hi; omega)) ; fail_if_success focus skip) | fail))) (.cellN (b := h.n) (off := 0) rfl inferInstance (by (first | assumption | exact AHeap.get_push_same _ _ | ((repeat first | exact AHeap.get_push_same _ _ | assumption | refine get_push_lt ?_ | exact AHeap.get_put_same _ (by first | omega | (simp only [AHeap.n_push, AHeap.n_put]; omega)) _ | exact get_put_self (by assumption) | apply get_put_self | refine get_put_other (by first | omega | (simp only [AHeap.n_push, AHeap.n_put]; omega)) ?_ | refine Same.get (by assumption) ?_ | refine Keeps.get (by assumption) ?_ (fun hi => by have hx := Own.out (by assumption) hi; omega)) ; fail_if_success focus skip) | fail)) (by first | exact Nat.le_refl _ | (simp [setL, cellsL]; fail_if_success focus skip) | (simp; omega)) rfl (.cell rfl inferInstance (by (first | assumption | exact AHeap.get_push_same _ _ | ((repeat first | exact AHeap.get_push_same _ _ | assumption | refine get_push_lt ?_ | exact AHeap.get_put_same _ (by first | omega | (simp only [AHeap.n_push, AHeap.n_put]; omega)) _ | exact get_put_self (by assumption) | apply get_put_self | refine get_put_other (by first | omega | (simp only [AHeap.n_push, AHeap.n_put]; omega)) ?_ | refine Same.get (by assumption) ?_ | refine Keeps.get (by assumption) ?_ (fun hi => by have hx := Own.out (by assumption) hi; omega)) ; fail_if_success focus skip) | fail)) rfl .nil)) ?_
      simp only [hP, Bool.false_eq_true, if_false]
      rfl
    case true =>
      (refine Go.run (g:=?_))
      refine Go.fin_marks (.inr rfl) (by intro d hd; simp only [List.mem_singleton] at hd; omega) (takeAll_one (by (first | assumption | exact AHeap.get_push_same _ _ | ((repeat first | exact AHeap.get_push_same _ _ | assumption | refine get_push_lt ?_ | exact AHeap.get_put_same _ (by first | omega | (simp only [AHeap.n_push, AHeap.n_put]; omega)) _ | exact get_put_self (by assumption) | apply get_put_self | refine get_put_other (by first | omega | (simp only [AHeap.n_push, AHeap.n_put]; omega)) ?_ | refine Same.get (by assumption) ?_ | refine Keeps.get (by assumption) ?_ (fun hi => by have hx := Own.out (by assumption) hi; omega)) ; fail_if_success focus skip) | fail))) (.cellN (b := h.n) (off := 0) rfl inferInstance (by (first | assumption | exact AHeap.get_push_same _ _ | ((repeat first | exact AHeap.get_push_same _ _ | assumption | refine get_push_lt ?_ | exact AHeap.get_put_same _ (by first | omega | (simp only [AHeap.n_push, AHeap.n_put]; omega)) _ | exact get_put_self (by assumption) | apply get_put_self | refine get_put_other (by first | omega | (simp only [AHeap.n_push, AHeap.n_put]; omega)) ?_ | refine Same.get (by assumption) ?_ | refine Keeps.get (by assumption) ?_ (fun hi => by have hx := Own.out (by assumption) hi; omega)) ; fail_if_success focus skip) | fail)) (by first | exact Nat.le_refl _ | (simp [setL, cellsL]; fail_if_success focus skip) | (simp; omega)) rfl (.cell rfl inferInstance (by (first | assumption | exact AHeap.get_push_same _ _ | ((repeat first | exact AHeap.get_push_same _ _ | assumption | refine get_push_lt ?_ | exact AHeap.get_put_same _ (by first | omega | (simp only [AHeap.n_push, AHeap.n_put]; omega)) _ | exact get_put_self (by assumption) | apply get_put_self | refine get_put_other (by first | omega | (simp only [AHeap.n_push, AHeap.n_put]; omega)) ?_ | refine Same.get (by assumption) ?_ | refine Keeps.get (by assumption) ?_ (fun hi => by have hx := Own.out (by assumption) hi; omega)) ; fail_if_success focus skip) | fail)) rfl .nil)) ?_
      simp only [hP, if_true]
      refine ⟨oa, ls.length, oc, ls, rfl, ?_, rfl⟩
      exact (row10.keeps ((((Keeps.rfl [h.n, h.n + 1, h3.n] h10).put (b := h.n) (by simp) _).put (b := h.n + 1) (by simp) _).put (b := h3.n) (by simp) _) (fun i hi => .inl (by simp at hi; omega))).ks
  · refine ⟨_, _, _, _, _, _, _, .ret, hl, by rfl, rfl, ?_⟩
    rw [hgo]
    have lt := AHeap.lt hl
    refine Go.name ?_
    intro h9 e9
    have k9 : Keeps [h3.n + 1] H3 h9 := by subst e9; exact (Keeps.rfl _ _).put (by simp) _
    have n9 : h9.n = H3.n := by subst e9; rfl
    clear e9
    have g29 := k9.get hr2 (by simp; omega)
    have g39 := k9.get hr3 (by simp; omega)
    have gd9 := k9.get hd (by simp)
    (refine Go.run (g:=?_))
    refine Go.fin_marks (.inr rfl) (by intro d hd; simp only [List.mem_singleton] at hd; omega) (takeAll_one (by (first | assumption | exact AHeap.get_push_same _ _ | ((repeat first | exact AHeap.get_push_same _ _ | assumption | refine get_push_lt ?_ | exact AHeap.get_put_same _ (by first | omega | (simp only [AHeap.n_push, AHeap.n_put]; omega)) _ | exact get_put_self (by assumption) | apply get_put_self | refine get_put_other (by first | omega | (simp only [AHeap.n_push, AHeap.n_put]; omega)) ?_ | refine Same.get (by assumption) ?_ | refine Keeps.get (by assumption) ?_ (fun hi => by have hx := Own.out (by assumption) hi; omega)) ; fail_if_success focus skip) | fail))) (.cellN (b := h.n) (off := 0) rfl inferInstance (by (first | assumption | exact AHeap.get_push_same _ _ | ((repeat first | exact AHeap.get_push_same _ _ | assumption | refine get_push_lt ?_ | exact AHeap.get_put_same _ (by first | omega | (simp only [AHeap.n_push, AHeap.n_put]; omega)) _ | exact get_put_self (by assumption) | apply get_put_self | refine get_put_other (by first | omega | (simp only [AHeap.n_push, AHeap.n_put]; omega)) ?_ | refine Same.get (by assumption) ?_ | refine Keeps.get (by assumption) ?_ (fun hi => by have hx := Own.out (by assumption) hi; omega)) ; fail_if_success focus skip) | fail)) (by first | exact Nat.le_refl _ | (simp [setL, cellsL]; fail_if_success focus skip) | (simp; omega)) rfl (.cell rfl inferInstance (by (first | assumption | exact AHeap.get_push_same _ _ | ((repeat first | exact AHeap.get_push_same _ _ | assumption | refine get_push_lt ?_ | exact AHeap.get_put_same _ (by first | omega | (simp only [AHeap.n_push, AHeap.n_put]; omega)) _ | exact get_put_self (by assumption) | apply get_put_self | refine get_put_other (by first | omega | (simp only [AHeap.n_push, AHeap.n_put]; omega)) ?_ | refine Same.get (by assumption) ?_ | refine Keeps.get (by assumption) ?_ (fun hi => by have hx := Own.out (by assumption) hi; omega)) ; fail_if_success focus skip) | fail)) rfl .nil)) ?_
    rfl
  · simp only at hgo hout row hlen3
    refine ⟨_, _, _, _, _, _, _, .exit 0, hl, by rfl, rfl, ?_⟩
    rw [hgo]
    refine Go.name ?_
    intro h9 e9
    have k9 : Keeps [h3.n + 1] H3 h9 := by subst e9; exact (Keeps.rfl _ _).put (by simp) _
    have n9 : h9.n = H3.n := by subst e9; rfl
    clear e9
    have go9 := k9.get hout (by simp; omega)
    have g29 := k9.get hr2 (by simp; omega)
    have g39 := k9.get hr3 (by simp; omega)
    have gd9 := k9.get hd (by simp)
    have row9 := row.keeps k9 (fun i hi => .inl (by simp at hi; omega))
    (refine Go.run (g:=?_))
    refine GoR.call rfl rfl rfl rfl rfl rfl rfl (((pmay_spec f p g oa ls.length oc ls _ row9.ks (by omega)).argA).mono ?_)
    rintro _ h10 rfl s10
    have n10 := s10.1
    have go10 := s10.get go9
    have g210 := s10.get g29
    have g310 := s10.get g39
    have gd10 := s10.get gd9
    have row10 := row9.same s10
    rw [pmay_k]
    cases hP : pmayK g ((pcs ls).map (·.k))
    case false =>
      (refine Go.run (g:=?_))
      refine Go.fin_marks (.inr rfl) (by intro d hd; simp only [List.mem_singleton] at hd; omega) (takeAll_one (by (first | assumption | exact AHeap.get_push_same _ _ | ((repeat first | exact AHeap.get_push_same _ _ | assumption | refine get_push_lt ?_ | exact AHeap.get_put_same _ (by first | omega | (simp only [AHeap.n_push, AHeap.n_put]; omega)) _ | exact get_put_self (by assumption) | apply get_put_self | refine get_put_other (by first | omega | (simp only [AHeap.n_push, AHeap.n_put]; omega)) ?_ | refine Same.get (by assumption) ?_ | refine Keeps.get (by assumption) ?_ (fun hi => by have hx := Own.out (by assumption) hi; omega)) ; fail_if_success focus skip) | fail))) (.cellN (b := h.n) (off := 0) rfl inferInstance (by (first | assumption | exact AHeap.get_push_same _ _ | ((repeat first | exact AHeap.get_push_same _ _ | assumption | refine get_push_lt ?_ | exact AHeap.get_put_same _ (by first | omega | (simp only [AHeap.n_push, AHeap.n_put]; omega)) _ | exact get_put_self (by assumption) | apply get_put_self | refine get_put_other (by first | omega | (simp only [AHeap.n_push, AHeap.n_put]; omega)) ?_ | refine Same.get (by assumption) ?_ | refine Keeps.get (by assumption) ?_ (fun hi => by have hx := Own.out (by assumption) hi; omega)) ; fail_if_success focus skip) | fail)) (by first | exact Nat.le_refl _ | (simp [setL, cellsL]; fail_if_success focus skip) | (simp; omega)) rfl (.cell rfl inferInstance (by (first | assumption | exact AHeap.get_push_same _ _ | ((repeat first | exact AHeap.get_push_same _ _ | assumption | refine get_push_lt ?_ | exact AHeap.get_put_same _ (by first | omega | (simp only [AHeap.n_push, AHeap.n_put]; omega)) _ | exact get_put_self (by assumption) | apply get_put_self | refine get_put_other (by first | omega | (simp only [AHeap.n_push, AHeap.n_put]; omega)) ?_ | refine Same.get (by assumption) ?_ | refine Keeps.get (by assumption) ?_ (fun hi => by have hx := Own.out (by assumption) hi; omega)) ; fail_if_success focus skip) | fail)) rfl .nil)) ?_
      simp only [hP, Bool.false_eq_true, if_false]
      rfl
    case true =>
      (refine Go.run (g:=?_))
      refine Go.fin_marks (.inr rfl) (by intro d hd; simp only [List.mem_singleton] at hd; omega) (takeAll_one (by (first | assumption | exact AHeap.get_push_same _ _ | ((repeat first | exact AHeap.get_push_same _ _ | assumption | refine get_push_lt ?_ | exact AHeap.get_put_same _ (by first | omega | (simp only [AHeap.n_push, AHeap.n_put]; omega)) _ | exact get_put_self (by assumption) | apply get_put_self | refine get_put_other (by first | omega | (simp only [AHeap.n_push, AHeap.n_put]; omega)) ?_ | refine Same.get (by assumption) ?_ | refine Keeps.get (by assumption) ?_ (fun hi => by have hx := Own.out (by assumption) hi; omega)) ; fail_if_success focus skip) | fail))) (.cellN (b := h.n) (off := 0) rfl inferInstance (by (first | assumption | exact AHeap.get_push_same _ _ | ((repeat first | exact AHeap.get_push_same _ _ | assumption | refine get_push_lt ?_ | exact AHeap.get_put_same _ (by first | omega | (simp only [AHeap.n_push, AHeap.n_put]; omega)) _ | exact get_put_self (by assumption) | apply get_put_self | refine get_put_other (by first | omega | (simp only [AHeap.n_push, AHeap.n_put]; omega)) ?_ | refine Same.get (by assumption) ?_ | refine Keeps.get (by assumption) ?_ (fun hi => by have hx := Own.out (by assumption) hi; omega)) ; fail_if_success focus skip) | fail)) (by first | exact Nat.le_refl _ | (simp [setL, cellsL]; fail_if_success focus skip) | (simp; omega)) rfl (.cell rfl inferInstance (by (first | assumption | exact AHeap.get_push_same _ _ | ((repeat first | exact AHeap.get_push_same _ _ | assumption | refine get_push_lt ?_ | exact AHeap.get_put_same _ (by first | omega | (simp only [AHeap.n_push, AHeap.n_put]; omega)) _ | exact get_put_self (by assumption) | apply get_put_self | refine get_put_other (by first | omega | (simp only [AHeap.n_push, AHeap.n_put]; omega)) ?_ | refine Same.get (by assumption) ?_ | refine Keeps.get (by assumption) ?_ (fun hi => by have hx := Own.out (by assumption) hi; omega)) ; fail_if_success focus skip) | fail)) rfl .nil)) ?_
      simp only [hP, if_true]
      refine ⟨oa, ls.length, oc, ls, rfl, ?_, rfl⟩
      exact (row10.keeps ((((Keeps.rfl [h.n, h.n + 1, h3.n] h10).put (b := h.n) (by simp) _).put (b := h.n + 1) (by simp) _).put (b := h3.n) (by simp) _) (fun i hi => .inl (by simp at hi; omega))).ks
end Go.Proofs.Ytjpegoigipbmiaa
namespace Go.Proofs.Ytjpegoigipbmiaa
set_option maxRecDepth 100000
attribute [local irreducible] Go GoR GoL
set_option maxHeartbeats 4000000 in
theorem with_spec (f t g s : Nat) (hf : f < 65536) (ht : t < 65536) (hg : g < 4294967296) (hs : s < 4294967296) (a : Option Addr) (n cap : Nat) (zs : List UInt8) (hlen : zs.length = n) (hn : n ≤ 1000000) (h : AHeap) (hz : Rv Try.prog h 1 a n cap (zs.map bv)) : CallS Try.prog [] 49 [hdV f t g, .int .u32 s, .slice a n cap] h fun v h' => OwnS h h' v (hbytes f t g s zs) := by
  have hone : ∀ l : List UInt8, (l.map bv).all Value.oneCell' = true := fun l => by simp [bv, Value.oneCell']
  (refine CallS.of3 Try.func49 rfl Try.ntmps49 Try.results49 rfl ?_)
  (refine Go.run (g:=?_))
  refine Go.loud (by kernel_rfl) rfl ?_
  (refine Go.runL (g:=?_))
  refine GoL.callS rfl rfl rfl rfl rfl rfl rfl (((bytes_spec f 2 (by omega) (by omega) _).argA).mono ?_)
  rintro _ h1 ⟨b1, c1, rfl, hb1, ob1⟩ s1
  simp only [beB_length] at hb1 ⊢
  (refine Go.runL (g:=?_))
  refine GoL.callS rfl rfl rfl rfl rfl rfl rfl (((bytes_spec t 2 (by omega) (by omega) _).argA).mono ?_)
  rintro _ h2 ⟨b2, c2, rfl, hb2, ob2⟩ s2
  simp only [beB_length] at hb2 ⊢
  (refine Go.runL (g:=?_))
  refine GoL.appendV rfl rfl rfl rfl rfl rfl (hb1.same s2) (Sv.rv hb2) (Own.ok ob1 (by simp only [AHeap.n_push]; omega)) (by omega) (by omega) (hone _) ?_
  intro b3 c3 h3 rd wr hwr hrd hb3 k3 o3
  have hn1 := s1.1
  have hn2 := s2.1
  have hn3 := k3.1
  simp only [AHeap.n_push] at hn1 ob1
  have G3 : h3.get h.n = some (.cells [.int .u16 f, .int .u16 t, .int .u32 g] 25) := Keeps.get k3 (Same.get s2 (Same.get s1 (AHeap.get_push_same _ _))) (fun hi => by have := ob1 _ hi; omega)
  have ob3 : Own (h.n + 1) b3 := ob1.app (by omega) o3
  have S3 : True → Same h h3 := fun _ => ((((Same.refl h).push _).trans s1).trans s2).ownO k3 ob1 (by omega)
  (refine Go.runL (g:=?_))
  clear hb1 hb2 s1 s2 hrd o3
  (refine GoL.end_ (g:=?_))
  clear k3 hwr ob1 ob2
  (refine Go.run (g:=?_))
  refine GoR.call rfl rfl rfl rfl rfl rfl rfl (((bytes_spec g 4 (by omega) (by omega) _).argA).mono ?_)
  rintro _ h4 ⟨b4, c4, rfl, hb4, ob4⟩ s4
  simp only [beB_length] at hb4 ⊢
  have hn4 := s4.1
  refine GoR.appendV rfl rfl rfl rfl rfl rfl (hb3.same s4) (Sv.rv hb4) (Own.ok ob3 (by omega)) (by omega) (by omega) (hone _) ?_
  intro b5 c5 h5 hb5 k5 o5
  have hn5 := k5.1
  have S5 : True → Same h h5 := fun _ => ((S3 trivial).trans s4).ownO k5 ob3 (by omega)
  have ob5 : Own (h.n + 1) b5 := ob3.app (by omega) o5
  clear hb3 s4 S3 k5 o5 G3
  (refine Go.run (g:=?_))
  refine GoR.call rfl rfl rfl rfl rfl rfl rfl (((bytes_spec s 4 (by omega) (by omega) _).argA).mono ?_)
  rintro _ h6 ⟨b6, c6, rfl, hb6, ob6⟩ s6
  simp only [beB_length] at hb6 ⊢
  have hn6 := s6.1
  refine GoR.appendV rfl rfl rfl rfl rfl rfl (hb5.same s6) (Sv.rv hb6) (Own.ok ob5 (by omega)) (by omega) (by omega) (hone _) ?_
  intro b7 c7 h7 hb7 k7 o7
  have hn7 := k7.1
  have S7 : True → Same h h7 := fun _ => ((S5 trivial).trans s6).ownO k7 ob5 (by omega)
  have ob7 : Own (h.n + 1) b7 := ob5.app (by omega) o7
  clear hb5 s6 S5 k7 o7
  (refine Go.run (g:=?_))
  refine GoR.appendV rfl rfl rfl rfl rfl rfl hb7 (hz.same (S7 trivial)) (Own.ok ob7 (by omega)) (by omega) (by omega) (hone _) ?_
  intro b8 c8 h8 hb8 k8 o8
  (refine Go.run (g:=?_))
  (first|refine Go.finT (by first|exact .inr rfl|exact .inl rfl) rfl ?_|refine Go.fin1 (by first|exact .inr rfl|exact .inl rfl) rfl (hq:=?_))
  have hL := hbytes_length f t g s zs
  rw [hlen] at hL
  refine ⟨b8, c8, by rw [hL]; rfl, ?_, (ob7.app (by omega) o8).mono (by omega)⟩
  rw [hL]
  have e : (hbytes f t g s zs).map bv = List.map bv (beB 2 f) ++ List.map bv (beB 2 t) ++ List.map bv (beB 4 g) ++ List.map bv (beB 4 s) ++ List.map bv zs := by simp [hbytes]
  rw [e]
  exact hb8
set_option maxHeartbeats 4000000 in
theorem refPut_ok (f t g : Nat) (hf : f < 65536) (ht : t < 65536) (hg : g < 4294967296) (a : Option Addr) (n cap : Nat) (zs : List UInt8) (hlen : zs.length = n) (hb : n % 4 = 0) (hn : n ≤ 1488) (h : AHeap) (hz : Rv Try.prog h 1 a n cap (zs.map bv)) : CallS Try.prog [] 25 [hdV f t g, .slice a n cap] h fun v h' => OwnE h h' v (hput f t g zs) := by
  have hL := fun s => hbytes_length f t g s zs
  simp only [hlen] at hL
  have hsl : Crc.sum (hbytes f t g 0 zs) < 4294967296 := Crc.more_lt _ _
  (refine CallS.of2 Try.func25 rfl Try.ntmps25 Try.results25 rfl ?_)
  (refine Go.run (g:=?_))
  refine GoR.call rfl rfl rfl rfl rfl rfl rfl (((with_spec f t g 0 hf ht hg (by omega) a n cap zs hlen (by omega) _ (hz.push _)).argA).mono ?_)
  rintro _ h1 ⟨b1, c1, rfl, hb1, ob1⟩ s1
  rw [hL] at hb1 ⊢
  (refine Go.run (g:=?_))
  refine GoR.call rfl rfl rfl rfl rfl rfl rfl (((refSum_n b1 c1 (hbytes f t g 0 zs) (12 + n) (hL 0) (by omega) _ (Sv.rv hb1)).argA).mono ?_)
  rintro _ h2 rfl s2
  have hz2 := ((hz.push (.cells [.int .u16 f, .int .u16 t, .int .u32 g] 25)).same s1).same s2
  (refine Go.run (g:=?_))
  refine GoR.call rfl rfl rfl rfl rfl rfl rfl (((with_spec f t g (Crc.sum (hbytes f t g 0 zs)) hf ht hg hsl a n cap zs hlen (by omega) _ hz2).argA).mono ?_)
  rintro _ h3 ⟨b3, c3, rfl, hb3, ob3⟩ s3
  have hn1 := s1.1
  have hn2 := s2.1
  simp only [AHeap.n_push] at hn1
  (refine Go.run (g:=?_))
  (first|refine Go.finT (by first|exact .inr rfl|exact .inl rfl) rfl ?_|refine Go.fin1 (by first|exact .inr rfl|exact .inl rfl) rfl (hq:=?_))
  exact ⟨b3, c3, rfl, hb3, ob3.mono (by omega)⟩
end Go.Proofs.Ytjpegoigipbmiaa
namespace Go.Proofs.Ytjpegoigipbmiaa
set_option maxRecDepth 100000
attribute [local irreducible] Go GoR GoL
end Go.Proofs.Ytjpegoigipbmiaa
namespace Go.Proofs.Ytjpegoigipbmiaa
set_option maxRecDepth 100000
attribute [local irreducible] Go GoR GoL
structure VS (h0 h : AHeap) (zs : List UInt8) (b : Option Addr) (cap : Nat) : Prop where
  same : Same h0 h
  sv : Sv h 5 1 b zs.length cap (zs.map bv)
  own : Own h0.n b
theorem VS.append {h0 h1 h8 h9 : AHeap} {zs new : List UInt8} {len : Nat} {b1 b9 : Option Addr} {c1 c9 : Nat} (w : VS h0 h1 zs b1 c1) (s8 : Same h1 h8) (hs9 : Sv h9 5 1 b9 len c9 (zs.map bv ++ new.map bv)) (k9 : Keeps (blk b1) h8 h9) (o9 : ∀ i ∈ blk b9, i ∈ blk b1 ∨ h8.n ≤ i) (hlen : len = zs.length + new.length) : VS h0 h9 (zs ++ new) b9 c9 := by
  subst hlen
  have m8 := s8.1
  have m9 := k9.1
  have m0 := w.same.1
  refine ⟨(w.same.trans s8).ownO k9 w.own (Nat.le_refl _), ?_, w.own.app (by omega) o9⟩
  rw [List.length_append, List.map_append]
  exact hs9
theorem VS.to {h0 h h1 : AHeap} {zs : List UInt8} {b : Option Addr} {cap : Nat} (w : VS h0 h zs b cap) (s1 : Same h h1) : VS h0 h1 zs b cap := ⟨w.same.trans s1, w.sv.same s1, w.own⟩
theorem VS.wr {h0 h : AHeap} {zs : List UInt8} {n : Nat} {b : Option Addr} {cap : Nat} (w : VS h0 h zs b cap) (hle : n ≤ h0.n) : ∀ i ∈ blk b, i ∈ ([] : List Nat) ∨ n ≤ i := fun i hi => .inr (Nat.le_trans hle (w.own i hi))
theorem VS.of {h0 h h1 : AHeap} {v : Value} {zs : List UInt8} (s : Same h0 h) (o : OwnS h h1 v zs) (s1 : Same h h1) : ∃ b cap, v = .slice b zs.length cap ∧ VS h0 h1 zs b cap := by
  obtain ⟨b, cap, rfl, hb, ob⟩ := o
  exact ⟨b, cap, rfl, s.trans s1, hb, ob.mono s.1⟩
end Go.Proofs.Ytjpegoigipbmiaa
namespace Go.Proofs.Ytjpegoigipbmiaa
set_option maxRecDepth 100000
attribute [local irreducible] Go GoR GoL
end Go.Proofs.Ytjpegoigipbmiaa
namespace Go.Proofs.Ytjpegoigipbmiaa
set_option maxRecDepth 100000
attribute [local irreducible] Go GoR GoL
end Go.Proofs.Ytjpegoigipbmiaa
namespace Go.Proofs.Ytjpegoigipbmiaa
set_option maxRecDepth 100000
attribute [local irreducible] Go GoR GoL
end Go.Proofs.Ytjpegoigipbmiaa
namespace Go.Proofs.Ytjpegoigipbmiaa
set_option maxRecDepth 100000
attribute [local irreducible] Go GoR GoL
def rOk (g n : Nat) (x : CP) : Bool := !(aloneB x.1.k && decide (1 < n)) && (startB x.1.k == decide (g = 0))
theorem rmay6_eq (g : Nat) (l : List CP) : pmay g l = (decide (0 < l.length) && l.all (rOk g l.length)) := by
  cases l with
  | nil => rfl
  | cons x l =>
    cases l with
    | nil => simp [pmay, rOk, anyS, anyA]
    | cons y l =>
      have h1 : 1 < (x :: y :: l).length := by simp
      have e : rOk g (x :: y :: l).length = fun x : CP => !aloneB x.1.k && (startB x.1.k == decide (g = 0)) := by funext z; simp [rOk]
      rw [e]
      unfold pmay
      rw [decide_eq_true (show 0 < (x :: y :: l).length by simp), decide_eq_false (show ¬ (x :: y :: l).length ≤ 1 by simp), Bool.true_and, Bool.false_or, Bool.true_and]
      have key : ∀ l : List CP, anyA l = false → anyS l = false := fun l h => by
        unfold anyA at h
        unfold anyS
        rw [List.any_eq_false] at h ⊢
        intro z hz hs
        refine h z hz ?_
        simp only [startB, decide_eq_true_eq] at hs
        simp [aloneB, hs]
      cases ha : anyA (x :: y :: l) with
      | true =>
        symm
        obtain ⟨z, hz, hz2⟩ := List.any_eq_true.1 ha
        rw [Bool.not_true, Bool.false_and, List.all_eq_false]
        exact ⟨z, hz, by simp [hz2]⟩
      | false =>
        rw [key _ ha, Bool.not_false, Bool.true_and]
        unfold anyA at ha
        rw [List.any_eq_false] at ha
        by_cases g0 : g = 0
        · simp only [g0, decide_true]
          symm
          rw [show (false == true) = false from rfl, List.all_eq_false]
          have := ha x (by simp)
          refine ⟨x, by simp, ?_⟩
          have hk : ¬ x.1.k = 1 := fun e => this (by simp [aloneB, e])
          simp [startB, hk]
        · simp only [g0, decide_false]
          symm
          rw [show (false == false) = true from rfl, List.all_eq_true]
          intro z hz
          have := ha z hz
          have hk : ¬ z.1.k = 1 := fun e => this (by simp [aloneB, e])
          simp only [Bool.not_eq_true] at this
          simp [startB, hk, this]
theorem rfail {g : Nat} {l : List CP} {x : CP} (hx : x ∈ l) (h : rOk g l.length x = false) : pmay g l = false := by
  rw [rmay6_eq, List.all_eq_false.2 ⟨x, hx, by simp [h]⟩, Bool.and_false]
theorem all_snoc {α : Type} (p : α → Bool) {l : List α} {i : Nat} (hi : i < l.length) : (l.take (i + 1)).all p = ((l.take i).all p && p l[i]) := by
  rw [List.take_succ_eq_append_getElem hi, List.all_append]; simp
set_option maxHeartbeats 8000000 in
theorem rmay6_spec (f t g : Nat) (a : Option Addr) (n cap : Nat) (l : List CP) (h : AHeap) (k : KS h a n cap l) (hn : n ≤ 140737488355328) : CallS Try.prog [] 13 [pkV f t g a n cap] h fun v h' => v = .bool (pmay g l) := by
  (refine CallS.of1 Try.func13 rfl Try.ntmps13 Try.results13 rfl ?_)
  (iterate 4 (first|(refine Go.kk 0 rfl ?_;refine Go.seq ?_)|(refine Go.kk 1 rfl ?_;refine Go.region (by kernel_rfl) rfl ?_)|(refine GoR.kk 0 rfl ?_;first|refine GoR.move rfl rfl rfl rfl rfl ?_|refine GoR.assign rfl rfl rfl rfl rfl ?_)|(refine GoR.kk 8 rfl ?_;first|refine GoR.boxA rfl rfl rfl rfl rfl ?_|refine GoR.boxS rfl rfl rfl rfl rfl rfl ?_|refine GoR.alloc rfl rfl rfl rfl ?_)|refine GoR.end ?_))
  refine GoR.name ?_
  intro h3 e3
  have G0 : h3.get h.n = some (.cells [.int .u16 f, .int .u16 t, .int .u32 g, .slice a n cap] 28) := by subst e3; exact AHeap.get_push_same h _
  have n3 : h3.n = h.n + 1 := by subst e3; rfl
  have S3 : Same h h3 := by subst e3; exact (Same.refl h).push _
  clear e3
  have k3 := k.same S3
  have hA3 := k3.rv
  (refine Go.run (g:=?_))
  refine Go.loop (α := Nat) (fun i => [(3, .int .i64 i), (1, .pointer (some ⟨h.n, 0, none⟩))]) (fun _ => []) (fun _ => h3) (fun i => i ≤ n ∧ (l.take i).all (rOk g n) = true) (fun i => n - i) 0 ⟨Nat.zero_le _, rfl⟩ ⟨rfl, rfl, trivial⟩ rfl rfl ?_
  rintro i ⟨hi, hp⟩
  rcases Nat.lt_or_ge i n with i0 | i0
  · have i1 : i < l.length := by rw [k.len]; exact i0
    have c0 := kcs_0 i1
    have hbe : i * 15 < (kcs l).length := by rw [kcs_len]; omega
    have hs := all_snoc (rOk g n) i1
    rw [hp, Bool.true_and] at hs
    have hmem : l[i] ∈ l := List.getElem_mem i1
    generalize l[i] = x at *
    by_cases c1 : x.1.k = 1
    · have c1' : (x.1.k : Int) = 1 := by omega
      rcases Nat.lt_or_ge 1 n with q1 | q1
      · have hr : rOk g n x = false := by simp [rOk, aloneB, c1, q1]
        (refine Go.run (g:=?_))
        (first|refine Go.finT (by first|exact .inr rfl|exact .inl rfl) rfl ?_|refine Go.fin1 (by first|exact .inr rfl|exact .inl rfl) rfl (hq:=?_))
        rw [rfail hmem (by rw [k.len]; exact hr)]
        rfl
      · have q1' : ¬ 1 < n := by omega
        by_cases g0 : g = 0
        case pos =>
          have g0' : (g : Int) = 0 := by omega
          have hr : rOk g n x = true := by simp [rOk, aloneB, startB, g0, c1, q1']
          (refine Go.run (g:=?_))
          refine GoR.boolNe rfl rfl rfl rfl rfl rfl boolU6 ?_
          rw [show (!(decide ((x.1.k : Int) = 1) == decide ((g : Int) = 0))) = false from by rw [decide_eq_true c1', decide_eq_true g0']; rfl]
          (refine Go.run (g:=?_))
          exact Go.again (i + 1) ⟨by first | omega | (simp only; omega), by rw [hs, hr]⟩ (by first | omega | (simp only; omega)) ⟨rfl, rfl, trivial⟩ rfl rfl
        case neg =>
          have g0' : ¬ (g : Int) = 0 := by omega
          have hr : rOk g n x = false := by simp [rOk, aloneB, startB, g0, c1, q1']
          (refine Go.run (g:=?_))
          refine GoR.boolNe rfl rfl rfl rfl rfl rfl boolU6 ?_
          rw [show (!(decide ((x.1.k : Int) = 1) == decide ((g : Int) = 0))) = true from by rw [decide_eq_true c1', decide_eq_false g0']; rfl]
          (refine Go.run (g:=?_))
          (first|refine Go.finT (by first|exact .inr rfl|exact .inl rfl) rfl ?_|refine Go.fin1 (by first|exact .inr rfl|exact .inl rfl) rfl (hq:=?_))
          rw [rfail hmem (by rw [k.len]; exact hr)]
          rfl
    have c1' : ¬ (x.1.k : Int) = 1 := by omega
    by_cases c2 : x.1.k = 2
    · have c2' : (x.1.k : Int) = 2 := by omega
      rcases Nat.lt_or_ge 1 n with q1 | q1
      · have hr : rOk g n x = false := by simp [rOk, aloneB, c2, q1]
        (refine Go.run (g:=?_))
        (first|refine Go.finT (by first|exact .inr rfl|exact .inl rfl) rfl ?_|refine Go.fin1 (by first|exact .inr rfl|exact .inl rfl) rfl (hq:=?_))
        rw [rfail hmem (by rw [k.len]; exact hr)]
        rfl
      · have q1' : ¬ 1 < n := by omega
        by_cases g0 : g = 0
        case pos =>
          have g0' : (g : Int) = 0 := by omega
          have hr : rOk g n x = false := by simp [rOk, aloneB, startB, g0, c2, q1']
          (refine Go.run (g:=?_))
          refine GoR.boolNe rfl rfl rfl rfl rfl rfl boolU6 ?_
          rw [show (!(decide ((x.1.k : Int) = 1) == decide ((g : Int) = 0))) = true from by rw [decide_eq_false c1', decide_eq_true g0']; rfl]
          (refine Go.run (g:=?_))
          (first|refine Go.finT (by first|exact .inr rfl|exact .inl rfl) rfl ?_|refine Go.fin1 (by first|exact .inr rfl|exact .inl rfl) rfl (hq:=?_))
          rw [rfail hmem (by rw [k.len]; exact hr)]
          rfl
        case neg =>
          have g0' : ¬ (g : Int) = 0 := by omega
          have hr : rOk g n x = true := by simp [rOk, aloneB, startB, g0, c2, q1']
          (refine Go.run (g:=?_))
          refine GoR.boolNe rfl rfl rfl rfl rfl rfl boolU6 ?_
          rw [show (!(decide ((x.1.k : Int) = 1) == decide ((g : Int) = 0))) = false from by rw [decide_eq_false c1', decide_eq_false g0']; rfl]
          (refine Go.run (g:=?_))
          exact Go.again (i + 1) ⟨by first | omega | (simp only; omega), by rw [hs, hr]⟩ (by first | omega | (simp only; omega)) ⟨rfl, rfl, trivial⟩ rfl rfl
    have c2' : ¬ (x.1.k : Int) = 2 := by omega
    by_cases c3 : x.1.k = 14
    · have c3' : (x.1.k : Int) = 14 := by omega
      rcases Nat.lt_or_ge 1 n with q1 | q1
      · have hr : rOk g n x = false := by simp [rOk, aloneB, c3, q1]
        (refine Go.run (g:=?_))
        (first|refine Go.finT (by first|exact .inr rfl|exact .inl rfl) rfl ?_|refine Go.fin1 (by first|exact .inr rfl|exact .inl rfl) rfl (hq:=?_))
        rw [rfail hmem (by rw [k.len]; exact hr)]
        rfl
      · have q1' : ¬ 1 < n := by omega
        by_cases g0 : g = 0
        case pos =>
          have g0' : (g : Int) = 0 := by omega
          have hr : rOk g n x = false := by simp [rOk, aloneB, startB, g0, c3, q1']
          (refine Go.run (g:=?_))
          refine GoR.boolNe rfl rfl rfl rfl rfl rfl boolU6 ?_
          rw [show (!(decide ((x.1.k : Int) = 1) == decide ((g : Int) = 0))) = true from by rw [decide_eq_false c1', decide_eq_true g0']; rfl]
          (refine Go.run (g:=?_))
          (first|refine Go.finT (by first|exact .inr rfl|exact .inl rfl) rfl ?_|refine Go.fin1 (by first|exact .inr rfl|exact .inl rfl) rfl (hq:=?_))
          rw [rfail hmem (by rw [k.len]; exact hr)]
          rfl
        case neg =>
          have g0' : ¬ (g : Int) = 0 := by omega
          have hr : rOk g n x = true := by simp [rOk, aloneB, startB, g0, c3, q1']
          (refine Go.run (g:=?_))
          refine GoR.boolNe rfl rfl rfl rfl rfl rfl boolU6 ?_
          rw [show (!(decide ((x.1.k : Int) = 1) == decide ((g : Int) = 0))) = false from by rw [decide_eq_false c1', decide_eq_false g0']; rfl]
          (refine Go.run (g:=?_))
          exact Go.again (i + 1) ⟨by first | omega | (simp only; omega), by rw [hs, hr]⟩ (by first | omega | (simp only; omega)) ⟨rfl, rfl, trivial⟩ rfl rfl
    have c3' : ¬ (x.1.k : Int) = 14 := by omega
    by_cases g0 : g = 0
    case pos =>
      have g0' : (g : Int) = 0 := by omega
      have hr : rOk g n x = false := by simp [rOk, aloneB, startB, g0, c1, c2, c3]
      (refine Go.run (g:=?_))
      refine GoR.boolNe rfl rfl rfl rfl rfl rfl boolU6 ?_
      rw [show (!(decide ((x.1.k : Int) = 1) == decide ((g : Int) = 0))) = true from by rw [decide_eq_false c1', decide_eq_true g0']; rfl]
      (refine Go.run (g:=?_))
      (first|refine Go.finT (by first|exact .inr rfl|exact .inl rfl) rfl ?_|refine Go.fin1 (by first|exact .inr rfl|exact .inl rfl) rfl (hq:=?_))
      rw [rfail hmem (by rw [k.len]; exact hr)]
      rfl
    case neg =>
      have g0' : ¬ (g : Int) = 0 := by omega
      have hr : rOk g n x = true := by simp [rOk, aloneB, startB, g0, c1, c2, c3]
      (refine Go.run (g:=?_))
      refine GoR.boolNe rfl rfl rfl rfl rfl rfl boolU6 ?_
      rw [show (!(decide ((x.1.k : Int) = 1) == decide ((g : Int) = 0))) = false from by rw [decide_eq_false c1', decide_eq_false g0']; rfl]
      (refine Go.run (g:=?_))
      exact Go.again (i + 1) ⟨by first | omega | (simp only; omega), by rw [hs, hr]⟩ (by first | omega | (simp only; omega)) ⟨rfl, rfl, trivial⟩ rfl rfl
  · have hie : i = n := by omega
    subst hie
    rw [← k.len, List.take_length] at hp
    have e := rmay6_eq g l
    rw [hp, Bool.and_true, k.len] at e
    rw [e]
    by_cases n0 : 0 < i
    · (refine Go.run (g:=?_))
      (first|refine Go.finT (by first|exact .inr rfl|exact .inl rfl) rfl ?_|refine Go.fin1 (by first|exact .inr rfl|exact .inl rfl) rfl (hq:=?_))
      simp [retV, n0]
    · (refine Go.run (g:=?_))
      (first|refine Go.finT (by first|exact .inr rfl|exact .inl rfl) rfl ?_|refine Go.fin1 (by first|exact .inr rfl|exact .inl rfl) rfl (hq:=?_))
      simp [retV, n0]
end Go.Proofs.Ytjpegoigipbmiaa
namespace Go.Proofs.Ytjpegoigipbmiaa
set_option maxRecDepth 100000
attribute [local irreducible] Go GoR GoL
set_option maxHeartbeats 4000000 in
theorem refTake_err (a : Option Addr) (n cap : Nat) (hn : n ≤ 1000000) (h : AHeap) (x : Nat) (hx : 1500 < n ∧ x = 3 ∨ n < 12 ∧ x = 30 ∨ 12 ≤ n ∧ n ≤ 1500 ∧ n % 4 ≠ 0 ∧ x = 32) : CallS Try.prog [] 33 [.slice a n cap] h fun v h' => v = .tuple #[hdV 0 0 0, .slice none 0 0, .int .i64 x] := by
  rcases hx with ⟨g1, rfl⟩ | ⟨g1, rfl⟩ | ⟨g1, g2, g3, rfl⟩
  all_goals
    (refine CallS.of1 Try.func33 rfl Try.ntmps33 Try.results33 rfl ?_)
    (refine Go.run (g:=?_))
    (refine Go.fin (by first|exact .inr rfl|exact .inl rfl) (.cellN rfl inferInstance (by (first | assumption | exact AHeap.get_push_same _ _ | ((repeat first | exact AHeap.get_push_same _ _ | assumption | refine get_push_lt ?_ | exact AHeap.get_put_same _ (by first | omega | (simp only [AHeap.n_push, AHeap.n_put]; omega)) _ | exact get_put_self (by assumption) | apply get_put_self | refine get_put_other (by first | omega | (simp only [AHeap.n_push, AHeap.n_put]; omega)) ?_ | refine Same.get (by assumption) ?_ | refine Keeps.get (by assumption) ?_ (fun hi => by have hx := Own.out (by assumption) hi; omega)) ; fail_if_success focus skip) | fail)) (by first | exact Nat.le_refl _ | (simp [setL, cellsL]; fail_if_success focus skip) | (simp; omega)) rfl (.tmp rfl (.tmp rfl .nil))) ?_)
    rfl
set_option maxHeartbeats 4000000 in
theorem refTake_spec (a : Option Addr) (n cap : Nat) (zs : List UInt8) (hlen : zs.length = n) (h12 : 12 ≤ n) (hn : n ≤ 1500) (h4 : n % 4 = 0) (h : AHeap) (hz : Rv Try.prog h 1 a n cap (zs.map bv)) : CallS Try.prog [] 33 [.slice a n cap] h fun v h' => if beNum ((zs.drop 8).take 4) = headSum zs then ∃ b c, v = .tuple #[hdV (beNum (zs.take 2)) (beNum ((zs.drop 2).take 2)) (beNum ((zs.drop 4).take 4)), .slice b (n - 12) c, .int .i64 (0 : Nat)] ∧ Rv Try.prog h' 1 b (n - 12) c ((zs.drop 12).map bv) ∧ Own h.n b else v = .tuple #[hdV 0 0 0, .slice none 0 0, .int .i64 (31 : Nat)] := by
  have v0 : beNum (zs.take 2) < 65536 := beNum_lt_of (k := 2) (by simp; omega) rfl
  have v1 : beNum ((zs.drop 2).take 2) < 65536 := beNum_lt_of (k := 2) (by simp; omega) rfl
  have v2 : beNum ((zs.drop 4).take 4) < 4294967296 := beNum_lt_of (k := 4) (by simp; omega) rfl
  have l6 : (zs.drop 12).length = n - 12 := by simp; omega
  have e6 : ((zs.drop 12).take (n - 12)) = zs.drop 12 := List.take_of_length_le (by simp; omega)
  (refine CallS.of1 Try.func33 rfl Try.ntmps33 Try.results33 rfl ?_)
  (refine Go.run (g:=?_))
  refine Go.loud (by kernel_rfl) rfl ?_
  refine GoL.name ?_
  intro h0 e0
  have s0 : Same h h0 := by subst e0; exact (((Same.refl h).push _).push _).put (by simp) _
  have g0 : h0.get h.n = some (.cells [.int .u16 0, .int .u16 0, .int .u32 0] 25) := by subst e0; (first | assumption | exact AHeap.get_push_same _ _ | ((repeat first | exact AHeap.get_push_same _ _ | assumption | refine get_push_lt ?_ | exact AHeap.get_put_same _ (by first | omega | (simp only [AHeap.n_push, AHeap.n_put]; omega)) _ | exact get_put_self (by assumption) | apply get_put_self | refine get_put_other (by first | omega | (simp only [AHeap.n_push, AHeap.n_put]; omega)) ?_ | refine Same.get (by assumption) ?_ | refine Keeps.get (by assumption) ?_ (fun hi => by have hx := Own.out (by assumption) hi; omega)) ; fail_if_success focus skip) | fail)
  have g5 : h0.get (h.n + 1) = some (.cells [.int .u16 0, .int .u16 0, .int .u32 0] 25) := by subst e0; exact AHeap.get_put_same _ (by simp) _
  have n0 : h0.n = h.n + 2 := by subst e0; rfl
  clear e0
  have hz4 := hz.same s0
  (refine Go.runL (g:=?_))
  refine GoL.bHi (r := 2) rfl rfl rfl rfl rfl rfl hz4 (by omega) ?_
  intro a3 hz5 _
  (refine Go.runL (g:=?_))
  refine GoL.callS rfl rfl rfl rfl rfl rfl rfl (((refNumber_n a3 cap (zs.take 2) 2 (by simp; omega) (by omega) _ hz5).argA).mono ?_)
  rintro _ h3 rfl s3
  (refine Go.runL (g:=?_))
  have hz6 := hz4.same s3
  refine GoL.bLH (l := 2) (r := 4) rfl rfl rfl rfl rfl rfl rfl hz6 (by omega) (by omega) ?_
  intro a4 hz7 _
  (refine Go.runL (g:=?_))
  refine GoL.callS rfl rfl rfl rfl rfl rfl rfl (((refNumber_n a4 (cap - 2) ((zs.drop 2).take 2) 2 (by simp; omega) (by omega) _ hz7).argA).mono ?_)
  rintro _ h4 rfl s4
  (refine Go.runL (g:=?_))
  have hz8 := hz6.same s4
  refine GoL.bLH (l := 4) (r := 8) rfl rfl rfl rfl rfl rfl rfl hz8 (by omega) (by omega) ?_
  intro a5 hz9 _
  (refine Go.runL (g:=?_))
  refine GoL.callS rfl rfl rfl rfl rfl rfl rfl (((refNumber_n a5 (cap - 4) ((zs.drop 4).take 4) 4 (by simp; omega) (by omega) _ hz9).argA).mono ?_)
  rintro _ h5 rfl s5
  (refine Go.runL (g:=?_))
  refine GoL.store rfl rfl rfl rfl rfl (AHeap.get_push_same _ _) rfl rfl (Nat.le_refl 3) rfl rfl (.inr (by have := s3.1; have := s4.1; have := s5.1; omega)) ?_
  (refine GoL.end_ (g:=?_))
  (refine Go.run (g:=?_))
  refine GoR.name ?_
  intro h6 e6'
  have s6 : Same h5 h6 := by subst e6'; exact ((Same.refl h5).push _).put (Nat.le_refl _) _
  have n6 : h6.n = h5.n + 1 := by subst e6'; rfl
  have g6 : h6.get h5.n = some (.cells [.int .u16 (beNum (zs.take 2)), .int .u16 (beNum ((zs.drop 2).take 2)), .int .u32 (beNum ((zs.drop 4).take 4))] 25) := by subst e6'; exact AHeap.get_put_same _ (by simp) _
  clear e6'
  have hz10 := hz8.same (s5.trans s6)
  refine GoR.bLo (l := 12) rfl rfl rfl rfl rfl rfl hz10 (by omega) ?_
  intro a6 hz11 _
  rw [e6] at hz11
  (refine Go.run (g:=?_))
  have S6 : Same h h6 := s0.trans (s3.trans (s4.trans (s5.trans s6)))
  have g0' := (s3.trans (s4.trans (s5.trans s6))).get g0
  have g5' := (s3.trans (s4.trans (s5.trans s6))).get g5
  have m3 := s3.1
  have m4 := s4.1
  have m5 := s5.1
  clear hz5 hz6 hz7 hz8 hz9 hz4 s3 s4 s5 s6 s0 g0 g5
  have hL : (hput (beNum (zs.take 2)) (beNum ((zs.drop 2).take 2)) (beNum ((zs.drop 4).take 4)) (zs.drop 12)).length = 12 + (n - 12) := by rw [hput, hbytes_length, l6]
  refine GoR.call rfl rfl rfl rfl rfl rfl rfl (((refPut_ok _ _ _ v0 v1 v2 a6 (n - 12) (cap - 12) (zs.drop 12) l6 (by omega) (by omega) _ hz11).argA).mono ?_)
  rintro _ h7 ⟨b7, c7, rfl, hb7, ob7⟩ s7
  have r7 := hb7.rv (P := Try.prog)
  have z7 := hz10.same s7
  have g6' := s7.get g6
  have g0'' := s7.get g0'
  have g5'' := s7.get g5'
  (refine Go.run (g:=?_))
  have hp := hput_of zs (by omega)
  by_cases hne : beNum ((zs.drop 8).take 4) = headSum zs
  · refine Go.cond_f rfl (by simp [hp.2 hne]) ?_
    (refine Go.run (g:=?_))
    refine Go.loud (by kernel_rfl) rfl ?_
    (refine Go.runL (g:=?_))
    refine GoL.buildRo (c := []) rfl rfl rfl rfl rfl (by decide) (by rfl) (by rfl) ?_
    intro b8 h8 hb8 rb8 ob8 s8 n8
    have z8 := z7.same s8
    have g08 := s8.get g0''
    (refine Go.runL (g:=?_))
    refine GoL.bLo (l := 12) rfl rfl rfl rfl rfl rfl z8 (by omega) ?_
    intro a9 hz9 hb9
    rw [e6] at hz9
    (refine Go.runL (g:=?_))
    have hlt : ∀ i ∈ blk a, i < h.n := hz.lt
    have m7 := s7.1
    refine GoL.appendRo rfl rfl rfl rfl rfl rfl hb8 rb8 hz9 (by omega) (by omega) ?_
    intro b9 h9 rd hrd hs9 s9 o9
    have m9 := s9.1
    have o8 : ∀ i ∈ blk b8, h7.n ≤ i := ob8
    have ob9 : Own (h.n + 1) b9 := fun i hi => (o9 i hi).elim (fun x => by have := o8 i x; omega) (fun x => by omega)
    have g09 := s9.get g08
    (refine Go.runL (g:=?_))
    refine GoL.store rfl rfl rfl rfl rfl g09 rfl rfl (Nat.le_refl 3) rfl rfl (.inr (Nat.le_refl _)) ?_
    (refine Go.runL (g:=?_))
    have hrd2 : h.n ∉ rd := fun hm => (hrd _ hm).elim (fun x => by have := o8 _ x; omega) (fun x => by have := hlt _ (hb9 _ x); omega)
    refine GoL.end (by
      simp only [List.nil_append, List.cons_append]
      repeat (first | exact loudP.nil | refine loudP.none ?_ | refine loudP.new (fun _ hb => absurd hb List.not_mem_nil) ?_ | refine loudP.row (by repeat (first | exact loudRowP.nil | refine loudRowP.none ?_ | refine loudRowP.bef (by decide +kernel) ?_ | refine loudRowP.apart (by first | exact .inl rfl | exact .inr (by simp)) rfl (by intro i hi; simp only [List.mem_singleton] at hi; subst hi; exact ⟨by first | exact hrd2 | exact List.not_mem_nil | (simp; omega), List.not_mem_nil, .inl (by omega)⟩) ?_)) ?_)) ?_
    (refine Go.run (g:=?_))
    refine Go.fin (.inr rfl) (.cellN rfl inferInstance (get_put_self g09) (Nat.le_refl 3) rfl (.tmp rfl (.tmp rfl .nil))) ?_
    rw [if_pos hne]
    refine ⟨b9, n - 12, ?_, ?_, ob9.mono (by omega)⟩
    · show Value.tuple #[.agg #[.int .u16 ((beNum (zs.take 2) : Nat) : Int), .int .u16 ((beNum ((zs.drop 2).take 2) : Nat) : Int), .int .u32 ((beNum ((zs.drop 4).take 4) : Nat) : Int)], .slice b9 (0 + (n - 12)) (0 + (n - 12)), .int .i64 0] = _
      rw [Nat.zero_add]; rfl
    · rw [Nat.zero_add] at hs9
      exact hs9.put (fun hm => by have := ob9 _ hm; omega) _
  · refine Go.cond_t rfl (by simp [mt hp.1 hne]) ?_
    (refine Go.run (g:=?_))
    (refine Go.fin (by first|exact .inr rfl|exact .inl rfl) (.cellN rfl inferInstance (by (first | assumption | exact AHeap.get_push_same _ _ | ((repeat first | exact AHeap.get_push_same _ _ | assumption | refine get_push_lt ?_ | exact AHeap.get_put_same _ (by first | omega | (simp only [AHeap.n_push, AHeap.n_put]; omega)) _ | exact get_put_self (by assumption) | apply get_put_self | refine get_put_other (by first | omega | (simp only [AHeap.n_push, AHeap.n_put]; omega)) ?_ | refine Same.get (by assumption) ?_ | refine Keeps.get (by assumption) ?_ (fun hi => by have hx := Own.out (by assumption) hi; omega)) ; fail_if_success focus skip) | fail)) (by first | exact Nat.le_refl _ | (simp [setL, cellsL]; fail_if_success focus skip) | (simp; omega)) rfl (.tmp rfl (.tmp rfl .nil))) ?_)
    rw [if_neg hne]
    rfl
end Go.Proofs.Ytjpegoigipbmiaa
namespace Go.Proofs.Ytjpegoigipbmiaa
set_option maxRecDepth 100000
attribute [local irreducible] Go GoR GoL
def rn (zs : List UInt8) (at_ n : Nat) : Nat := if at_ + n ≤ zs.length then nAt zs at_ n else 0
theorem rn_le {zs : List UInt8} {at_ n : Nat} (h : at_ + n ≤ zs.length) : rn zs at_ n = nAt zs at_ n := if_pos h
theorem nAt_lt4 (zs : List UInt8) (at_ : Nat) : nAt zs at_ 4 < 4294967296 := beNum_lt_of (k := 4) (by simp; omega) rfl
theorem nAt_lt2 (zs : List UInt8) (at_ : Nat) : nAt zs at_ 2 < 65536 := beNum_lt_of (k := 2) (by simp; omega) rfl
theorem rn_lt4 (zs : List UInt8) (at_ : Nat) : rn zs at_ 4 < 4294967296 := by unfold rn; split; exact nAt_lt4 _ _; decide
theorem rn_lt2 (zs : List UInt8) (at_ : Nat) : rn zs at_ 2 < 65536 := by unfold rn; split; exact nAt_lt2 _ _; decide
theorem nAt_drop (zs : List UInt8) (m at_ n : Nat) : nAt (zs.drop m) at_ n = nAt zs (m + at_) n := by unfold nAt; rw [List.drop_drop]
set_option maxHeartbeats 4000000 in
theorem rn_spec (a : Option Addr) (cap : Nat) (zs : List UInt8) (at_ n : Nat) (hn : n ≤ 4) (ha : at_ ≤ 1000000000) (hl : zs.length ≤ 1000000) (h : AHeap) (hz : Rv Try.prog h 1 a zs.length cap (zs.map bv)) : CallS Try.prog [] 63 [.slice a zs.length cap, .int .i64 at_, .int .i64 n] h fun v h' => v = .int .u32 (rn zs at_ n) := by
  unfold rn
  rcases Nat.lt_or_ge zs.length (at_ + n) with g | g
  · rw [if_neg (by omega)]
    (refine CallS.of3 Try.func63 rfl Try.ntmps63 Try.results63 rfl ?_)
    (refine Go.run (g:=?_))
    (first|refine Go.finT (by first|exact .inr rfl|exact .inl rfl) rfl ?_|refine Go.fin1 (by first|exact .inr rfl|exact .inl rfl) rfl (hq:=?_))
    rfl
  · rw [if_pos g]
    (refine CallS.of3 Try.func63 rfl Try.ntmps63 Try.results63 rfl ?_)
    (refine Go.run (g:=?_))
    refine GoR.bLH (l := at_) (r := at_ + n) rfl rfl rfl rfl rfl rfl rfl hz (by omega) (by omega) ?_
    intro a2 hz2 hb2
    have e2 : at_ + n - at_ = n := by omega
    rw [e2] at hz2 ⊢
    have hyl : ((zs.drop at_).take n).length = n := by simp; omega
    have hlt : beNum ((zs.drop at_).take n) < 4294967296 := beNum_lt_of (k := 4) (by omega) rfl
    unfold nAt
    generalize (zs.drop at_).take n = ys at *
    have hnum := refNumber_spec a2 (cap - at_) ys (by omega) h (by rw [hyl]; exact hz2)
    rw [hyl] at hnum
    (refine Go.run (g:=?_))
    refine GoR.call rfl rfl rfl rfl rfl rfl rfl (((hnum).argA).mono ?_)
    rintro _ h1 rfl s1
    generalize beNum ys = x at *
    (refine Go.run (g:=?_))
    (first|refine Go.finT (by first|exact .inr rfl|exact .inl rfl) rfl ?_|refine Go.fin1 (by first|exact .inr rfl|exact .inl rfl) rfl (hq:=?_))
    simp [retV, Nat.mod_eq_of_lt hlt]
def SackR (h h' : AHeap) (v : Value) (c : Ck) (zs : List UInt8) : Prop :=
  (zs.length ≠ 12 + 4 * rn zs 8 2 + 4 * rn zs 10 2 ∧ v = .tuple #[c.v, .bool false]) ∨
  (zs.length = 12 + 4 * rn zs 8 2 + 4 * rn zs 10 2 ∧ ∃ b cb b' cb', v = .tuple #[(⟨c.k, c.f, c.tag, nAt zs 4 4, nAt zs 0 4, c.out, c.inn, c.sid, c.ssn, c.ppid, c.D, c.A, ⟨b, nAt zs 8 2, cb⟩, ⟨b', nAt zs 10 2, cb'⟩, c.C⟩ : Ck).v, .bool true] ∧ Sv h' 78 2 b (nAt zs 8 2) cb (gcs (gapsAt (zs.drop 12) (nAt zs 8 2))) ∧ Sv h' 23 1 b' (nAt zs 10 2) cb' (w32s (dupsAt (zs.drop (12 + 4 * nAt zs 8 2)) (nAt zs 10 2))) ∧ Own h.n b ∧ Own h.n b')
set_option maxHeartbeats 8000000 in
theorem rsack_spec (c : Ck) (hG : c.G = ⟨none, 0, 0⟩) (hU : c.U = ⟨none, 0, 0⟩) (a : Option Addr) (cap : Nat) (zs : List UInt8) (hl : zs.length ≤ 1000000) (h : AHeap) (hz : Rv Try.prog h 1 a zs.length cap (zs.map bv)) : CallS Try.prog [] 65 [c.v, .slice a zs.length cap] h fun v h' => SackR h h' v c zs := by
  unfold SackR Ck.v
  (refine CallS.of2 Try.func65 rfl Try.ntmps65 Try.results65 rfl ?_)
  (iterate 5 (first|(refine Go.kk 0 rfl ?_;refine Go.seq ?_)|(refine Go.kk 1 rfl ?_;refine Go.region (by kernel_rfl) rfl ?_)|(refine GoR.kk 0 rfl ?_;first|refine GoR.move rfl rfl rfl rfl rfl ?_|refine GoR.assign rfl rfl rfl rfl rfl ?_)|(refine GoR.kk 8 rfl ?_;first|refine GoR.boxA rfl rfl rfl rfl rfl ?_|refine GoR.boxS rfl rfl rfl rfl rfl rfl ?_|refine GoR.alloc rfl rfl rfl rfl ?_)|refine GoR.end ?_))
  simp only [AHeap.n_push, AHeap.n_put]
  refine GoR.name ?_
  intro h3 e3
  have S3 : Same h h3 := by subst e3; exact ((Same.refl h).push _).push _
  have n3 : h3.n = h.n + 2 := by subst e3; rfl
  have g0 : h3.get h.n = some (.cells c.cs 43) := by subst e3; (first | assumption | exact AHeap.get_push_same _ _ | ((repeat first | exact AHeap.get_push_same _ _ | assumption | refine get_push_lt ?_ | exact AHeap.get_put_same _ (by first | omega | (simp only [AHeap.n_push, AHeap.n_put]; omega)) _ | exact get_put_self (by assumption) | apply get_put_self | refine get_put_other (by first | omega | (simp only [AHeap.n_push, AHeap.n_put]; omega)) ?_ | refine Same.get (by assumption) ?_ | refine Keeps.get (by assumption) ?_ (fun hi => by have hx := Own.out (by assumption) hi; omega)) ; fail_if_success focus skip) | fail)
  have g1 : h3.get (h.n + 1) = some (.cells (Ck.none 0).cs 43) := by subst e3; (first | assumption | exact AHeap.get_push_same _ _ | ((repeat first | exact AHeap.get_push_same _ _ | assumption | refine get_push_lt ?_ | exact AHeap.get_put_same _ (by first | omega | (simp only [AHeap.n_push, AHeap.n_put]; omega)) _ | exact get_put_self (by assumption) | apply get_put_self | refine get_put_other (by first | omega | (simp only [AHeap.n_push, AHeap.n_put]; omega)) ?_ | refine Same.get (by assumption) ?_ | refine Keeps.get (by assumption) ?_ (fun hi => by have hx := Own.out (by assumption) hi; omega)) ; fail_if_success focus skip) | fail)
  clear e3
  unfold Ck.cs Ck.none Sl.nil at g1
  unfold Ck.cs at g0
  rw [hG, hU] at g0
  dsimp only at g0
  have hz3 := hz.same S3
  have hG2 := rn_lt2 zs 8
  have hU2 := rn_lt2 zs 10
  (refine Go.run (g:=?_))
  refine GoR.call rfl rfl rfl rfl rfl rfl rfl (((rn_spec a cap zs 8 2 (by decide) (by decide) hl _ hz3).argA).mono ?_)
  rintro _ h4 rfl s4
  (refine Go.run (g:=?_))
  refine GoR.call rfl rfl rfl rfl rfl rfl rfl (((rn_spec a cap zs 10 2 (by decide) (by decide) hl _ (hz3.same s4)).argA).mono ?_)
  rintro _ h5 rfl s5
  have S5 := s4.trans s5
  (have nn := (S5).1; try simp only [AHeap.n_push, AHeap.n_put] at nn)
  have g05 := S5.get g0
  have g15 := S5.get g1
  have hz5 := hz3.same S5
  clear s4 s5 g0 g1
  generalize hg : rn zs 8 2 = G at *
  generalize hu : rn zs 10 2 = U at *
  by_cases hq : zs.length = 12 + 4 * G + 4 * U
  case neg =>
    (refine Go.run (g:=?_))
    refine Go.fin (.inr rfl) (.cellN (b := h.n + 1) (off := 0) rfl inferInstance (by (first | assumption | exact AHeap.get_push_same _ _ | ((repeat first | exact AHeap.get_push_same _ _ | assumption | refine get_push_lt ?_ | exact AHeap.get_put_same _ (by first | omega | (simp only [AHeap.n_push, AHeap.n_put]; omega)) _ | exact get_put_self (by assumption) | apply get_put_self | refine get_put_other (by first | omega | (simp only [AHeap.n_push, AHeap.n_put]; omega)) ?_ | refine Same.get (by assumption) ?_ | refine Keeps.get (by assumption) ?_ (fun hi => by have hx := Own.out (by assumption) hi; omega)) ; fail_if_success focus skip) | fail)) (by first | exact Nat.le_refl _ | (simp [setL, cellsL]; fail_if_success focus skip) | (simp; omega)) rfl (.tmp rfl .nil)) ?_
    exact .inl ⟨hq, by simp only [hG, hU]; rfl⟩
  have r04 : rn zs 0 4 = nAt zs 0 4 := rn_le (by omega)
  have r44 : rn zs 4 4 = nAt zs 4 4 := rn_le (by omega)
  have eG : nAt zs 8 2 = G := by rw [← hg, rn_le (by omega)]
  have eU : nAt zs 10 2 = U := by rw [← hu, rn_le (by omega)]
  rw [eG, eU]
  (refine Go.run (g:=?_))
  refine GoR.call rfl rfl rfl rfl rfl rfl rfl (((rn_spec a cap zs 0 4 (by decide) (by decide) hl _ hz5).argA).mono ?_)
  rintro _ h6 rfl s6
  rw [r04]
  (have nn := (s6).1; try simp only [AHeap.n_push, AHeap.n_put] at nn)
  have g06 := s6.get g05
  (refine Go.run (g:=?_))
  refine GoR.name ?_
  intro h7 e7
  have S7 : Same h h7 := by subst e7; exact ((S3.trans S5).trans s6).put (Nat.le_refl _) _
  have n7 : h7.n = h6.n := by subst e7; rfl
  have g07 : h7.get h.n = some (.cells (⟨c.k, c.f, c.tag, c.rwnd, nAt zs 0 4, c.out, c.inn, c.sid, c.ssn, c.ppid, c.D, c.A, ⟨none, 0, 0⟩, ⟨none, 0, 0⟩, c.C⟩ : Ck).cs 43) := by subst e7; exact get_put_self g06
  have g17 := (show h7.get (h.n + 1) = _ from by subst e7; exact get_put_other (by omega) (s6.get g15))
  clear e7
  unfold Ck.cs at g07
  try dsimp only at g07
  have hz7 := hz.same S7
  refine GoR.call rfl rfl rfl rfl rfl rfl rfl (((rn_spec a cap zs 4 4 (by decide) (by decide) hl _ hz7).argA).mono ?_)
  rintro _ h8 rfl s8
  rw [r44]
  (have nn := (s8).1; try simp only [AHeap.n_push, AHeap.n_put] at nn)
  have g08 := s8.get g07
  have g18 := s8.get g17
  (refine Go.run (g:=?_))
  refine Go.loop (α := Nat × AHeap × Option Addr × Nat) (fun x => [(8, .int .i64 x.1), (6, .int .i64 G), (7, .int .i64 U), (1, .slice a zs.length cap), (2, .pointer (some ⟨h.n, 0, none⟩)), (4, .pointer (some ⟨h.n + 1, 0, none⟩))]) (fun _ => []) (fun x => x.2.1)
    (fun x => x.1 ≤ G ∧ Same h x.2.1 ∧ h.n + 2 ≤ x.2.1.n ∧ x.2.1.get h.n = some (.cells (⟨c.k, c.f, c.tag, nAt zs 4 4, nAt zs 0 4, c.out, c.inn, c.sid, c.ssn, c.ppid, c.D, c.A, ⟨x.2.2.1, x.1, x.2.2.2⟩, ⟨none, 0, 0⟩, c.C⟩ : Ck).cs 43) ∧ x.2.1.get (h.n + 1) = some (.cells (Ck.none 0).cs 43) ∧ Sv x.2.1 78 2 x.2.2.1 x.1 x.2.2.2 (gcs (gapsAt (zs.drop 12) x.1)) ∧ Own (h.n + 2) x.2.2.1) (fun x => G - x.1) (0, _, none, 0) ?_ ?_ rfl rfl ?_
  · refine ⟨Nat.zero_le _, (S7.trans s8).put (Nat.le_refl _) _, by simp; omega, ?_, get_put_other (by omega) g18, .nil, Own.nil _⟩
    exact get_put_self g08
  · exact ⟨rfl, rfl, rfl, rfl, rfl, rfl, trivial⟩
  clear S3 S5 S7 s6 s8 g05 g15 g06 g07 g17 g08 g18 hz3 hz5 hz7
  rintro ⟨i, H, b, cb⟩ ⟨hi, sH, mH, gH, g1H, hsv, hob⟩
  simp only at hi sH mH gH g1H hsv hob ⊢
  unfold Ck.cs at gH
  dsimp only at gH
  have hzH := hz.same sH
  rcases Nat.lt_or_ge i G with i0 | i0
  · (refine Go.run (g:=?_))
    refine Go.loud (by kernel_rfl) rfl ?_
    (refine Go.runL (g:=?_))
    refine GoL.callS rfl rfl rfl rfl rfl rfl rfl (((rn_spec a cap zs (12 + 4 * i) 2 (by decide) (by omega) hl _ hzH).argA).mono ?_)
    rintro _ h6 rfl s6
    have x1 := nAt_lt2 zs (12 + 4 * i)
    rw [rn_le (show 12 + 4 * i + 2 ≤ zs.length by omega)]
    have e1 : nAt (zs.drop 12) (4 * i) 2 = nAt zs (12 + 4 * i) 2 := nAt_drop _ _ _ _
    generalize nAt zs (12 + 4 * i) 2 = X at *
    (refine Go.runL (g:=?_))
    refine GoL.callS rfl rfl rfl rfl rfl rfl rfl (((rn_spec a cap zs (14 + 4 * i) 2 (by decide) (by omega) hl _ (hzH.same s6)).argA).mono ?_)
    rintro _ h7 rfl s7
    have x2 := nAt_lt2 zs (14 + 4 * i)
    rw [rn_le (show 14 + 4 * i + 2 ≤ zs.length by omega)]
    have e2 : nAt (zs.drop 12) (4 * i + 2) 2 = nAt zs (14 + 4 * i) 2 := by rw [nAt_drop]; congr 1; omega
    generalize nAt zs (14 + 4 * i) 2 = Y at *
    (refine Go.runL (g:=?_))
    refine GoL.buildRo (c := [.int .u16 X, .int .u16 Y]) rfl rfl rfl rfl rfl (by decide) (by rfl) (by rfl) ?_
    intro b8 h8 hb8 rb8 ob8 s8 n8
    have s68 := (s6.trans s7).trans s8
    have m8 := s68.1
    refine GoL.appendV rfl rfl rfl rfl rfl rfl (hsv.same s68) hb8 (fun j hj => .inr (by have := hob _ hj; omega)) (by omega) (by omega) (by rfl) ?_
    intro b9 c9 h9 rd wr hwr hrd hs9 k9 o9
    have m9 := k9.1
    have nb : ∀ j, j < h.n + 2 → j ∉ blk b := fun j hj hm => by have := hob _ hm; omega
    have g9 := k9.get (s68.get gH) (nb _ (by omega))
    have g19 := k9.get (s68.get g1H) (nb _ (by omega))
    (refine Go.runL (g:=?_))
    refine GoL.store' rfl rfl rfl rfl rfl (hl:=rfl) (h1:=rfl) (h3:=rfl) (g:=?_)
    refine GoL.end_ (hl := by (simp only [List.nil_append, List.cons_append]); repeat (first | exact loudP.nil | refine loudP.none ?_ | refine loudP.new (fun _ hb => absurd hb List.not_mem_nil) ?_ | refine loudP.row (by repeat (first | exact loudRowP.nil | refine loudRowP.none ?_ | refine loudRowP.bef (by decide +kernel) ?_)) ?_)) ?_
    (refine Go.run (g:=?_))
    have ob9 : Own (h.n + 2) b9 := hob.app (by omega) o9
    refine Go.name ?_
    intro h10 e10
    have S10 : Same h h10 := by subst e10; exact ((sH.trans s68).ownO k9 hob (by omega)).put (Nat.le_refl _) _
    have n10 : h.n + 2 ≤ h10.n := by subst e10; simp only [AHeap.n_put]; omega
    have g10 : h10.get h.n = some (.cells (⟨c.k, c.f, c.tag, nAt zs 4 4, nAt zs 0 4, c.out, c.inn, c.sid, c.ssn, c.ppid, c.D, c.A, ⟨b9, i + 1, c9⟩, ⟨none, 0, 0⟩, c.C⟩ : Ck).cs 43) := by subst e10; exact get_put_self g9
    have g110 : h10.get (h.n + 1) = some (.cells (Ck.none 0).cs 43) := by subst e10; exact get_put_other (by omega) g19
    have hs10 := hs9.put_eq e10 (fun hm => by have := ob9 _ hm; omega)
    refine Go.again (i + 1, h10, b9, c9) ⟨by simp only; omega, S10, n10, g10, g110, ?_, ob9⟩ (by simp only; omega) ⟨rfl, rfl, rfl, rfl, rfl, rfl, trivial⟩ rfl rfl
    have e3 : gcs (gapsAt (zs.drop 12) (i + 1)) = gcs (gapsAt (zs.drop 12) i) ++ [.int .u16 X, .int .u16 Y] := by
      simp only [gapsAt, List.range_succ, List.map_append, List.map_cons, List.map_nil, gcs_snoc, e1, e2]; rfl
    simp only
    rw [e3]
    exact hs10
  have hie : i = G := by omega
  subst hie
  have hHlt := hsv.lt
  (refine Go.run (g:=?_))
  refine Go.loop (α := Nat × AHeap × Option Addr × Nat) (fun x => [(9, .int .i64 x.1), (6, .int .i64 i), (7, .int .i64 U), (1, .slice a zs.length cap), (2, .pointer (some ⟨h.n, 0, none⟩)), (4, .pointer (some ⟨h.n + 1, 0, none⟩))]) (fun _ => []) (fun x => x.2.1)
    (fun x => x.1 ≤ U ∧ Same h x.2.1 ∧ h.n + 2 ≤ x.2.1.n ∧ x.2.1.get h.n = some (.cells (⟨c.k, c.f, c.tag, nAt zs 4 4, nAt zs 0 4, c.out, c.inn, c.sid, c.ssn, c.ppid, c.D, c.A, ⟨b, i, cb⟩, ⟨x.2.2.1, x.1, x.2.2.2⟩, c.C⟩ : Ck).cs 43) ∧ x.2.1.get (h.n + 1) = some (.cells (Ck.none 0).cs 43) ∧ Sv x.2.1 23 1 x.2.2.1 x.1 x.2.2.2 (w32s (dupsAt (zs.drop (12 + 4 * i)) x.1)) ∧ Own (h.n + 2) x.2.2.1 ∧ Sv x.2.1 78 2 b i cb (gcs (gapsAt (zs.drop 12) i)) ∧ ∀ j ∈ blk b, j ∉ blk x.2.2.1) (fun x => U - x.1) (0, H, none, 0) ?_ ?_ rfl rfl ?_
  · exact ⟨Nat.zero_le _, sH, mH, gH, g1H, .nil, Own.nil _, hsv, fun j _ hm => by simp [blk] at hm⟩
  · exact ⟨rfl, rfl, rfl, rfl, rfl, rfl, trivial⟩
  clear sH mH gH g1H hsv hzH hHlt
  rintro ⟨j, H, b', cb'⟩ ⟨hj, sH, mH, gH, g1H, hsv', hob', hsvG, hap⟩
  simp only at hj sH mH gH g1H hsv' hob' hsvG hap ⊢
  unfold Ck.cs at gH
  dsimp only at gH
  have hzH := hz.same sH
  rcases Nat.lt_or_ge j U with j0 | j0
  · (refine Go.run (g:=?_))
    refine Go.loud (by kernel_rfl) rfl ?_
    (refine Go.runL (g:=?_))
    refine GoL.callS rfl rfl rfl rfl rfl rfl rfl (((rn_spec a cap zs (12 + 4 * i + 4 * j) 4 (by decide) (by omega) hl _ hzH).argA).mono ?_)
    rintro _ h6 rfl s6
    rw [rn_le (show 12 + 4 * i + 4 * j + 4 ≤ zs.length by omega)]
    have e1 : nAt (zs.drop (12 + 4 * i)) (4 * j) 4 = nAt zs (12 + 4 * i + 4 * j) 4 := nAt_drop _ _ _ _
    generalize nAt zs (12 + 4 * i + 4 * j) 4 = X at *
    (refine Go.runL (g:=?_))
    refine GoL.buildRo (c := w32s [X]) rfl rfl rfl rfl rfl (by decide) (by rfl) (by rfl) ?_
    intro b8 h8 hb8 rb8 ob8 s8 n8
    have s68 := s6.trans s8
    have m8 := s68.1
    refine GoL.appendV rfl rfl rfl rfl rfl rfl (hsv'.same s68) hb8 (fun j hj => .inr (by have := hob' _ hj; omega)) (by omega) (by omega) (by rfl) ?_
    intro b9 c9 h9 rd wr hwr hrd hs9 k9 o9
    have m9 := k9.1
    have nb : ∀ j, j < h.n + 2 → j ∉ blk b' := fun j hj hm => by have := hob' _ hm; omega
    have g9 := k9.get (s68.get gH) (nb _ (by omega))
    have g19 := k9.get (s68.get g1H) (nb _ (by omega))
    have hG9 := (hsvG.same s68).keeps k9 hap
    have hap9 : ∀ i ∈ blk b, i ∉ blk b9 := fun i hi hm => (o9 i hm).elim (hap i hi) (fun x => by have := (hsvG.same s68).lt _ hi; omega)
    (refine Go.runL (g:=?_))
    refine GoL.store' rfl rfl rfl rfl rfl (hl:=rfl) (h1:=rfl) (h3:=rfl) (g:=?_)
    refine GoL.end_ (hl := by (simp only [List.nil_append, List.cons_append]); repeat (first | exact loudP.nil | refine loudP.none ?_ | refine loudP.new (fun _ hb => absurd hb List.not_mem_nil) ?_ | refine loudP.row (by repeat (first | exact loudRowP.nil | refine loudRowP.none ?_ | refine loudRowP.bef (by decide +kernel) ?_)) ?_)) ?_
    (refine Go.run (g:=?_))
    have ob9 : Own (h.n + 2) b9 := hob'.app (by omega) o9
    refine Go.name ?_
    intro h10 e10
    have S10 : Same h h10 := by subst e10; exact ((sH.trans s68).ownO k9 hob' (by omega)).put (Nat.le_refl _) _
    have n10 : h.n + 2 ≤ h10.n := by subst e10; simp only [AHeap.n_put]; omega
    have g10 : h10.get h.n = some (.cells (⟨c.k, c.f, c.tag, nAt zs 4 4, nAt zs 0 4, c.out, c.inn, c.sid, c.ssn, c.ppid, c.D, c.A, ⟨b, i, cb⟩, ⟨b9, j + 1, c9⟩, c.C⟩ : Ck).cs 43) := by subst e10; exact get_put_self g9
    have g110 : h10.get (h.n + 1) = some (.cells (Ck.none 0).cs 43) := by subst e10; exact get_put_other (by omega) g19
    have hs10 := hs9.put_eq e10 (fun hm => by have := ob9 _ hm; omega)
    refine Go.again (j + 1, h10, b9, c9) ⟨by simp only; omega, S10, n10, g10, g110, ?_, ob9, hG9.put_eq e10 (fun hm => by have := hob _ hm; omega), hap9⟩ (by simp only; omega) ⟨rfl, rfl, rfl, rfl, rfl, rfl, trivial⟩ rfl rfl
    have e3 : w32s (dupsAt (zs.drop (12 + 4 * i)) (j + 1)) = w32s (dupsAt (zs.drop (12 + 4 * i)) j) ++ w32s [X] := by
      simp only [dupsAt, List.range_succ, List.map_append, List.map_cons, List.map_nil, w32s, e1]
    simp only
    rw [e3]
    exact hs10
  have hje : j = U := by omega
  subst hje
  unfold Ck.cs Ck.none Sl.nil at g1H
  (refine Go.run (g:=?_))
  refine Go.fin (.inr rfl) (.cellN (b := h.n + 1) (off := 0) rfl inferInstance (by (first | assumption | exact AHeap.get_push_same _ _ | ((repeat first | exact AHeap.get_push_same _ _ | assumption | refine get_push_lt ?_ | exact AHeap.get_put_same _ (by first | omega | (simp only [AHeap.n_push, AHeap.n_put]; omega)) _ | exact get_put_self (by assumption) | apply get_put_self | refine get_put_other (by first | omega | (simp only [AHeap.n_push, AHeap.n_put]; omega)) ?_ | refine Same.get (by assumption) ?_ | refine Keeps.get (by assumption) ?_ (fun hi => by have hx := Own.out (by assumption) hi; omega)) ; fail_if_success focus skip) | fail)) (by first | exact Nat.le_refl _ | (simp [setL, cellsL]; fail_if_success focus skip) | (simp; omega)) rfl (.tmp rfl .nil)) ?_
  exact .inr ⟨hq, b, cb, b', cb', rfl, hsvG.put (fun hm => by have := hob _ hm; omega) _, hsv'.put (fun hm => by have := hob' _ hm; omega) _, hob.mono (by omega), hob'.mono (by omega)⟩
end Go.Proofs.Ytjpegoigipbmiaa
namespace Go.Proofs.Ytjpegoigipbmiaa
set_option maxRecDepth 100000
attribute [local irreducible] Go GoR GoL
def ParR (h h' : AHeap) (v : Value) (c : Ck) : Option (List Nat × List UInt8) → Prop
  | none => ∃ x : Ck, v = .tuple #[x.v, .bool false]
  | some (A, D) => ∃ sD sA : Sl, v = .tuple #[(c.pd sD sA).v, .bool true] ∧ Sv h' 23 1 sA.a sA.n sA.cap (w32s A) ∧ A.length = sA.n ∧ (∀ x ∈ A, x < 4294967296) ∧ D.length = sD.n ∧ Rv Try.prog h' 1 sD.a sD.n sD.cap (D.map bv) ∧ Own h.n sA.a ∧ Own h.n sD.a
structure RInv (h : AHeap) (c : Ck) (s : Sg) (H : AHeap) : Prop where
  same : Same h H
  n : h.n + 2 ≤ H.n
  box : H.get h.n = some (.cells (c.pd s.D s.A).cs 43)
  res : H.get (h.n + 1) = some (.cells (Ck.none 0).cs 43)
  sv : Sv H 23 1 s.A.a s.A.n s.A.cap (w32s s.addrs)
  al : s.addrs.length = s.A.n
  ab : ∀ x ∈ s.addrs, x < 4294967296
  dl : s.data.length = s.D.n
  dv : Rv Try.prog H 1 s.D.a s.D.n s.D.cap (s.data.map bv)
  oA : Own (h.n + 2) s.A.a
  oD : Own (h.n + 2) s.D.a
  DA : ∀ i ∈ blk s.D.a, i ∉ blk s.A.a
theorem RInv.to {h : AHeap} {c : Ck} {s : Sg} {H H' : AHeap} (I : RInv h c s H) (sm : Same H H') : RInv h c s H' := ⟨I.same.trans sm, Nat.le_trans I.n sm.1, sm.get I.box, sm.get I.res, I.sv.same sm, I.al, I.ab, I.dl, I.dv.same sm, I.oA, I.oD, I.DA⟩
set_option maxHeartbeats 16000000 in
theorem rpar_spec (c : Ck) (hA : c.A = ⟨none, 0, 0⟩) (hD : c.D = ⟨none, 0, 0⟩) (a : Option Addr) (cap : Nat) (zs : List UInt8) (hl : zs.length ≤ 1000000) (h : AHeap) (hz : Rv Try.prog h 1 a zs.length cap (zs.map bv)) : CallS Try.prog [] 64 [c.v, .slice a zs.length cap] h fun v h' => ParR h h' v c (pgo c.k (parse false zs).2 (parse false zs).1 [] [] 0) := by
  unfold Ck.v
  (refine CallS.of2 Try.func64 rfl Try.ntmps64 Try.results64 rfl ?_)
  (iterate 5 (first|(refine Go.kk 0 rfl ?_;refine Go.seq ?_)|(refine Go.kk 1 rfl ?_;refine Go.region (by kernel_rfl) rfl ?_)|(refine GoR.kk 0 rfl ?_;first|refine GoR.move rfl rfl rfl rfl rfl ?_|refine GoR.assign rfl rfl rfl rfl rfl ?_)|(refine GoR.kk 8 rfl ?_;first|refine GoR.boxA rfl rfl rfl rfl rfl ?_|refine GoR.boxS rfl rfl rfl rfl rfl rfl ?_|refine GoR.alloc rfl rfl rfl rfl ?_)|refine GoR.end ?_))
  simp only [AHeap.n_push, AHeap.n_put]
  refine GoR.name ?_
  intro h3 e3
  have I3 : RInv h c ⟨⟨none, 0, 0⟩, ⟨none, 0, 0⟩, [], [], 0, false⟩ h3 := by
    refine ⟨by subst e3; exact ((Same.refl h).push _).push _, by subst e3; exact Nat.le_refl _, ?_, by subst e3; (first | assumption | exact AHeap.get_push_same _ _ | ((repeat first | exact AHeap.get_push_same _ _ | assumption | refine get_push_lt ?_ | exact AHeap.get_put_same _ (by first | omega | (simp only [AHeap.n_push, AHeap.n_put]; omega)) _ | exact get_put_self (by assumption) | apply get_put_self | refine get_put_other (by first | omega | (simp only [AHeap.n_push, AHeap.n_put]; omega)) ?_ | refine Same.get (by assumption) ?_ | refine Keeps.get (by assumption) ?_ (fun hi => by have hx := Own.out (by assumption) hi; omega)) ; fail_if_success focus skip) | fail), .nil, rfl, (fun x hx => by cases hx), rfl, Rv.nil, Own.nil _, Own.nil _, fun i hi => by simp [blk] at hi⟩
    rw [show c.pd ⟨none, 0, 0⟩ ⟨none, 0, 0⟩ = c from by cases c; simp_all]
    subst e3
    (first | assumption | exact AHeap.get_push_same _ _ | ((repeat first | exact AHeap.get_push_same _ _ | assumption | refine get_push_lt ?_ | exact AHeap.get_put_same _ (by first | omega | (simp only [AHeap.n_push, AHeap.n_put]; omega)) _ | exact get_put_self (by assumption) | apply get_put_self | refine get_put_other (by first | omega | (simp only [AHeap.n_push, AHeap.n_put]; omega)) ?_ | refine Same.get (by assumption) ?_ | refine Keeps.get (by assumption) ?_ (fun hi => by have hx := Own.out (by assumption) hi; omega)) ; fail_if_success focus skip) | fail)
  clear e3
  (refine Go.run (g:=?_))
  refine Go.loop (α := Nat × AHeap × Sg) (fun x => [(7, .int .i64 x.1), (6, .int .i64 x.2.2.n), (1, .slice a zs.length cap), (2, .pointer (some ⟨h.n, 0, none⟩)), (4, .pointer (some ⟨h.n + 1, 0, none⟩))]) (fun _ => []) (fun x => x.2.1)
    (fun x => x.1 ≤ zs.length ∧ RInv h c x.2.2 x.2.1 ∧ x.2.2.addrs.length ≤ 3 ∧ x.2.2.n ≤ x.1 ∧ pgo c.k (parse false zs).2 (parse false zs).1 [] [] 0 = pgo c.k (parse false (zs.drop x.1)).2 (parse false (zs.drop x.1)).1 x.2.2.addrs x.2.2.data x.2.2.n) (fun x => zs.length - x.1) (0, h3, ⟨⟨none, 0, 0⟩, ⟨none, 0, 0⟩, [], [], 0, false⟩) ?_ ?_ rfl rfl ?_
  · exact ⟨Nat.zero_le _, I3, by simp, Nat.le_refl _, rfl⟩
  · exact ⟨rfl, rfl, rfl, rfl, rfl, trivial⟩
  clear I3
  rintro ⟨at_, H, s⟩ ⟨hat, I, l3, hn, hp⟩
  simp only at hat I l3 hn hp ⊢
  have gR : H.get (h.n + 1) = some (.cells (Ck.none 0).cs 43) := I.res
  unfold Ck.cs Ck.none Sl.nil at gR
  have gB := I.box
  unfold Ck.cs at gB
  dsimp only at gB
  have mH := I.n
  rcases Nat.lt_or_ge at_ zs.length with a0 | a0
  case inr =>
    have ed : zs.drop at_ = [] := List.drop_eq_nil_of_le a0
    rw [ed, parse_nil] at hp
    rw [hp]
    have hae : at_ = zs.length := by omega
    subst hae
    (refine Go.run (g:=?_))
    refine Go.fin (.inr rfl) (.cellN (b := h.n + 1) (off := 0) rfl inferInstance (by (first | assumption | exact AHeap.get_push_same _ _ | ((repeat first | exact AHeap.get_push_same _ _ | assumption | refine get_push_lt ?_ | exact AHeap.get_put_same _ (by first | omega | (simp only [AHeap.n_push, AHeap.n_put]; omega)) _ | exact get_put_self (by assumption) | apply get_put_self | refine get_put_other (by first | omega | (simp only [AHeap.n_push, AHeap.n_put]; omega)) ?_ | refine Same.get (by assumption) ?_ | refine Keeps.get (by assumption) ?_ (fun hi => by have hx := Own.out (by assumption) hi; omega)) ; fail_if_success focus skip) | fail)) (by first | exact Nat.le_refl _ | (simp [setL, cellsL]; fail_if_success focus skip) | (simp; omega)) rfl (.tmp rfl .nil)) ?_
    exact ⟨s.D, s.A, rfl, I.sv.put (fun hm => by have := I.oA _ hm; omega) _, I.al, I.ab, I.dl, I.dv.put (fun hm => by have := I.oD _ hm; omega) _, I.oA.mono (by omega), I.oD.mono (by omega)⟩
  have ne : zs.drop at_ ≠ [] := fun e => by have := List.length_drop (i := at_) (l := zs); rw [e] at this; simp at this; omega
  (refine Go.run (g:=?_))
  refine GoR.call rfl rfl rfl rfl rfl rfl rfl (((one_spec false a zs.length cap zs rfl at_ hat hl _ (hz.same I.same)).argA).mono ?_)
  rintro _ h4 hone s4
  (have nn := (s4).1; try simp only [AHeap.n_push, AHeap.n_put] at nn)
  have gR4 := s4.get gR
  have gB4 := s4.get gB
  have I4 := I.to s4
  rcases hone with ⟨hW, rfl⟩ | ⟨hW, t, rfl, hth, hok, hto⟩
  · rw [parse_none ne hW] at hp
    simp only [pgo, Bool.false_eq_true, if_false] at hp
    rw [hp]
    (refine Go.run (g:=?_))
    refine Go.fin (.inr rfl) (.cellN (b := h.n + 1) (off := 0) rfl inferInstance (by (first | assumption | exact AHeap.get_push_same _ _ | ((repeat first | exact AHeap.get_push_same _ _ | assumption | refine get_push_lt ?_ | exact AHeap.get_put_same _ (by first | omega | (simp only [AHeap.n_push, AHeap.n_put]; omega)) _ | exact get_put_self (by assumption) | apply get_put_self | refine get_put_other (by first | omega | (simp only [AHeap.n_push, AHeap.n_put]; omega)) ?_ | refine Same.get (by assumption) ?_ | refine Keeps.get (by assumption) ?_ (fun hi => by have hx := Own.out (by assumption) hi; omega)) ; fail_if_success focus skip) | fail)) (by first | exact Nat.le_refl _ | (simp [setL, cellsL]; fail_if_success focus skip) | (simp; omega)) rfl (.tmp rfl .nil)) ?_
    exact ⟨c.pd s.D s.A, rfl⟩
  rw [parse_some hW, ← hth, List.drop_drop] at hp
  have hW1 := hW.2.2.1
  have hW2 := up4_le (tN (zs.drop at_))
  have hW3 := hW.2.1
  rw [List.length_drop] at hW1
  generalize up4 (tN (zs.drop at_)) = u at *
  have htl : t.z.length ≤ zs.length := by
    have := thing_len (chunk := false) hW
    rw [← hth] at this
    have : t.z.length = tN (zs.drop at_) - 4 := this
    omega
  obtain ⟨tk, tf, tz, ta, tcap⟩ := t
  simp only [TV.thing] at hp htl hok hto ⊢
  simp only [TV.ok] at hok
  simp only [pgo] at hp
  have al := I.al
  by_cases k5 : tk = 5
  · simp only [if_pos k5] at hp
    by_cases z4 : tz.length = 4
    case neg =>
      simp only [if_neg (show ¬ (tz.length = 4 ∧ s.addrs.length ≠ 3) from fun x => z4 x.1)] at hp
      rw [hp]
      (refine Go.run (g:=?_))
      refine Go.fin (.inr rfl) (.cellN (b := h.n + 1) (off := 0) rfl inferInstance (by (first | assumption | exact AHeap.get_push_same _ _ | ((repeat first | exact AHeap.get_push_same _ _ | assumption | refine get_push_lt ?_ | exact AHeap.get_put_same _ (by first | omega | (simp only [AHeap.n_push, AHeap.n_put]; omega)) _ | exact get_put_self (by assumption) | apply get_put_self | refine get_put_other (by first | omega | (simp only [AHeap.n_push, AHeap.n_put]; omega)) ?_ | refine Same.get (by assumption) ?_ | refine Keeps.get (by assumption) ?_ (fun hi => by have hx := Own.out (by assumption) hi; omega)) ; fail_if_success focus skip) | fail)) (by first | exact Nat.le_refl _ | (simp [setL, cellsL]; fail_if_success focus skip) | (simp; omega)) rfl (.tmp rfl .nil)) ?_
      exact ⟨c.pd s.D s.A, rfl⟩
    by_cases a3 : s.addrs.length = 3
    case pos =>
      simp only [if_neg (show ¬ (tz.length = 4 ∧ s.addrs.length ≠ 3) from fun x => x.2 a3)] at hp
      rw [hp]
      have a3' : s.A.n = 3 := by rw [← I.al]; exact a3
      (refine Go.run (g:=?_))
      refine Go.fin (.inr rfl) (.cellN (b := h.n + 1) (off := 0) rfl inferInstance (by (first | assumption | exact AHeap.get_push_same _ _ | ((repeat first | exact AHeap.get_push_same _ _ | assumption | refine get_push_lt ?_ | exact AHeap.get_put_same _ (by first | omega | (simp only [AHeap.n_push, AHeap.n_put]; omega)) _ | exact get_put_self (by assumption) | apply get_put_self | refine get_put_other (by first | omega | (simp only [AHeap.n_push, AHeap.n_put]; omega)) ?_ | refine Same.get (by assumption) ?_ | refine Keeps.get (by assumption) ?_ (fun hi => by have hx := Own.out (by assumption) hi; omega)) ; fail_if_success focus skip) | fail)) (by first | exact Nat.le_refl _ | (simp [setL, cellsL]; fail_if_success focus skip) | (simp; omega)) rfl (.tmp rfl .nil)) ?_
      exact ⟨c.pd s.D s.A, rfl⟩
    simp only [if_pos (show tz.length = 4 ∧ s.addrs.length ≠ 3 from ⟨z4, a3⟩)] at hp
    have a3' : s.A.n ≠ 3 := by rw [← I.al]; exact a3
    (refine Go.run (g:=?_))
    refine Go.name ?_
    intro h5 e5
    have s5 : Same h4 h5 := by subst e5; exact ((Same.refl h4).push _).put (Nat.le_refl _) _
    have n5 : h5.n = h4.n + 1 := by subst e5; rfl
    have g5 : h5.get h4.n = some (.cells [.int .u16 tk, .int .u8 tf, .slice ta tz.length tcap] 61) := by subst e5; exact AHeap.get_put_same _ (by simp) _
    clear e5
    have gR5 := s5.get gR4
    have gB5 := s5.get gB4
    have I5 := I4.to s5
    have m5 := I5.n
    have hok5 := hok.same s5
    refine Go.loud (by kernel_rfl) rfl ?_
    (refine Go.runL (g:=?_))
    refine GoL.callS rfl rfl rfl rfl rfl rfl rfl (((rn_spec ta tcap tz 0 4 (by decide) (by decide) (by omega) _ hok5).argA).mono ?_)
    rintro _ h6 rfl s6
    rw [rn_le (show 0 + 4 ≤ tz.length by omega), show nAt tz 0 4 = beNum tz from by unfold nAt; rw [List.drop_zero, List.take_of_length_le (by omega)]]
    have x4 : beNum tz < 4294967296 := beNum_lt_of (k := 4) (by omega) rfl
    generalize beNum tz = X at *
    (refine Go.runL (g:=?_))
    refine GoL.buildRo (c := w32s [X]) rfl rfl rfl rfl rfl (by decide) (by rfl) (by rfl) ?_
    intro b8 h8 hb8 rb8 ob8 s8 n8
    have s68 := s6.trans s8
    have m8 := s68.1
    have I8 := I5.to s68
    have oA := I.oA
    refine GoL.appendV rfl rfl rfl rfl rfl rfl I8.sv hb8 (fun j hj => .inr (by have := oA _ hj; omega)) (by omega) (by omega) (by rfl) ?_
    intro b9 c9 h9 rd wr hwr hrd hs9 k9 o9
    have m9 := k9.1
    have nb : ∀ j, j < h.n + 2 → j ∉ blk s.A.a := fun j hj hm => by have := oA _ hm; omega
    have g9 := k9.get (s68.get gB5) (nb _ (by omega))
    have g19 := k9.get (s68.get gR5) (nb _ (by omega))
    (refine Go.runL (g:=?_))
    refine GoL.store' rfl rfl rfl rfl rfl (hl:=rfl) (h1:=rfl) (h3:=rfl) (g:=?_)
    refine GoL.end_ (hl := by (simp only [List.nil_append, List.cons_append]); repeat (first | exact loudP.nil | refine loudP.none ?_ | refine loudP.new (fun _ hb => absurd hb List.not_mem_nil) ?_ | refine loudP.row (by repeat (first | exact loudRowP.nil | refine loudRowP.none ?_ | refine loudRowP.bef (by decide +kernel) ?_)) ?_)) ?_
    (refine Go.run (g:=?_))
    have ob9 : Own (h.n + 2) b9 := oA.app (by omega) o9
    refine Go.name ?_
    intro h10 e10
    have g10 : h10.get h.n = some (.cells (c.pd s.D ⟨b9, s.A.n + 1, c9⟩).cs 43) := by subst e10; exact get_put_self g9
    have I10 : RInv h c ⟨s.D, ⟨b9, s.A.n + 1, c9⟩, s.addrs ++ [X], s.data, s.n, false⟩ h10 := by
      refine ⟨by subst e10; exact (I8.same.ownO k9 oA (by omega)).put (Nat.le_refl _) _, by subst e10; simp only [AHeap.n_put]; omega, g10, by subst e10; exact get_put_other (by omega) g19, ?_, by simp [al], fun x hx => (List.mem_append.1 hx).elim (I.ab x) (fun y => by simp only [List.mem_singleton] at y; subst y; exact x4), I.dl, ?_, ob9, I.oD, fun j hj hm => (o9 j hm).elim (I.DA j hj) (fun y => by have := I8.dv.lt j hj; omega)⟩
      · rw [show w32s (s.addrs ++ [X]) = w32s s.addrs ++ w32s [X] from by simp [w32s]]
        exact hs9.put_eq e10 (fun hm => by have := ob9 _ hm; omega)
      · subst e10
        exact (I8.dv.keeps k9 I.DA).put (fun hm => by have := I.oD _ hm; omega) _
    exact Go.again (at_ + u, h10, ⟨s.D, ⟨b9, s.A.n + 1, c9⟩, s.addrs ++ [X], s.data, s.n, false⟩) ⟨by simp only; omega, I10, by simp; omega, by simp only; omega, hp⟩ (by simp only; omega) ⟨rfl, rfl, rfl, rfl, rfl, trivial⟩ rfl rfl
  simp only [if_neg k5] at hp
  by_cases k7 : tk = 7
  · simp only [if_pos k7] at hp
    by_cases q1 : c.k = 1
    case pos =>
      simp only [if_pos (show c.k = 1 ∨ s.n ≠ 0 ∨ tz.length = 0 from .inl q1)] at hp
      rw [hp]
      (refine Go.run (g:=?_))
      refine Go.fin (.inr rfl) (.cellN (b := h.n + 1) (off := 0) rfl inferInstance (by (first | assumption | exact AHeap.get_push_same _ _ | ((repeat first | exact AHeap.get_push_same _ _ | assumption | refine get_push_lt ?_ | exact AHeap.get_put_same _ (by first | omega | (simp only [AHeap.n_push, AHeap.n_put]; omega)) _ | exact get_put_self (by assumption) | apply get_put_self | refine get_put_other (by first | omega | (simp only [AHeap.n_push, AHeap.n_put]; omega)) ?_ | refine Same.get (by assumption) ?_ | refine Keeps.get (by assumption) ?_ (fun hi => by have hx := Own.out (by assumption) hi; omega)) ; fail_if_success focus skip) | fail)) (by first | exact Nat.le_refl _ | (simp [setL, cellsL]; fail_if_success focus skip) | (simp; omega)) rfl (.tmp rfl .nil)) ?_
      exact ⟨c.pd s.D s.A, rfl⟩
    by_cases q2 : s.n = 0
    case neg =>
      simp only [if_pos (show c.k = 1 ∨ s.n ≠ 0 ∨ tz.length = 0 from .inr (.inl q2))] at hp
      rw [hp]
      (refine Go.run (g:=?_))
      refine Go.fin (.inr rfl) (.cellN (b := h.n + 1) (off := 0) rfl inferInstance (by (first | assumption | exact AHeap.get_push_same _ _ | ((repeat first | exact AHeap.get_push_same _ _ | assumption | refine get_push_lt ?_ | exact AHeap.get_put_same _ (by first | omega | (simp only [AHeap.n_push, AHeap.n_put]; omega)) _ | exact get_put_self (by assumption) | apply get_put_self | refine get_put_other (by first | omega | (simp only [AHeap.n_push, AHeap.n_put]; omega)) ?_ | refine Same.get (by assumption) ?_ | refine Keeps.get (by assumption) ?_ (fun hi => by have hx := Own.out (by assumption) hi; omega)) ; fail_if_success focus skip) | fail)) (by first | exact Nat.le_refl _ | (simp [setL, cellsL]; fail_if_success focus skip) | (simp; omega)) rfl (.tmp rfl .nil)) ?_
      exact ⟨c.pd s.D s.A, rfl⟩
    by_cases q3 : tz.length = 0
    case pos =>
      simp only [if_pos (show c.k = 1 ∨ s.n ≠ 0 ∨ tz.length = 0 from .inr (.inr q3))] at hp
      rw [hp]
      (refine Go.run (g:=?_))
      refine Go.fin (.inr rfl) (.cellN (b := h.n + 1) (off := 0) rfl inferInstance (by (first | assumption | exact AHeap.get_push_same _ _ | ((repeat first | exact AHeap.get_push_same _ _ | assumption | refine get_push_lt ?_ | exact AHeap.get_put_same _ (by first | omega | (simp only [AHeap.n_push, AHeap.n_put]; omega)) _ | exact get_put_self (by assumption) | apply get_put_self | refine get_put_other (by first | omega | (simp only [AHeap.n_push, AHeap.n_put]; omega)) ?_ | refine Same.get (by assumption) ?_ | refine Keeps.get (by assumption) ?_ (fun hi => by have hx := Own.out (by assumption) hi; omega)) ; fail_if_success focus skip) | fail)) (by first | exact Nat.le_refl _ | (simp [setL, cellsL]; fail_if_success focus skip) | (simp; omega)) rfl (.tmp rfl .nil)) ?_
      exact ⟨c.pd s.D s.A, rfl⟩
    simp only [if_neg (show ¬ (c.k = 1 ∨ s.n ≠ 0 ∨ tz.length = 0) by omega)] at hp
    (refine Go.run (g:=?_))
    refine Go.name ?_
    intro h10 e10
    have hlt := hok.lt
    have s5 : Same h4 ((h4.push (.cells [.int .u16 (0 : Nat), .int .u8 (0 : Nat), .slice none 0 0] 61)).put h4.n (some (.cells [.int .u16 tk, .int .u8 tf, .slice ta tz.length tcap] 61))) := ((Same.refl h4).push _).put (Nat.le_refl _) _
    have I5 := I4.to s5
    have g10 : h10.get h.n = some (.cells (c.pd ⟨ta, tz.length, tcap⟩ s.A).cs 43) := by subst e10; exact get_put_self (s5.get gB4)
    have nbA : h.n ∉ blk s.A.a := fun hm => by have := I.oA _ hm; omega
    have nbT : h.n ∉ blk ta := fun hm => by have := hto _ hm; omega
    have I10 : RInv h c ⟨⟨ta, tz.length, tcap⟩, s.A, s.addrs, tz, s.n + 1, false⟩ h10 :=
      ⟨by subst e10; exact I5.same.put (Nat.le_refl _) _, by subst e10; simp only [AHeap.n_put, AHeap.n_push]; omega, g10, by subst e10; exact get_put_other (by omega) (s5.get gR4), by subst e10; exact I5.sv.put nbA _, I.al, I.ab, rfl, by subst e10; exact (hok.same s5).put nbT _, I.oA, (fun j hj => by have := hto j hj; omega), fun j hj hm => by have := hto j hj; have := I.sv.lt j hm; omega⟩
    exact Go.again (at_ + u, h10, ⟨⟨ta, tz.length, tcap⟩, s.A, s.addrs, tz, s.n + 1, false⟩) ⟨by simp only; omega, I10, l3, by simp only; omega, hp⟩ (by simp only; omega) ⟨rfl, rfl, rfl, rfl, rfl, trivial⟩ rfl rfl
  simp only [if_neg k7] at hp
  by_cases kb : tk < 32768
  · simp only [if_pos kb] at hp
    rw [hp]
    have s5 : Same h4 ((h4.push (.cells [.int .u16 (0 : Nat), .int .u8 (0 : Nat), .slice none 0 0] 61)).put h4.n (some (.cells [.int .u16 tk, .int .u8 tf, .slice ta tz.length tcap] 61))) := ((Same.refl h4).push _).put (Nat.le_refl _) _
    have I5 := I4.to s5
    (refine Go.run (g:=?_))
    refine Go.fin (.inr rfl) (.cellN (b := h.n + 1) (off := 0) rfl inferInstance (by (first | assumption | exact AHeap.get_push_same _ _ | ((repeat first | exact AHeap.get_push_same _ _ | assumption | refine get_push_lt ?_ | exact AHeap.get_put_same _ (by first | omega | (simp only [AHeap.n_push, AHeap.n_put]; omega)) _ | exact get_put_self (by assumption) | apply get_put_self | refine get_put_other (by first | omega | (simp only [AHeap.n_push, AHeap.n_put]; omega)) ?_ | refine Same.get (by assumption) ?_ | refine Keeps.get (by assumption) ?_ (fun hi => by have hx := Own.out (by assumption) hi; omega)) ; fail_if_success focus skip) | fail)) (by first | exact Nat.le_refl _ | (simp [setL, cellsL]; fail_if_success focus skip) | (simp; omega)) rfl (.tmp rfl .nil)) ?_
    exact ⟨s.D, s.A, rfl, I5.sv.put (fun hm => by have := I.oA _ hm; omega) _, I.al, I.ab, I.dl, I5.dv.put (fun hm => by have := I.oD _ hm; omega) _, I.oA.mono (by omega), I.oD.mono (by omega)⟩
  · simp only [if_neg kb] at hp
    (refine Go.run (g:=?_))
    refine Go.name ?_
    intro h10 e10
    have s5 : Same h4 h10 := by subst e10; exact ((Same.refl h4).push _).put (Nat.le_refl _) _
    exact Go.again (at_ + u, h10, s) ⟨by simp only; omega, I4.to s5, l3, by simp only; omega, hp⟩ (by simp only; omega) ⟨rfl, rfl, rfl, rfl, rfl, trivial⟩ rfl rfl
end Go.Proofs.Ytjpegoigipbmiaa
namespace Go.Proofs.Ytjpegoigipbmiaa
set_option maxRecDepth 100000
attribute [local irreducible] Go GoR GoL
structure RT (h H : AHeap) (c : Ck) : Prop where
  same : Same h H
  n : h.n + 3 ≤ H.n
  res : H.get (h.n + 1) = some (.cells (Ck.none 0).cs 43)
  chk : H.get (h.n + 2) = some (.cells c.cs 43)
theorem RT.to {h H H' : AHeap} {c : Ck} (T : RT h H c) (s : Same H H') : RT h H' c := ⟨T.same.trans s, Nat.le_trans T.n s.1, s.get T.res, s.get T.chk⟩
theorem RT.put_eq {h H H' : AHeap} {c : Ck} (c' : Ck) (T : RT h H c) (e : H' = H.put (h.n + 2) (some (.cells c'.cs 43))) : RT h H' c' := by
  subst e
  have hn := T.n
  exact ⟨T.same.put (by omega) _, by simp; omega, get_put_other (by omega) T.res, get_put_self T.chk⟩
theorem RT.app {h H H' : AHeap} {c : Ck} {b : Option Addr} (T : RT h H c) (k : Keeps (blk b) H H') (o : Own (h.n + 3) b) : RT h H' c := by
  have q : ∀ i, i < h.n + 3 → i ∉ blk b := fun i hi hm => by have := o _ hm; omega
  exact ⟨T.same.ownO k o (by omega), Nat.le_trans T.n k.1, k.get T.res (q _ (by omega)), k.get T.chk (q _ (by omega))⟩
theorem may_D {c : Ck} {gs : List (Nat × Nat)} (hk : c.k = 0) (h : c.D.n = 0) : may c gs = false := by
  unfold may
  rw [decide_eq_false (fun hm => hm.2.2.2.2 ⟨.inl hk, h⟩), Bool.false_and]
set_option maxHeartbeats 16000000 in
theorem rtake_own (k f : Nat) (a : Option Addr) (cap : Nat) (zs : List UInt8) (hk : k < 65536) (hf : f < 256) (hl : zs.length ≤ 1000000) (h : AHeap) (hz : Rv Try.prog h 1 a zs.length cap (zs.map bv)) : CallS Try.prog [] 36 [tlvV k f a zs.length cap] h fun v h' => TakeO h.n h' v (tkP k f zs) := by
  unfold tkP
  rcases Nat.lt_or_ge 255 k with hk1 | hk1
  · rw [if_pos hk1]
    (refine CallS.of1 Try.func36 rfl Try.ntmps36 Try.results36 rfl ?_)
    (refine Go.run (g:=?_))
    refine Go.fin (.inr rfl) (.cellN (b := h.n + 1) (off := 0) rfl inferInstance (by (first | assumption | exact AHeap.get_push_same _ _ | ((repeat first | exact AHeap.get_push_same _ _ | assumption | refine get_push_lt ?_ | exact AHeap.get_put_same _ (by first | omega | (simp only [AHeap.n_push, AHeap.n_put]; omega)) _ | exact get_put_self (by assumption) | apply get_put_self | refine get_put_other (by first | omega | (simp only [AHeap.n_push, AHeap.n_put]; omega)) ?_ | refine Same.get (by assumption) ?_ | refine Keeps.get (by assumption) ?_ (fun hi => by have hx := Own.out (by assumption) hi; omega)) ; fail_if_success focus skip) | fail)) (by first | exact Nat.le_refl _ | (simp [setL, cellsL]; fail_if_success focus skip) | (simp; omega)) rfl (.tmp rfl .nil)) ?_
    rfl
  rw [if_neg (by omega)]
  have hk8 : k < 256 := by omega
  have hkm : k % 256 = k := Nat.mod_eq_of_lt hk8
  (refine CallS.of1 Try.func36 rfl Try.ntmps36 Try.results36 rfl ?_)
  (iterate 26 (first|refine GoR.end ?_|(refine GoR.gd rfl ?_;first|refine GoR.wanted' rfl rfl rfl rfl (g:=?_)|refine GoR.unwanted' rfl rfl rfl rfl (hd:=rfl) (hN:=rfl) (g:=?_)|refine GoR.unwantedU rfl rfl rfl rfl rfl rfl ?_)|(refine GoR.kk 0 rfl ?_;first|refine GoR.move rfl rfl rfl rfl rfl ?_|refine GoR.assign rfl rfl rfl rfl rfl ?_)|(refine GoR.kk 1 rfl ?_;first|refine GoR.load' rfl rfl rfl rfl rfl (g:=?_)|refine GoR.loadA' rfl rfl rfl rfl rfl (hv:=rfl) (g:=?_)|refine GoR.loadV' rfl rfl rfl rfl rfl (g:=?_)|refine GoR.loadVN' rfl rfl rfl rfl rfl (g:=?_))|(refine GoR.kk 2 rfl ?_;first|refine GoR.store' rfl rfl rfl rfl rfl (hl:=rfl) (h1:=rfl) (h3:=rfl) (g:=?_))|(refine GoR.kk 3 rfl ?_;first|refine GoR.fieldAddr rfl rfl rfl rfl rfl ?_|refine GoR.indexN' rfl rfl rfl rfl rfl rfl (g:=?_)|refine GoR.indexNs' rfl rfl rfl rfl rfl rfl (g:=?_)|refine GoR.indexV' rfl rfl rfl rfl rfl rfl (g:=?_)|refine GoR.indexA' rfl rfl rfl rfl rfl rfl (g:=?_)|refine GoR.fieldV' rfl rfl rfl rfl rfl (g:=?_))|(refine GoR.kk 4 rfl ?_;first|refine GoR.eq rfl rfl rfl rfl rfl rfl ?_|refine GoR.ne rfl rfl rfl rfl rfl rfl ?_|refine GoR.lt rfl rfl rfl rfl rfl rfl ?_|refine GoR.le rfl rfl rfl rfl rfl rfl ?_|refine GoR.gt rfl rfl rfl rfl rfl rfl ?_|refine GoR.ge rfl rfl rfl rfl rfl rfl ?_|refine GoR.addN' rfl rfl rfl rfl rfl rfl (g:=?_)|refine GoR.subN' rfl rfl rfl rfl rfl rfl (g:=?_)|refine GoR.add' rfl rfl rfl rfl rfl rfl (g:=?_)|refine GoR.sub' rfl rfl rfl rfl rfl rfl (g:=?_)|refine GoR.addM' rfl rfl rfl rfl rfl rfl (g:=?_)|refine GoR.subM' rfl rfl rfl rfl rfl rfl (g:=?_)|refine GoR.mulM' rfl rfl rfl rfl rfl rfl (g:=?_)|refine GoR.shrN rfl rfl rfl rfl rfl rfl rfl ?_|refine GoR.structEq rfl rfl rfl rfl rfl rfl (by rfl) (by rfl) ?_|refine GoR.structNe rfl rfl rfl rfl rfl rfl (by rfl) (by rfl) ?_|refine GoR.strEq rfl rfl rfl rfl rfl rfl ?_|refine GoR.strNe rfl rfl rfl rfl rfl rfl ?_|refine GoR.remN' rfl rfl rfl rfl rfl rfl (g:=?_)|refine GoR.quoN' rfl rfl rfl rfl rfl rfl (g:=?_)|refine GoR.shlN' rfl rfl rfl rfl rfl rfl rfl (g:=?_)|refine GoR.orN' rfl rfl rfl rfl rfl rfl (g:=?_))|(refine GoR.kk 5 rfl ?_;first|refine GoR.len rfl rfl rfl rfl rfl ?_|refine GoR.lenStr rfl rfl rfl rfl rfl ?_|refine GoR.capB rfl rfl rfl rfl rfl ?_)|(refine GoR.kk 7 rfl ?_;first|refine GoR.pickE' rfl rfl rfl rfl rfl (hx:=rfl) (hy:=rfl) (g:=?_)|refine GoR.pickN' rfl rfl rfl rfl rfl (hx:=rfl) (hy:=rfl) (g:=?_)|refine GoR.pickB rfl rfl rfl rfl rfl rfl rfl ?_)|(refine GoR.kk 8 rfl ?_;first|refine GoR.boxA rfl rfl rfl rfl rfl ?_|refine GoR.boxS rfl rfl rfl rfl rfl rfl ?_|refine GoR.alloc rfl rfl rfl rfl ?_)|(refine GoR.kk 9 rfl ?_;first|refine GoR.strV' rfl rfl rfl rfl rfl (g:=?_)|refine GoR.conv_u8 rfl rfl rfl rfl rfl ?_|refine GoR.convW' rfl rfl rfl rfl rfl (g:=?_)|refine GoR.conv_u16 rfl rfl rfl rfl rfl ?_|refine GoR.conv_u32 rfl rfl rfl rfl rfl ?_)|(refine GoR.kk 10 rfl ?_;first|refine GoR.build' rfl rfl rfl rfl rfl rfl (g:=?_))|(refine GoR.kk 11 rfl ?_;first|refine GoR.extract rfl rfl rfl rfl rfl rfl ?_|refine GoR.not rfl rfl rfl rfl rfl ?_|refine GoR.nilCheck rfl rfl rfl rfl rfl ?_|refine GoR.nilCheckF rfl rfl rfl rfl rfl ?_|refine GoR.makeFunc rfl rfl rfl rfl rfl rfl ?_)|(refine Go.kk 0 rfl ?_;refine Go.seq ?_)|(refine Go.kk 1 rfl ?_;refine Go.region (by kernel_rfl) rfl ?_)|(refine Go.kk 2 rfl ?_;refine Go.drawnQ rfl (by kernel_rfl) rfl ?_)|(refine Go.kk 3 rfl ?_;first|refine Go.cond_t' rfl (g:=?_)|refine Go.cond_f' rfl (g:=?_))|(refine Go.kk 4 rfl ?_;refine Go.block ?_)|(refine Go.kk 5 rfl ?_;first|refine Go.skip ?_|refine Go.ret ?_|refine Go.exit ?_|refine Go.scope ?_)|refine Go.leave_normal ?_|refine Go.leave_same ?_|refine Go.leave_ret ?_|refine Go.ret_code ?_|refine Go.exit_code ?_|refine Go.leave_other rfl ?_|refine Go.sc_normal ?_|refine Go.sc_ret ?_|refine Go.sc_exit ?_|refine Go.exit_back ?_|refine Go.ret_back ?_))
  simp only [hkm, AHeap.n_push, AHeap.n_put]
  refine Go.name ?_
  intro h5 e5
  have T5 : RT h h5 (⟨k, f, 0, 0, 0, 0, 0, 0, 0, 0, ⟨none, 0, 0⟩, ⟨none, 0, 0⟩, ⟨none, 0, 0⟩, ⟨none, 0, 0⟩, ⟨none, 0, 0⟩⟩ : Ck) := by
    refine ⟨by subst e5; exact ((((Same.refl h).push _).push _).push _).put (by omega) _, by subst e5; exact Nat.le_refl _, ?_, ?_⟩
    all_goals
      subst e5
      (first | assumption | exact AHeap.get_push_same _ _ | ((repeat first | exact AHeap.get_push_same _ _ | assumption | refine get_push_lt ?_ | exact AHeap.get_put_same _ (by first | omega | (simp only [AHeap.n_push, AHeap.n_put]; omega)) _ | exact get_put_self (by assumption) | apply get_put_self | refine get_put_other (by first | omega | (simp only [AHeap.n_push, AHeap.n_put]; omega)) ?_ | refine Same.get (by assumption) ?_ | refine Keeps.get (by assumption) ?_ (fun hi => by have hx := Own.out (by assumption) hi; omega)) ; fail_if_success focus skip) | fail)
  have gT5 : h5.get h.n = some (.cells [.int .u16 k, .int .u8 f, .slice a zs.length cap] 61) := by subst e5; (first | assumption | exact AHeap.get_push_same _ _ | ((repeat first | exact AHeap.get_push_same _ _ | assumption | refine get_push_lt ?_ | exact AHeap.get_put_same _ (by first | omega | (simp only [AHeap.n_push, AHeap.n_put]; omega)) _ | exact get_put_self (by assumption) | apply get_put_self | refine get_put_other (by first | omega | (simp only [AHeap.n_push, AHeap.n_put]; omega)) ?_ | refine Same.get (by assumption) ?_ | refine Keeps.get (by assumption) ?_ (fun hi => by have hx := Own.out (by assumption) hi; omega)) ; fail_if_success focus skip) | fail)
  clear e5
  have gC5 := T5.chk
  unfold Ck.cs at gC5
  have m5 := T5.n
  have hz5 := hz.same T5.same
  (iterate 17 (first|refine GoR.end ?_|(refine GoR.gd rfl ?_;first|refine GoR.wanted' rfl rfl rfl rfl (g:=?_)|refine GoR.unwanted' rfl rfl rfl rfl (hd:=rfl) (hN:=rfl) (g:=?_)|refine GoR.unwantedU rfl rfl rfl rfl rfl rfl ?_)|(refine GoR.kk 0 rfl ?_;first|refine GoR.move rfl rfl rfl rfl rfl ?_|refine GoR.assign rfl rfl rfl rfl rfl ?_)|(refine GoR.kk 1 rfl ?_;first|refine GoR.load' rfl rfl rfl rfl rfl (g:=?_)|refine GoR.loadA' rfl rfl rfl rfl rfl (hv:=rfl) (g:=?_)|refine GoR.loadV' rfl rfl rfl rfl rfl (g:=?_)|refine GoR.loadVN' rfl rfl rfl rfl rfl (g:=?_))|(refine GoR.kk 2 rfl ?_;first|refine GoR.store' rfl rfl rfl rfl rfl (hl:=rfl) (h1:=rfl) (h3:=rfl) (g:=?_))|(refine GoR.kk 3 rfl ?_;first|refine GoR.fieldAddr rfl rfl rfl rfl rfl ?_|refine GoR.indexN' rfl rfl rfl rfl rfl rfl (g:=?_)|refine GoR.indexNs' rfl rfl rfl rfl rfl rfl (g:=?_)|refine GoR.indexV' rfl rfl rfl rfl rfl rfl (g:=?_)|refine GoR.indexA' rfl rfl rfl rfl rfl rfl (g:=?_)|refine GoR.fieldV' rfl rfl rfl rfl rfl (g:=?_))|(refine GoR.kk 4 rfl ?_;first|refine GoR.eq rfl rfl rfl rfl rfl rfl ?_|refine GoR.ne rfl rfl rfl rfl rfl rfl ?_|refine GoR.lt rfl rfl rfl rfl rfl rfl ?_|refine GoR.le rfl rfl rfl rfl rfl rfl ?_|refine GoR.gt rfl rfl rfl rfl rfl rfl ?_|refine GoR.ge rfl rfl rfl rfl rfl rfl ?_|refine GoR.addN' rfl rfl rfl rfl rfl rfl (g:=?_)|refine GoR.subN' rfl rfl rfl rfl rfl rfl (g:=?_)|refine GoR.add' rfl rfl rfl rfl rfl rfl (g:=?_)|refine GoR.sub' rfl rfl rfl rfl rfl rfl (g:=?_)|refine GoR.addM' rfl rfl rfl rfl rfl rfl (g:=?_)|refine GoR.subM' rfl rfl rfl rfl rfl rfl (g:=?_)|refine GoR.mulM' rfl rfl rfl rfl rfl rfl (g:=?_)|refine GoR.shrN rfl rfl rfl rfl rfl rfl rfl ?_|refine GoR.structEq rfl rfl rfl rfl rfl rfl (by rfl) (by rfl) ?_|refine GoR.structNe rfl rfl rfl rfl rfl rfl (by rfl) (by rfl) ?_|refine GoR.strEq rfl rfl rfl rfl rfl rfl ?_|refine GoR.strNe rfl rfl rfl rfl rfl rfl ?_|refine GoR.remN' rfl rfl rfl rfl rfl rfl (g:=?_)|refine GoR.quoN' rfl rfl rfl rfl rfl rfl (g:=?_)|refine GoR.shlN' rfl rfl rfl rfl rfl rfl rfl (g:=?_)|refine GoR.orN' rfl rfl rfl rfl rfl rfl (g:=?_))|(refine GoR.kk 5 rfl ?_;first|refine GoR.len rfl rfl rfl rfl rfl ?_|refine GoR.lenStr rfl rfl rfl rfl rfl ?_|refine GoR.capB rfl rfl rfl rfl rfl ?_)|(refine GoR.kk 7 rfl ?_;first|refine GoR.pickE' rfl rfl rfl rfl rfl (hx:=rfl) (hy:=rfl) (g:=?_)|refine GoR.pickN' rfl rfl rfl rfl rfl (hx:=rfl) (hy:=rfl) (g:=?_)|refine GoR.pickB rfl rfl rfl rfl rfl rfl rfl ?_)|(refine GoR.kk 8 rfl ?_;first|refine GoR.boxA rfl rfl rfl rfl rfl ?_|refine GoR.boxS rfl rfl rfl rfl rfl rfl ?_|refine GoR.alloc rfl rfl rfl rfl ?_)|(refine GoR.kk 9 rfl ?_;first|refine GoR.strV' rfl rfl rfl rfl rfl (g:=?_)|refine GoR.conv_u8 rfl rfl rfl rfl rfl ?_|refine GoR.convW' rfl rfl rfl rfl rfl (g:=?_)|refine GoR.conv_u16 rfl rfl rfl rfl rfl ?_|refine GoR.conv_u32 rfl rfl rfl rfl rfl ?_)|(refine GoR.kk 10 rfl ?_;first|refine GoR.build' rfl rfl rfl rfl rfl rfl (g:=?_))|(refine GoR.kk 11 rfl ?_;first|refine GoR.extract rfl rfl rfl rfl rfl rfl ?_|refine GoR.not rfl rfl rfl rfl rfl ?_|refine GoR.nilCheck rfl rfl rfl rfl rfl ?_|refine GoR.nilCheckF rfl rfl rfl rfl rfl ?_|refine GoR.makeFunc rfl rfl rfl rfl rfl rfl ?_)|(refine Go.kk 0 rfl ?_;refine Go.seq ?_)|(refine Go.kk 1 rfl ?_;refine Go.region (by kernel_rfl) rfl ?_)|(refine Go.kk 2 rfl ?_;refine Go.drawnQ rfl (by kernel_rfl) rfl ?_)|(refine Go.kk 3 rfl ?_;first|refine Go.cond_t' rfl (g:=?_)|refine Go.cond_f' rfl (g:=?_))|(refine Go.kk 4 rfl ?_;refine Go.block ?_)|(refine Go.kk 5 rfl ?_;first|refine Go.skip ?_|refine Go.ret ?_|refine Go.exit ?_|refine Go.scope ?_)|refine Go.leave_normal ?_|refine Go.leave_same ?_|refine Go.leave_ret ?_|refine Go.ret_code ?_|refine Go.exit_code ?_|refine Go.leave_other rfl ?_|refine Go.sc_normal ?_|refine Go.sc_ret ?_|refine Go.sc_exit ?_|refine Go.exit_back ?_|refine Go.ret_back ?_))
  refine Go.join1 (α := AHeap × Ck × CD × Bool) (fun x => [(2, .pointer (some ⟨h.n + 1, 0, none⟩)), (4, .pointer (some ⟨h.n + 2, 0, none⟩)), (6, .bool x.2.2.2)]) (fun _ => []) (fun x => x.1)
    (fun x => RT h x.1 x.2.1 ∧ (x.2.2.2 = true → COk x.1 x.2.1 x.2.2.1 ∧ CApart (h.n + 3) x.2.1 x.2.2.1) ∧ finR x.2.1 x.2.2.1 (!x.2.2.2) [] = (rawP k f zs).filter mayP) ?_ ?_
  · rcases (show k = 0 ∨ k = 1 ∨ k = 2 ∨ k = 3 ∨ k = 6 ∨ k = 9 ∨ k = 7 ∨ k = 8 ∨ k = 11 ∨ k = 14 ∨ (k ≠ 0 ∧ k ≠ 1 ∧ k ≠ 2 ∧ k ≠ 3 ∧ k ≠ 6 ∧ k ≠ 9 ∧ k ≠ 7 ∧ k ≠ 8 ∧ k ≠ 11 ∧ k ≠ 14) by omega) with hk0 | hk0 | hk0 | hk0 | hk0 | hk0 | hk0 | hk0 | hk0 | hk0 | ⟨k0, k1, k2, k3, k6, k9, k7, k8, k11, k14⟩
    · rcases Nat.lt_or_ge 12 zs.length with g | g
      · (refine Go.run (g:=?_))
        refine GoR.call rfl rfl rfl rfl rfl rfl rfl (((rn_spec a cap zs 0 4 (by decide) (by decide) hl _ (hz.same T5.same)).argA).mono ?_)
        rintro _ h6a rfl s6a
        have x6 := rn_lt4 zs 0
        have T6a := T5.to s6a
        have gC6a := T6a.chk
        unfold Ck.cs at gC6a
        try dsimp only at gC6a
        have m6a := T6a.n
        (refine Go.run (g:=?_))
        refine GoR.name ?_
        intro h6 e6
        have T6 := T6a.put_eq (⟨k, f, 0, 0, rn zs 0 4, 0, 0, 0, 0, 0, ⟨none, 0, 0⟩, ⟨none, 0, 0⟩, ⟨none, 0, 0⟩, ⟨none, 0, 0⟩, ⟨none, 0, 0⟩⟩ : Ck) e6
        clear e6
        have gC6 := T6.chk
        unfold Ck.cs at gC6
        try dsimp only at gC6
        have m6 := T6.n
        (refine Go.run (g:=?_))
        refine GoR.call rfl rfl rfl rfl rfl rfl rfl (((rn_spec a cap zs 4 2 (by decide) (by decide) hl _ (hz.same T6.same)).argA).mono ?_)
        rintro _ h7a rfl s7a
        have x7 := rn_lt2 zs 4
        have T7a := T6.to s7a
        have gC7a := T7a.chk
        unfold Ck.cs at gC7a
        try dsimp only at gC7a
        have m7a := T7a.n
        (refine Go.run (g:=?_))
        refine GoR.name ?_
        intro h7 e7
        have T7 := T7a.put_eq (⟨k, f, 0, 0, rn zs 0 4, 0, 0, rn zs 4 2, 0, 0, ⟨none, 0, 0⟩, ⟨none, 0, 0⟩, ⟨none, 0, 0⟩, ⟨none, 0, 0⟩, ⟨none, 0, 0⟩⟩ : Ck) e7
        clear e7
        have gC7 := T7.chk
        unfold Ck.cs at gC7
        try dsimp only at gC7
        have m7 := T7.n
        (refine Go.run (g:=?_))
        refine GoR.call rfl rfl rfl rfl rfl rfl rfl (((rn_spec a cap zs 6 2 (by decide) (by decide) hl _ (hz.same T7.same)).argA).mono ?_)
        rintro _ h8a rfl s8a
        have x8 := rn_lt2 zs 6
        have T8a := T7.to s8a
        have gC8a := T8a.chk
        unfold Ck.cs at gC8a
        try dsimp only at gC8a
        have m8a := T8a.n
        (refine Go.run (g:=?_))
        refine GoR.name ?_
        intro h8 e8
        have T8 := T8a.put_eq (⟨k, f, 0, 0, rn zs 0 4, 0, 0, rn zs 4 2, rn zs 6 2, 0, ⟨none, 0, 0⟩, ⟨none, 0, 0⟩, ⟨none, 0, 0⟩, ⟨none, 0, 0⟩, ⟨none, 0, 0⟩⟩ : Ck) e8
        clear e8
        have gC8 := T8.chk
        unfold Ck.cs at gC8
        try dsimp only at gC8
        have m8 := T8.n
        (refine Go.run (g:=?_))
        refine GoR.call rfl rfl rfl rfl rfl rfl rfl (((rn_spec a cap zs 8 4 (by decide) (by decide) hl _ (hz.same T8.same)).argA).mono ?_)
        rintro _ h9a rfl s9a
        have x9 := rn_lt4 zs 8
        have T9a := T8.to s9a
        have gC9a := T9a.chk
        unfold Ck.cs at gC9a
        try dsimp only at gC9a
        have m9a := T9a.n
        (refine Go.run (g:=?_))
        refine GoR.name ?_
        intro h9 e9
        have T9 := T9a.put_eq (⟨k, f, 0, 0, rn zs 0 4, 0, 0, rn zs 4 2, rn zs 6 2, rn zs 8 4, ⟨none, 0, 0⟩, ⟨none, 0, 0⟩, ⟨none, 0, 0⟩, ⟨none, 0, 0⟩, ⟨none, 0, 0⟩⟩ : Ck) e9
        clear e9
        have gC9 := T9.chk
        unfold Ck.cs at gC9
        try dsimp only at gC9
        have m9 := T9.n
        refine GoR.buildO (c := []) rfl rfl rfl rfl rfl (by decide) (by rfl) (by rfl) ?_
        intro bb hb vb ob sb nb
        have Tb := T9.to sb
        have mb := Tb.n
        (refine Go.run (g:=?_))
        refine GoR.bLo (l := 12) rfl rfl rfl rfl rfl rfl (hz.same Tb.same) (by omega) ?_
        intro as_ hzs hbs
        rw [List.take_of_length_le (by simp)] at hzs
        (refine Go.run (g:=?_))
        refine GoR.appendV rfl rfl rfl rfl rfl rfl vb hzs (fun j hj => .inr (by have := ob j hj; omega)) (by omega) (by omega) (List.all_eq_true.2 fun x hx => by obtain ⟨y, -, rfl⟩ := List.mem_map.1 hx; rfl) ?_
        intro bd cdd hd_ vd kd od
        rw [Nat.zero_add, List.nil_append] at vd
        have Td := Tb.app kd (ob.mono (by omega))
        have gCd := Td.chk
        unfold Ck.cs at gCd
        try dsimp only at gCd
        have md := Td.n
        have nd := kd.1
        have oD : Own (h.n + 3) bd := (ob.mono (n' := h.n + 3) (by omega)).app (by omega) od
        (refine Go.run (g:=?_))
        refine Go.name ?_
        intro he ee
        have Te := Td.put_eq (⟨k, f, 0, 0, rn zs 0 4, 0, 0, rn zs 4 2, rn zs 6 2, rn zs 8 4, ⟨bd, zs.length - 12, cdd⟩, ⟨none, 0, 0⟩, ⟨none, 0, 0⟩, ⟨none, 0, 0⟩, ⟨none, 0, 0⟩⟩ : Ck) ee
        have ve := vd.put_eq ee (fun hm => by have := oD _ hm; omega)
        clear ee
        have oke : COk he (⟨k, f, 0, 0, rn zs 0 4, 0, 0, rn zs 4 2, rn zs 6 2, rn zs 8 4, ⟨bd, zs.length - 12, cdd⟩, ⟨none, 0, 0⟩, ⟨none, 0, 0⟩, ⟨none, 0, 0⟩, ⟨none, 0, 0⟩⟩ : Ck) ⟨zs.drop 12, [], [], [], []⟩ := { COk.base he k f hk8 hf with tsn := x6, sid := x7, ssn := x8, ppid := x9, dl := by simp, dv := ve.rv }
        refine Go.joined (he, _, _, true) ⟨Te, fun _ => ⟨oke, ⟨oD, Own.nil _, Own.nil _, Own.nil _, Own.nil _, fun x hx => by cases hx⟩⟩, ?_⟩ ⟨rfl, rfl, by simp only; exact congrArg (fun t => some (Value.bool t)) (decide_eq_true (by omega)), trivial⟩ rfl rfl
        simp only [Bool.not_true]
        rw [finR_good oke]
        subst hk0
        simp only [rawP, if_pos (show 12 ≤ zs.length by omega), pcOf, PC.z, List.map_nil, rn_le (show 0 + 4 ≤ zs.length by omega), rn_le (show 4 + 2 ≤ zs.length by omega), rn_le (show 6 + 2 ≤ zs.length by omega), rn_le (show 8 + 4 ≤ zs.length by omega)]
      · (refine Go.run (g:=?_))
        refine GoR.call rfl rfl rfl rfl rfl rfl rfl (((rn_spec a cap zs 0 4 (by decide) (by decide) hl _ (hz.same T5.same)).argA).mono ?_)
        rintro _ h6a rfl s6a
        have x6 := rn_lt4 zs 0
        have T6a := T5.to s6a
        have gC6a := T6a.chk
        unfold Ck.cs at gC6a
        try dsimp only at gC6a
        have m6a := T6a.n
        (refine Go.run (g:=?_))
        refine GoR.name ?_
        intro h6 e6
        have T6 := T6a.put_eq (⟨k, f, 0, 0, rn zs 0 4, 0, 0, 0, 0, 0, ⟨none, 0, 0⟩, ⟨none, 0, 0⟩, ⟨none, 0, 0⟩, ⟨none, 0, 0⟩, ⟨none, 0, 0⟩⟩ : Ck) e6
        clear e6
        have gC6 := T6.chk
        unfold Ck.cs at gC6
        try dsimp only at gC6
        have m6 := T6.n
        (refine Go.run (g:=?_))
        refine GoR.call rfl rfl rfl rfl rfl rfl rfl (((rn_spec a cap zs 4 2 (by decide) (by decide) hl _ (hz.same T6.same)).argA).mono ?_)
        rintro _ h7a rfl s7a
        have x7 := rn_lt2 zs 4
        have T7a := T6.to s7a
        have gC7a := T7a.chk
        unfold Ck.cs at gC7a
        try dsimp only at gC7a
        have m7a := T7a.n
        (refine Go.run (g:=?_))
        refine GoR.name ?_
        intro h7 e7
        have T7 := T7a.put_eq (⟨k, f, 0, 0, rn zs 0 4, 0, 0, rn zs 4 2, 0, 0, ⟨none, 0, 0⟩, ⟨none, 0, 0⟩, ⟨none, 0, 0⟩, ⟨none, 0, 0⟩, ⟨none, 0, 0⟩⟩ : Ck) e7
        clear e7
        have gC7 := T7.chk
        unfold Ck.cs at gC7
        try dsimp only at gC7
        have m7 := T7.n
        (refine Go.run (g:=?_))
        refine GoR.call rfl rfl rfl rfl rfl rfl rfl (((rn_spec a cap zs 6 2 (by decide) (by decide) hl _ (hz.same T7.same)).argA).mono ?_)
        rintro _ h8a rfl s8a
        have x8 := rn_lt2 zs 6
        have T8a := T7.to s8a
        have gC8a := T8a.chk
        unfold Ck.cs at gC8a
        try dsimp only at gC8a
        have m8a := T8a.n
        (refine Go.run (g:=?_))
        refine GoR.name ?_
        intro h8 e8
        have T8 := T8a.put_eq (⟨k, f, 0, 0, rn zs 0 4, 0, 0, rn zs 4 2, rn zs 6 2, 0, ⟨none, 0, 0⟩, ⟨none, 0, 0⟩, ⟨none, 0, 0⟩, ⟨none, 0, 0⟩, ⟨none, 0, 0⟩⟩ : Ck) e8
        clear e8
        have gC8 := T8.chk
        unfold Ck.cs at gC8
        try dsimp only at gC8
        have m8 := T8.n
        (refine Go.run (g:=?_))
        refine GoR.call rfl rfl rfl rfl rfl rfl rfl (((rn_spec a cap zs 8 4 (by decide) (by decide) hl _ (hz.same T8.same)).argA).mono ?_)
        rintro _ h9a rfl s9a
        have x9 := rn_lt4 zs 8
        have T9a := T8.to s9a
        have gC9a := T9a.chk
        unfold Ck.cs at gC9a
        try dsimp only at gC9a
        have m9a := T9a.n
        (refine Go.run (g:=?_))
        refine Go.name ?_
        intro h9 e9
        have T9 := T9a.put_eq (⟨k, f, 0, 0, rn zs 0 4, 0, 0, rn zs 4 2, rn zs 6 2, rn zs 8 4, ⟨none, 0, 0⟩, ⟨none, 0, 0⟩, ⟨none, 0, 0⟩, ⟨none, 0, 0⟩, ⟨none, 0, 0⟩⟩ : Ck) e9
        clear e9
        have gC9 := T9.chk
        unfold Ck.cs at gC9
        try dsimp only at gC9
        have m9 := T9.n
        have oke : COk h9 (⟨k, f, 0, 0, rn zs 0 4, 0, 0, rn zs 4 2, rn zs 6 2, rn zs 8 4, ⟨none, 0, 0⟩, ⟨none, 0, 0⟩, ⟨none, 0, 0⟩, ⟨none, 0, 0⟩, ⟨none, 0, 0⟩⟩ : Ck) ⟨[], [], [], [], []⟩ := { COk.base h9 k f hk8 hf with tsn := x6, sid := x7, ssn := x8, ppid := x9 }
        refine Go.joined (h9, _, _, false) ⟨T9, fun _ => ⟨oke, ⟨Own.nil _, Own.nil _, Own.nil _, Own.nil _, Own.nil _, fun x hx => by cases hx⟩⟩, ?_⟩ ⟨rfl, rfl, by simp only; exact congrArg (fun t => some (Value.bool t)) (decide_eq_false (by omega)), trivial⟩ rfl rfl
        simp only [Bool.not_false]
        rw [finR_bad]
        subst hk0
        by_cases g12 : 12 ≤ zs.length
        · simp only [rawP, if_pos g12]
          refine (Option.filter_eq_none_iff.2 fun p hp hm => ?_).symm
          cases hp
          rw [show mayP _ = false from may_D rfl (by simp [ckOf]; omega)] at hm
          cases hm
        · simp [rawP, g12]
    · have hkk : k = 1 ∨ k = 2 := by omega
      have hraw : rawP k f zs = if 16 ≤ zs.length then (pgo k (parse false (zs.drop 16)).2 (parse false (zs.drop 16)).1 [] [] 0).map fun x => { PC.z k f with tag := nAt zs 0 4, rwnd := nAt zs 4 4, out := nAt zs 8 2, inn := nAt zs 10 2, tsn := nAt zs 12 4, addrs := x.1, data := x.2 } else none := by
        rcases hkk with rfl | rfl <;> rfl
      rcases Nat.lt_or_ge zs.length 16 with g | g
      · (refine Go.run (g:=?_))
        refine GoR.call rfl rfl rfl rfl rfl rfl rfl (((rn_spec a cap zs 0 4 (by decide) (by decide) hl _ (hz.same T5.same)).argA).mono ?_)
        rintro _ h6a rfl s6a
        have x6 := rn_lt4 zs 0
        have T6a := T5.to s6a
        have gC6a := T6a.chk
        unfold Ck.cs at gC6a
        try dsimp only at gC6a
        have m6a := T6a.n
        (refine Go.run (g:=?_))
        refine GoR.name ?_
        intro h6 e6
        have T6 := T6a.put_eq (⟨k, f, rn zs 0 4, 0, 0, 0, 0, 0, 0, 0, ⟨none, 0, 0⟩, ⟨none, 0, 0⟩, ⟨none, 0, 0⟩, ⟨none, 0, 0⟩, ⟨none, 0, 0⟩⟩ : Ck) e6
        clear e6
        have gC6 := T6.chk
        unfold Ck.cs at gC6
        try dsimp only at gC6
        have m6 := T6.n
        (refine Go.run (g:=?_))
        refine GoR.call rfl rfl rfl rfl rfl rfl rfl (((rn_spec a cap zs 4 4 (by decide) (by decide) hl _ (hz.same T6.same)).argA).mono ?_)
        rintro _ h7a rfl s7a
        have x7 := rn_lt4 zs 4
        have T7a := T6.to s7a
        have gC7a := T7a.chk
        unfold Ck.cs at gC7a
        try dsimp only at gC7a
        have m7a := T7a.n
        (refine Go.run (g:=?_))
        refine GoR.name ?_
        intro h7 e7
        have T7 := T7a.put_eq (⟨k, f, rn zs 0 4, rn zs 4 4, 0, 0, 0, 0, 0, 0, ⟨none, 0, 0⟩, ⟨none, 0, 0⟩, ⟨none, 0, 0⟩, ⟨none, 0, 0⟩, ⟨none, 0, 0⟩⟩ : Ck) e7
        clear e7
        have gC7 := T7.chk
        unfold Ck.cs at gC7
        try dsimp only at gC7
        have m7 := T7.n
        (refine Go.run (g:=?_))
        refine GoR.call rfl rfl rfl rfl rfl rfl rfl (((rn_spec a cap zs 8 2 (by decide) (by decide) hl _ (hz.same T7.same)).argA).mono ?_)
        rintro _ h8a rfl s8a
        have x8 := rn_lt2 zs 8
        have T8a := T7.to s8a
        have gC8a := T8a.chk
        unfold Ck.cs at gC8a
        try dsimp only at gC8a
        have m8a := T8a.n
        (refine Go.run (g:=?_))
        refine GoR.name ?_
        intro h8 e8
        have T8 := T8a.put_eq (⟨k, f, rn zs 0 4, rn zs 4 4, 0, rn zs 8 2, 0, 0, 0, 0, ⟨none, 0, 0⟩, ⟨none, 0, 0⟩, ⟨none, 0, 0⟩, ⟨none, 0, 0⟩, ⟨none, 0, 0⟩⟩ : Ck) e8
        clear e8
        have gC8 := T8.chk
        unfold Ck.cs at gC8
        try dsimp only at gC8
        have m8 := T8.n
        (refine Go.run (g:=?_))
        refine GoR.call rfl rfl rfl rfl rfl rfl rfl (((rn_spec a cap zs 10 2 (by decide) (by decide) hl _ (hz.same T8.same)).argA).mono ?_)
        rintro _ h9a rfl s9a
        have x9 := rn_lt2 zs 10
        have T9a := T8.to s9a
        have gC9a := T9a.chk
        unfold Ck.cs at gC9a
        try dsimp only at gC9a
        have m9a := T9a.n
        (refine Go.run (g:=?_))
        refine GoR.name ?_
        intro h9 e9
        have T9 := T9a.put_eq (⟨k, f, rn zs 0 4, rn zs 4 4, 0, rn zs 8 2, rn zs 10 2, 0, 0, 0, ⟨none, 0, 0⟩, ⟨none, 0, 0⟩, ⟨none, 0, 0⟩, ⟨none, 0, 0⟩, ⟨none, 0, 0⟩⟩ : Ck) e9
        clear e9
        have gC9 := T9.chk
        unfold Ck.cs at gC9
        try dsimp only at gC9
        have m9 := T9.n
        (refine Go.run (g:=?_))
        refine GoR.call rfl rfl rfl rfl rfl rfl rfl (((rn_spec a cap zs 12 4 (by decide) (by decide) hl _ (hz.same T9.same)).argA).mono ?_)
        rintro _ h10a rfl s10a
        have x10 := rn_lt4 zs 12
        have T10a := T9.to s10a
        have gC10a := T10a.chk
        unfold Ck.cs at gC10a
        try dsimp only at gC10a
        have m10a := T10a.n
        (refine Go.run (g:=?_))
        refine Go.name ?_
        intro h10 e10
        have T10 := T10a.put_eq (⟨k, f, rn zs 0 4, rn zs 4 4, rn zs 12 4, rn zs 8 2, rn zs 10 2, 0, 0, 0, ⟨none, 0, 0⟩, ⟨none, 0, 0⟩, ⟨none, 0, 0⟩, ⟨none, 0, 0⟩, ⟨none, 0, 0⟩⟩ : Ck) e10
        clear e10
        have gC10 := T10.chk
        unfold Ck.cs at gC10
        try dsimp only at gC10
        have m10 := T10.n
        refine Go.joined (h10, _, ⟨[], [], [], [], []⟩, false) ⟨T10, (fun e => by cases e), ?_⟩ ⟨rfl, rfl, by simp only; exact congrArg (fun t => some (Value.bool t)) (decide_eq_false (by omega)), trivial⟩ rfl rfl
        simp only [Bool.not_false]
        rw [finR_bad, hraw, if_neg (by omega)]
        rfl
      · (refine Go.run (g:=?_))
        refine GoR.call rfl rfl rfl rfl rfl rfl rfl (((rn_spec a cap zs 0 4 (by decide) (by decide) hl _ (hz.same T5.same)).argA).mono ?_)
        rintro _ h6a rfl s6a
        have x6 := rn_lt4 zs 0
        have T6a := T5.to s6a
        have gC6a := T6a.chk
        unfold Ck.cs at gC6a
        try dsimp only at gC6a
        have m6a := T6a.n
        (refine Go.run (g:=?_))
        refine GoR.name ?_
        intro h6 e6
        have T6 := T6a.put_eq (⟨k, f, rn zs 0 4, 0, 0, 0, 0, 0, 0, 0, ⟨none, 0, 0⟩, ⟨none, 0, 0⟩, ⟨none, 0, 0⟩, ⟨none, 0, 0⟩, ⟨none, 0, 0⟩⟩ : Ck) e6
        clear e6
        have gC6 := T6.chk
        unfold Ck.cs at gC6
        try dsimp only at gC6
        have m6 := T6.n
        (refine Go.run (g:=?_))
        refine GoR.call rfl rfl rfl rfl rfl rfl rfl (((rn_spec a cap zs 4 4 (by decide) (by decide) hl _ (hz.same T6.same)).argA).mono ?_)
        rintro _ h7a rfl s7a
        have x7 := rn_lt4 zs 4
        have T7a := T6.to s7a
        have gC7a := T7a.chk
        unfold Ck.cs at gC7a
        try dsimp only at gC7a
        have m7a := T7a.n
        (refine Go.run (g:=?_))
        refine GoR.name ?_
        intro h7 e7
        have T7 := T7a.put_eq (⟨k, f, rn zs 0 4, rn zs 4 4, 0, 0, 0, 0, 0, 0, ⟨none, 0, 0⟩, ⟨none, 0, 0⟩, ⟨none, 0, 0⟩, ⟨none, 0, 0⟩, ⟨none, 0, 0⟩⟩ : Ck) e7
        clear e7
        have gC7 := T7.chk
        unfold Ck.cs at gC7
        try dsimp only at gC7
        have m7 := T7.n
        (refine Go.run (g:=?_))
        refine GoR.call rfl rfl rfl rfl rfl rfl rfl (((rn_spec a cap zs 8 2 (by decide) (by decide) hl _ (hz.same T7.same)).argA).mono ?_)
        rintro _ h8a rfl s8a
        have x8 := rn_lt2 zs 8
        have T8a := T7.to s8a
        have gC8a := T8a.chk
        unfold Ck.cs at gC8a
        try dsimp only at gC8a
        have m8a := T8a.n
        (refine Go.run (g:=?_))
        refine GoR.name ?_
        intro h8 e8
        have T8 := T8a.put_eq (⟨k, f, rn zs 0 4, rn zs 4 4, 0, rn zs 8 2, 0, 0, 0, 0, ⟨none, 0, 0⟩, ⟨none, 0, 0⟩, ⟨none, 0, 0⟩, ⟨none, 0, 0⟩, ⟨none, 0, 0⟩⟩ : Ck) e8
        clear e8
        have gC8 := T8.chk
        unfold Ck.cs at gC8
        try dsimp only at gC8
        have m8 := T8.n
        (refine Go.run (g:=?_))
        refine GoR.call rfl rfl rfl rfl rfl rfl rfl (((rn_spec a cap zs 10 2 (by decide) (by decide) hl _ (hz.same T8.same)).argA).mono ?_)
        rintro _ h9a rfl s9a
        have x9 := rn_lt2 zs 10
        have T9a := T8.to s9a
        have gC9a := T9a.chk
        unfold Ck.cs at gC9a
        try dsimp only at gC9a
        have m9a := T9a.n
        (refine Go.run (g:=?_))
        refine GoR.name ?_
        intro h9 e9
        have T9 := T9a.put_eq (⟨k, f, rn zs 0 4, rn zs 4 4, 0, rn zs 8 2, rn zs 10 2, 0, 0, 0, ⟨none, 0, 0⟩, ⟨none, 0, 0⟩, ⟨none, 0, 0⟩, ⟨none, 0, 0⟩, ⟨none, 0, 0⟩⟩ : Ck) e9
        clear e9
        have gC9 := T9.chk
        unfold Ck.cs at gC9
        try dsimp only at gC9
        have m9 := T9.n
        (refine Go.run (g:=?_))
        refine GoR.call rfl rfl rfl rfl rfl rfl rfl (((rn_spec a cap zs 12 4 (by decide) (by decide) hl _ (hz.same T9.same)).argA).mono ?_)
        rintro _ h10a rfl s10a
        have x10 := rn_lt4 zs 12
        have T10a := T9.to s10a
        have gC10a := T10a.chk
        unfold Ck.cs at gC10a
        try dsimp only at gC10a
        have m10a := T10a.n
        (refine Go.run (g:=?_))
        refine Go.name ?_
        intro h10 e10
        have T10 := T10a.put_eq (⟨k, f, rn zs 0 4, rn zs 4 4, rn zs 12 4, rn zs 8 2, rn zs 10 2, 0, 0, 0, ⟨none, 0, 0⟩, ⟨none, 0, 0⟩, ⟨none, 0, 0⟩, ⟨none, 0, 0⟩, ⟨none, 0, 0⟩⟩ : Ck) e10
        clear e10
        have gC10 := T10.chk
        unfold Ck.cs at gC10
        try dsimp only at gC10
        have m10 := T10.n
        refine Go.loud (by kernel_rfl) rfl ?_
        (refine Go.runL (g:=?_))
        refine GoL.bLo (l := 16) rfl rfl rfl rfl rfl rfl (hz.same T10.same) (by omega) ?_
        intro as_ hzs hbs
        rw [List.take_of_length_le (by simp)] at hzs
        (refine Go.runL (g:=?_))
        refine GoL.callS rfl rfl rfl rfl rfl rfl rfl (((rpar_spec (⟨k, f, rn zs 0 4, rn zs 4 4, rn zs 12 4, rn zs 8 2, rn zs 10 2, 0, 0, 0, ⟨none, 0, 0⟩, ⟨none, 0, 0⟩, ⟨none, 0, 0⟩, ⟨none, 0, 0⟩, ⟨none, 0, 0⟩⟩ : Ck) rfl rfl as_ (cap - 16) (zs.drop 16) (by rw [List.length_drop]; omega) _ (by rw [List.length_drop]; exact hzs)).argA).mono ?_)
        rintro v11 h11 hpar s11
        have T11 := T10.to s11
        have gC11 := T11.chk
        unfold Ck.cs at gC11
        try dsimp only at gC11
        have m11 := T11.n
        simp only at hpar
        cases hgo : pgo k (parse false (zs.drop 16)).2 (parse false (zs.drop 16)).1 [] [] 0 with
        | none =>
          rw [hgo] at hpar
          obtain ⟨x, rfl⟩ := hpar
          (refine Go.runL (g:=?_))
          refine GoL.store' rfl rfl rfl rfl rfl (hl:=rfl) (h1:=rfl) (h3:=rfl) (g:=?_)
          (refine Go.runL (g:=?_))
          refine GoL.end_ (hl := by (try simp only [List.nil_append, List.cons_append]); repeat (first | exact loudP.nil | refine loudP.none ?_ | refine loudP.new (fun _ hb => absurd hb List.not_mem_nil) ?_ | refine loudP.row (by repeat (first | exact loudRowP.nil | refine loudRowP.none ?_ | refine loudRowP.bef (by decide +kernel) ?_)) ?_)) ?_
          (refine Go.run (g:=?_))
          refine Go.name ?_
          intro h12 e12
          have T12 := T11.put_eq x e12
          refine Go.joined (h12, x, ⟨[], [], [], [], []⟩, false) ⟨T12, (fun e => by cases e), ?_⟩ ⟨rfl, rfl, rfl, trivial⟩ rfl rfl
          simp only [Bool.not_false]
          rw [finR_bad, hraw, if_pos g, hgo]
          rfl
        | some AD =>
          rw [hgo] at hpar
          obtain ⟨pA, pD⟩ := AD
          obtain ⟨sD, sA, rfl, vA, lA, aA, lD, vD, oA, oD⟩ := hpar
          (refine Go.runL (g:=?_))
          refine GoL.store' rfl rfl rfl rfl rfl (hl:=rfl) (h1:=rfl) (h3:=rfl) (g:=?_)
          (refine Go.runL (g:=?_))
          refine GoL.end_ (hl := by (try simp only [List.nil_append, List.cons_append]); repeat (first | exact loudP.nil | refine loudP.none ?_ | refine loudP.new (fun _ hb => absurd hb List.not_mem_nil) ?_ | refine loudP.row (by repeat (first | exact loudRowP.nil | refine loudRowP.none ?_ | refine loudRowP.bef (by decide +kernel) ?_)) ?_)) ?_
          (refine Go.run (g:=?_))
          refine Go.name ?_
          intro h12 e12
          have T12 := T11.put_eq (⟨k, f, rn zs 0 4, rn zs 4 4, rn zs 12 4, rn zs 8 2, rn zs 10 2, 0, 0, 0, sD, sA, ⟨none, 0, 0⟩, ⟨none, 0, 0⟩, ⟨none, 0, 0⟩⟩ : Ck) e12
          have vA12 := vA.put_eq e12 (fun hm => by have := oA _ hm; omega)
          have vD12 : Rv Try.prog h12 1 sD.a sD.n sD.cap (pD.map bv) := by subst e12; exact vD.put (fun hm => by have := oD _ hm; omega) _
          have ok12 : COk h12 (⟨k, f, rn zs 0 4, rn zs 4 4, rn zs 12 4, rn zs 8 2, rn zs 10 2, 0, 0, 0, sD, sA, ⟨none, 0, 0⟩, ⟨none, 0, 0⟩, ⟨none, 0, 0⟩⟩ : Ck) ⟨pD, pA, [], [], []⟩ := { COk.base h12 k f hk8 hf with tag := x6, rwnd := x7, out := x8, inn := x9, tsn := x10, dl := lD, dv := vD12, al := lA, av := vA12.rv, ab := aA }
          refine Go.joined (h12, _, _, true) ⟨T12, fun _ => ⟨ok12, oD.mono (by omega), oA.mono (by omega), Own.nil _, Own.nil _, Own.nil _, fun x hx => by cases hx⟩, ?_⟩ ⟨rfl, rfl, rfl, trivial⟩ rfl rfl
          simp only [Bool.not_true]
          rw [finR_good ok12, hraw, if_pos g, hgo]
          simp only [Option.map_some, pcOf, PC.z, List.map_nil, rn_le (show 0 + 4 ≤ zs.length by omega), rn_le (show 4 + 4 ≤ zs.length by omega), rn_le (show 8 + 2 ≤ zs.length by omega), rn_le (show 10 + 2 ≤ zs.length by omega), rn_le (show 12 + 4 ≤ zs.length by omega)]
    · have hkk : k = 1 ∨ k = 2 := by omega
      have hraw : rawP k f zs = if 16 ≤ zs.length then (pgo k (parse false (zs.drop 16)).2 (parse false (zs.drop 16)).1 [] [] 0).map fun x => { PC.z k f with tag := nAt zs 0 4, rwnd := nAt zs 4 4, out := nAt zs 8 2, inn := nAt zs 10 2, tsn := nAt zs 12 4, addrs := x.1, data := x.2 } else none := by
        rcases hkk with rfl | rfl <;> rfl
      rcases Nat.lt_or_ge zs.length 16 with g | g
      · (refine Go.run (g:=?_))
        refine GoR.call rfl rfl rfl rfl rfl rfl rfl (((rn_spec a cap zs 0 4 (by decide) (by decide) hl _ (hz.same T5.same)).argA).mono ?_)
        rintro _ h6a rfl s6a
        have x6 := rn_lt4 zs 0
        have T6a := T5.to s6a
        have gC6a := T6a.chk
        unfold Ck.cs at gC6a
        try dsimp only at gC6a
        have m6a := T6a.n
        (refine Go.run (g:=?_))
        refine GoR.name ?_
        intro h6 e6
        have T6 := T6a.put_eq (⟨k, f, rn zs 0 4, 0, 0, 0, 0, 0, 0, 0, ⟨none, 0, 0⟩, ⟨none, 0, 0⟩, ⟨none, 0, 0⟩, ⟨none, 0, 0⟩, ⟨none, 0, 0⟩⟩ : Ck) e6
        clear e6
        have gC6 := T6.chk
        unfold Ck.cs at gC6
        try dsimp only at gC6
        have m6 := T6.n
        (refine Go.run (g:=?_))
        refine GoR.call rfl rfl rfl rfl rfl rfl rfl (((rn_spec a cap zs 4 4 (by decide) (by decide) hl _ (hz.same T6.same)).argA).mono ?_)
        rintro _ h7a rfl s7a
        have x7 := rn_lt4 zs 4
        have T7a := T6.to s7a
        have gC7a := T7a.chk
        unfold Ck.cs at gC7a
        try dsimp only at gC7a
        have m7a := T7a.n
        (refine Go.run (g:=?_))
        refine GoR.name ?_
        intro h7 e7
        have T7 := T7a.put_eq (⟨k, f, rn zs 0 4, rn zs 4 4, 0, 0, 0, 0, 0, 0, ⟨none, 0, 0⟩, ⟨none, 0, 0⟩, ⟨none, 0, 0⟩, ⟨none, 0, 0⟩, ⟨none, 0, 0⟩⟩ : Ck) e7
        clear e7
        have gC7 := T7.chk
        unfold Ck.cs at gC7
        try dsimp only at gC7
        have m7 := T7.n
        (refine Go.run (g:=?_))
        refine GoR.call rfl rfl rfl rfl rfl rfl rfl (((rn_spec a cap zs 8 2 (by decide) (by decide) hl _ (hz.same T7.same)).argA).mono ?_)
        rintro _ h8a rfl s8a
        have x8 := rn_lt2 zs 8
        have T8a := T7.to s8a
        have gC8a := T8a.chk
        unfold Ck.cs at gC8a
        try dsimp only at gC8a
        have m8a := T8a.n
        (refine Go.run (g:=?_))
        refine GoR.name ?_
        intro h8 e8
        have T8 := T8a.put_eq (⟨k, f, rn zs 0 4, rn zs 4 4, 0, rn zs 8 2, 0, 0, 0, 0, ⟨none, 0, 0⟩, ⟨none, 0, 0⟩, ⟨none, 0, 0⟩, ⟨none, 0, 0⟩, ⟨none, 0, 0⟩⟩ : Ck) e8
        clear e8
        have gC8 := T8.chk
        unfold Ck.cs at gC8
        try dsimp only at gC8
        have m8 := T8.n
        (refine Go.run (g:=?_))
        refine GoR.call rfl rfl rfl rfl rfl rfl rfl (((rn_spec a cap zs 10 2 (by decide) (by decide) hl _ (hz.same T8.same)).argA).mono ?_)
        rintro _ h9a rfl s9a
        have x9 := rn_lt2 zs 10
        have T9a := T8.to s9a
        have gC9a := T9a.chk
        unfold Ck.cs at gC9a
        try dsimp only at gC9a
        have m9a := T9a.n
        (refine Go.run (g:=?_))
        refine GoR.name ?_
        intro h9 e9
        have T9 := T9a.put_eq (⟨k, f, rn zs 0 4, rn zs 4 4, 0, rn zs 8 2, rn zs 10 2, 0, 0, 0, ⟨none, 0, 0⟩, ⟨none, 0, 0⟩, ⟨none, 0, 0⟩, ⟨none, 0, 0⟩, ⟨none, 0, 0⟩⟩ : Ck) e9
        clear e9
        have gC9 := T9.chk
        unfold Ck.cs at gC9
        try dsimp only at gC9
        have m9 := T9.n
        (refine Go.run (g:=?_))
        refine GoR.call rfl rfl rfl rfl rfl rfl rfl (((rn_spec a cap zs 12 4 (by decide) (by decide) hl _ (hz.same T9.same)).argA).mono ?_)
        rintro _ h10a rfl s10a
        have x10 := rn_lt4 zs 12
        have T10a := T9.to s10a
        have gC10a := T10a.chk
        unfold Ck.cs at gC10a
        try dsimp only at gC10a
        have m10a := T10a.n
        (refine Go.run (g:=?_))
        refine Go.name ?_
        intro h10 e10
        have T10 := T10a.put_eq (⟨k, f, rn zs 0 4, rn zs 4 4, rn zs 12 4, rn zs 8 2, rn zs 10 2, 0, 0, 0, ⟨none, 0, 0⟩, ⟨none, 0, 0⟩, ⟨none, 0, 0⟩, ⟨none, 0, 0⟩, ⟨none, 0, 0⟩⟩ : Ck) e10
        clear e10
        have gC10 := T10.chk
        unfold Ck.cs at gC10
        try dsimp only at gC10
        have m10 := T10.n
        refine Go.joined (h10, _, ⟨[], [], [], [], []⟩, false) ⟨T10, (fun e => by cases e), ?_⟩ ⟨rfl, rfl, by simp only; exact congrArg (fun t => some (Value.bool t)) (decide_eq_false (by omega)), trivial⟩ rfl rfl
        simp only [Bool.not_false]
        rw [finR_bad, hraw, if_neg (by omega)]
        rfl
      · (refine Go.run (g:=?_))
        refine GoR.call rfl rfl rfl rfl rfl rfl rfl (((rn_spec a cap zs 0 4 (by decide) (by decide) hl _ (hz.same T5.same)).argA).mono ?_)
        rintro _ h6a rfl s6a
        have x6 := rn_lt4 zs 0
        have T6a := T5.to s6a
        have gC6a := T6a.chk
        unfold Ck.cs at gC6a
        try dsimp only at gC6a
        have m6a := T6a.n
        (refine Go.run (g:=?_))
        refine GoR.name ?_
        intro h6 e6
        have T6 := T6a.put_eq (⟨k, f, rn zs 0 4, 0, 0, 0, 0, 0, 0, 0, ⟨none, 0, 0⟩, ⟨none, 0, 0⟩, ⟨none, 0, 0⟩, ⟨none, 0, 0⟩, ⟨none, 0, 0⟩⟩ : Ck) e6
        clear e6
        have gC6 := T6.chk
        unfold Ck.cs at gC6
        try dsimp only at gC6
        have m6 := T6.n
        (refine Go.run (g:=?_))
        refine GoR.call rfl rfl rfl rfl rfl rfl rfl (((rn_spec a cap zs 4 4 (by decide) (by decide) hl _ (hz.same T6.same)).argA).mono ?_)
        rintro _ h7a rfl s7a
        have x7 := rn_lt4 zs 4
        have T7a := T6.to s7a
        have gC7a := T7a.chk
        unfold Ck.cs at gC7a
        try dsimp only at gC7a
        have m7a := T7a.n
        (refine Go.run (g:=?_))
        refine GoR.name ?_
        intro h7 e7
        have T7 := T7a.put_eq (⟨k, f, rn zs 0 4, rn zs 4 4, 0, 0, 0, 0, 0, 0, ⟨none, 0, 0⟩, ⟨none, 0, 0⟩, ⟨none, 0, 0⟩, ⟨none, 0, 0⟩, ⟨none, 0, 0⟩⟩ : Ck) e7
        clear e7
        have gC7 := T7.chk
        unfold Ck.cs at gC7
        try dsimp only at gC7
        have m7 := T7.n
        (refine Go.run (g:=?_))
        refine GoR.call rfl rfl rfl rfl rfl rfl rfl (((rn_spec a cap zs 8 2 (by decide) (by decide) hl _ (hz.same T7.same)).argA).mono ?_)
        rintro _ h8a rfl s8a
        have x8 := rn_lt2 zs 8
        have T8a := T7.to s8a
        have gC8a := T8a.chk
        unfold Ck.cs at gC8a
        try dsimp only at gC8a
        have m8a := T8a.n
        (refine Go.run (g:=?_))
        refine GoR.name ?_
        intro h8 e8
        have T8 := T8a.put_eq (⟨k, f, rn zs 0 4, rn zs 4 4, 0, rn zs 8 2, 0, 0, 0, 0, ⟨none, 0, 0⟩, ⟨none, 0, 0⟩, ⟨none, 0, 0⟩, ⟨none, 0, 0⟩, ⟨none, 0, 0⟩⟩ : Ck) e8
        clear e8
        have gC8 := T8.chk
        unfold Ck.cs at gC8
        try dsimp only at gC8
        have m8 := T8.n
        (refine Go.run (g:=?_))
        refine GoR.call rfl rfl rfl rfl rfl rfl rfl (((rn_spec a cap zs 10 2 (by decide) (by decide) hl _ (hz.same T8.same)).argA).mono ?_)
        rintro _ h9a rfl s9a
        have x9 := rn_lt2 zs 10
        have T9a := T8.to s9a
        have gC9a := T9a.chk
        unfold Ck.cs at gC9a
        try dsimp only at gC9a
        have m9a := T9a.n
        (refine Go.run (g:=?_))
        refine GoR.name ?_
        intro h9 e9
        have T9 := T9a.put_eq (⟨k, f, rn zs 0 4, rn zs 4 4, 0, rn zs 8 2, rn zs 10 2, 0, 0, 0, ⟨none, 0, 0⟩, ⟨none, 0, 0⟩, ⟨none, 0, 0⟩, ⟨none, 0, 0⟩, ⟨none, 0, 0⟩⟩ : Ck) e9
        clear e9
        have gC9 := T9.chk
        unfold Ck.cs at gC9
        try dsimp only at gC9
        have m9 := T9.n
        (refine Go.run (g:=?_))
        refine GoR.call rfl rfl rfl rfl rfl rfl rfl (((rn_spec a cap zs 12 4 (by decide) (by decide) hl _ (hz.same T9.same)).argA).mono ?_)
        rintro _ h10a rfl s10a
        have x10 := rn_lt4 zs 12
        have T10a := T9.to s10a
        have gC10a := T10a.chk
        unfold Ck.cs at gC10a
        try dsimp only at gC10a
        have m10a := T10a.n
        (refine Go.run (g:=?_))
        refine Go.name ?_
        intro h10 e10
        have T10 := T10a.put_eq (⟨k, f, rn zs 0 4, rn zs 4 4, rn zs 12 4, rn zs 8 2, rn zs 10 2, 0, 0, 0, ⟨none, 0, 0⟩, ⟨none, 0, 0⟩, ⟨none, 0, 0⟩, ⟨none, 0, 0⟩, ⟨none, 0, 0⟩⟩ : Ck) e10
        clear e10
        have gC10 := T10.chk
        unfold Ck.cs at gC10
        try dsimp only at gC10
        have m10 := T10.n
        refine Go.loud (by kernel_rfl) rfl ?_
        (refine Go.runL (g:=?_))
        refine GoL.bLo (l := 16) rfl rfl rfl rfl rfl rfl (hz.same T10.same) (by omega) ?_
        intro as_ hzs hbs
        rw [List.take_of_length_le (by simp)] at hzs
        (refine Go.runL (g:=?_))
        refine GoL.callS rfl rfl rfl rfl rfl rfl rfl (((rpar_spec (⟨k, f, rn zs 0 4, rn zs 4 4, rn zs 12 4, rn zs 8 2, rn zs 10 2, 0, 0, 0, ⟨none, 0, 0⟩, ⟨none, 0, 0⟩, ⟨none, 0, 0⟩, ⟨none, 0, 0⟩, ⟨none, 0, 0⟩⟩ : Ck) rfl rfl as_ (cap - 16) (zs.drop 16) (by rw [List.length_drop]; omega) _ (by rw [List.length_drop]; exact hzs)).argA).mono ?_)
        rintro v11 h11 hpar s11
        have T11 := T10.to s11
        have gC11 := T11.chk
        unfold Ck.cs at gC11
        try dsimp only at gC11
        have m11 := T11.n
        simp only at hpar
        cases hgo : pgo k (parse false (zs.drop 16)).2 (parse false (zs.drop 16)).1 [] [] 0 with
        | none =>
          rw [hgo] at hpar
          obtain ⟨x, rfl⟩ := hpar
          (refine Go.runL (g:=?_))
          refine GoL.store' rfl rfl rfl rfl rfl (hl:=rfl) (h1:=rfl) (h3:=rfl) (g:=?_)
          (refine Go.runL (g:=?_))
          refine GoL.end_ (hl := by (try simp only [List.nil_append, List.cons_append]); repeat (first | exact loudP.nil | refine loudP.none ?_ | refine loudP.new (fun _ hb => absurd hb List.not_mem_nil) ?_ | refine loudP.row (by repeat (first | exact loudRowP.nil | refine loudRowP.none ?_ | refine loudRowP.bef (by decide +kernel) ?_)) ?_)) ?_
          (refine Go.run (g:=?_))
          refine Go.name ?_
          intro h12 e12
          have T12 := T11.put_eq x e12
          refine Go.joined (h12, x, ⟨[], [], [], [], []⟩, false) ⟨T12, (fun e => by cases e), ?_⟩ ⟨rfl, rfl, rfl, trivial⟩ rfl rfl
          simp only [Bool.not_false]
          rw [finR_bad, hraw, if_pos g, hgo]
          rfl
        | some AD =>
          rw [hgo] at hpar
          obtain ⟨pA, pD⟩ := AD
          obtain ⟨sD, sA, rfl, vA, lA, aA, lD, vD, oA, oD⟩ := hpar
          (refine Go.runL (g:=?_))
          refine GoL.store' rfl rfl rfl rfl rfl (hl:=rfl) (h1:=rfl) (h3:=rfl) (g:=?_)
          (refine Go.runL (g:=?_))
          refine GoL.end_ (hl := by (try simp only [List.nil_append, List.cons_append]); repeat (first | exact loudP.nil | refine loudP.none ?_ | refine loudP.new (fun _ hb => absurd hb List.not_mem_nil) ?_ | refine loudP.row (by repeat (first | exact loudRowP.nil | refine loudRowP.none ?_ | refine loudRowP.bef (by decide +kernel) ?_)) ?_)) ?_
          (refine Go.run (g:=?_))
          refine Go.name ?_
          intro h12 e12
          have T12 := T11.put_eq (⟨k, f, rn zs 0 4, rn zs 4 4, rn zs 12 4, rn zs 8 2, rn zs 10 2, 0, 0, 0, sD, sA, ⟨none, 0, 0⟩, ⟨none, 0, 0⟩, ⟨none, 0, 0⟩⟩ : Ck) e12
          have vA12 := vA.put_eq e12 (fun hm => by have := oA _ hm; omega)
          have vD12 : Rv Try.prog h12 1 sD.a sD.n sD.cap (pD.map bv) := by subst e12; exact vD.put (fun hm => by have := oD _ hm; omega) _
          have ok12 : COk h12 (⟨k, f, rn zs 0 4, rn zs 4 4, rn zs 12 4, rn zs 8 2, rn zs 10 2, 0, 0, 0, sD, sA, ⟨none, 0, 0⟩, ⟨none, 0, 0⟩, ⟨none, 0, 0⟩⟩ : Ck) ⟨pD, pA, [], [], []⟩ := { COk.base h12 k f hk8 hf with tag := x6, rwnd := x7, out := x8, inn := x9, tsn := x10, dl := lD, dv := vD12, al := lA, av := vA12.rv, ab := aA }
          refine Go.joined (h12, _, _, true) ⟨T12, fun _ => ⟨ok12, oD.mono (by omega), oA.mono (by omega), Own.nil _, Own.nil _, Own.nil _, fun x hx => by cases hx⟩, ?_⟩ ⟨rfl, rfl, rfl, trivial⟩ rfl rfl
          simp only [Bool.not_true]
          rw [finR_good ok12, hraw, if_pos g, hgo]
          simp only [Option.map_some, pcOf, PC.z, List.map_nil, rn_le (show 0 + 4 ≤ zs.length by omega), rn_le (show 4 + 4 ≤ zs.length by omega), rn_le (show 8 + 2 ≤ zs.length by omega), rn_le (show 10 + 2 ≤ zs.length by omega), rn_le (show 12 + 4 ≤ zs.length by omega)]
    · (refine Go.run (g:=?_))
      refine GoR.call rfl rfl rfl rfl rfl rfl rfl (((rsack_spec (⟨k, f, 0, 0, 0, 0, 0, 0, 0, 0, ⟨none, 0, 0⟩, ⟨none, 0, 0⟩, ⟨none, 0, 0⟩, ⟨none, 0, 0⟩, ⟨none, 0, 0⟩⟩ : Ck) rfl rfl a cap zs hl _ hz5).argA).mono ?_)
      rintro v6 h6 hs s6
      have T6 := T5.to s6
      have gC6 := T6.chk
      unfold Ck.cs at gC6
      have m6 := T6.n
      have x8 := rn_lt2 zs 8
      have x10 := rn_lt2 zs 10
      rcases hs with ⟨hq, rfl⟩ | ⟨hq, b, cb, b', cb', rfl, vG, vU, oG, oU⟩
      · (refine Go.run (g:=?_))
        refine Go.name ?_
        intro h7 e7
        have T7 := T6.put_eq (⟨k, f, 0, 0, 0, 0, 0, 0, 0, 0, ⟨none, 0, 0⟩, ⟨none, 0, 0⟩, ⟨none, 0, 0⟩, ⟨none, 0, 0⟩, ⟨none, 0, 0⟩⟩ : Ck) e7
        clear e7
        refine Go.joined (h7, _, ⟨[], [], [], [], []⟩, false) ⟨T7, (fun e => by cases e), ?_⟩ ⟨rfl, rfl, rfl, trivial⟩ rfl rfl
        simp only [Bool.not_false]
        rw [finR_bad]
        subst hk0
        by_cases g12 : 12 ≤ zs.length
        · rw [rn_le (by omega), rn_le (by omega)] at hq
          simp [rawP, hq]
        · simp [rawP, g12]
      · have g12 : 12 ≤ zs.length := by omega
        rw [rn_le (by omega), rn_le (by omega)] at hq
        (refine Go.run (g:=?_))
        refine Go.name ?_
        intro h7 e7
        have T7 := T6.put_eq (⟨k, f, 0, nAt zs 4 4, nAt zs 0 4, 0, 0, 0, 0, 0, ⟨none, 0, 0⟩, ⟨none, 0, 0⟩, ⟨b, nAt zs 8 2, cb⟩, ⟨b', nAt zs 10 2, cb'⟩, ⟨none, 0, 0⟩⟩ : Ck) e7
        have vG7 := vG.put_eq e7 (fun hm => by have := oG _ hm; omega)
        have vU7 := vU.put_eq e7 (fun hm => by have := oU _ hm; omega)
        clear e7
        have ok7 : COk h7 (⟨k, f, 0, nAt zs 4 4, nAt zs 0 4, 0, 0, 0, 0, 0, ⟨none, 0, 0⟩, ⟨none, 0, 0⟩, ⟨b, nAt zs 8 2, cb⟩, ⟨b', nAt zs 10 2, cb'⟩, ⟨none, 0, 0⟩⟩ : Ck) ⟨[], [], gapsAt (zs.drop 12) (nAt zs 8 2), dupsAt (zs.drop (12 + 4 * nAt zs 8 2)) (nAt zs 10 2), []⟩ := { COk.base h7 k f hk8 hf with tsn := nAt_lt4 _ _, rwnd := nAt_lt4 _ _, gl := by simp [gapsAt], gv := vG7.rv, gb := (fun x hx => by obtain ⟨i, -, rfl⟩ := List.mem_map.1 hx; exact ⟨nAt_lt2 _ _, nAt_lt2 _ _⟩), ul := by simp [dupsAt], uv := vU7.rv, ub := (fun x hx => by obtain ⟨i, -, rfl⟩ := List.mem_map.1 hx; exact nAt_lt4 _ _) }
        refine Go.joined (h7, _, _, true) ⟨T7, fun _ => ⟨ok7, Own.nil _, Own.nil _, oG.mono (by omega), oU.mono (by omega), Own.nil _, fun x hx => by cases hx⟩, ?_⟩ ⟨rfl, rfl, rfl, trivial⟩ rfl rfl
        simp only [Bool.not_true]
        rw [finR_good ok7]
        subst hk0
        simp only [rawP, if_pos (And.intro g12 hq), pcOf, PC.z, List.map_nil]
    · (refine Go.run (g:=?_))
      refine GoR.call rfl rfl rfl rfl rfl rfl rfl (((refAll_spec false a zs.length cap zs rfl hl _ hz5).argA).mono ?_)
      rintro _ h6 ⟨b, cb, ts, rfl, hts, row⟩ s6
      have T6 := T5.to s6
      have gC6 := T6.chk
      unfold Ck.cs at gC6
      have m6 := T6.n
      have hpl := parse_len (chunk := false) zs
      have htl : ts.length = (parse false zs).1.length := by rw [← hts, List.length_map]
      have hblt : ∀ i ∈ blk b, i < h6.n := row.sv.lt
      have htlt : ∀ t ∈ ts, ∀ i ∈ blk t.a, i < h6.n := fun t ht => Rv.lt (row.tv t ht)
      (refine Go.run (g:=?_))
      refine Go.loop (α := Nat × AHeap × Option Addr × Nat) (fun x => [(9, .int .i64 x.1), (7, .slice b ts.length cb), (8, .bool (parse false zs).2), (2, .pointer (some ⟨h.n + 1, 0, none⟩)), (4, .pointer (some ⟨h.n + 2, 0, none⟩))]) (fun _ => []) (fun x => x.2.1)
        (fun x => x.1 ≤ ts.length ∧ RT h x.2.1 (⟨k, f, 0, 0, 0, 0, 0, 0, 0, 0, ⟨none, 0, 0⟩, ⟨none, 0, 0⟩, ⟨none, 0, 0⟩, ⟨none, 0, 0⟩, ⟨x.2.2.1, x.1, x.2.2.2⟩⟩ : Ck) ∧ h6.n ≤ x.2.1.n ∧ Rv Try.prog x.2.1 3 b ts.length cb (tcells ts) ∧ TVs x.2.1 ts ∧ Sv x.2.1 69 2 x.2.2.1 x.1 x.2.2.2 (ccs ((ts.take x.1).map fun t => ⟨t.k, t.a, t.cap, t.z⟩)) ∧ Own h6.n x.2.2.1) (fun x => ts.length - x.1) (0, h6, none, 0) ?_ ?_ rfl rfl ?_
      · exact ⟨Nat.zero_le _, T6, Nat.le_refl _, row.sv.rv, row.tv, .nil, Own.nil _⟩
      · exact ⟨rfl, rfl, rfl, rfl, rfl, trivial⟩
      clear T6 gC6
      rintro ⟨i, H, b2, c2⟩ ⟨hi, T, mH, hR, hTV, hsv, hob⟩
      simp only at hi T mH hR hTV hsv hob ⊢
      have gC := T.chk
      unfold Ck.cs at gC
      dsimp only at gC
      have mT := T.n
      rcases Nat.lt_or_ge i ts.length with i0 | i0
      · have hcell := tcells_get i0
        have c0 : (tcells ts)[i * 3 + 0]? = some (.int .u16 ts[i].k) := by rw [← List.getElem?_drop, ← List.getElem?_take_of_lt (show 0 < 3 by decide), hcell]; rfl
        have c2' : (tcells ts)[i * 3 + 2]? = some (.slice ts[i].a ts[i].z.length ts[i].cap) := by rw [← List.getElem?_drop, ← List.getElem?_take_of_lt (show 2 < 3 by decide), hcell]; rfl
        rw [Nat.add_zero] at c0
        have hbe : i * 3 < (tcells ts).length := by rw [tcells_len]; omega
        have hbe3 : i * 3 + 3 ≤ (tcells ts).length := by rw [tcells_len]; omega
        have e3 : (ts.take (i + 1)).map (fun t : TV => (⟨t.k, t.a, t.cap, t.z⟩ : CV)) = (ts.take i).map (fun t : TV => (⟨t.k, t.a, t.cap, t.z⟩ : CV)) ++ [⟨ts[i].k, ts[i].a, ts[i].cap, ts[i].z⟩] := by
          rw [← List.take_append_getElem i0, List.map_append]; rfl
        generalize ts[i].k = xk at *
        generalize ts[i].z = xz at *
        generalize ts[i].a = xa at *
        generalize ts[i].cap = xc at *
        (refine Go.run (g:=?_))
        refine Go.loud (by kernel_rfl) rfl ?_
        (refine Go.runL (g:=?_))
        refine GoL.buildRo (c := [.int .u16 xk, .slice xa xz.length xc]) rfl rfl rfl rfl rfl (by decide) (by rfl) (by rfl) ?_
        intro b8 h8 hb8 rb8 ob8 s8 n8
        have m8 := s8.1
        have T8 := T.to s8
        refine GoL.appendV rfl rfl rfl rfl rfl rfl (hsv.same s8) hb8 (fun j hj => .inr (by have := hob _ hj; omega)) (by omega) (by omega) (by rfl) ?_
        intro b9 c9 h9 rd wr hwr hrd hs9 k9 o9
        have m9 := k9.1
        have T9 := T8.app k9 (hob.mono (by omega))
        have gC9 := T9.chk
        unfold Ck.cs at gC9
        dsimp only at gC9
        have R9 := (hR.same s8).keeps k9 (fun j hj hm => by have := hblt j hj; have := hob _ hm; omega)
        have V9 : TVs h9 ts := fun t ht => Rv.keeps ((hTV.same s8) t ht) k9 (fun j hj hm => by have := htlt t ht j hj; have := hob _ hm; omega)
        (refine Go.runL (g:=?_))
        refine GoL.store' rfl rfl rfl rfl rfl (hl:=rfl) (h1:=rfl) (h3:=rfl) (g:=?_)
        refine GoL.end_ (hl := by (try simp only [List.nil_append, List.cons_append]); repeat (first | exact loudP.nil | refine loudP.none ?_ | refine loudP.new (fun _ hb => absurd hb List.not_mem_nil) ?_ | refine loudP.row (by repeat (first | exact loudRowP.nil | refine loudRowP.none ?_ | refine loudRowP.bef (by decide +kernel) ?_)) ?_)) ?_
        (refine Go.run (g:=?_))
        refine Go.name ?_
        intro h10 e10
        have T10 := T9.put_eq (⟨k, f, 0, 0, 0, 0, 0, 0, 0, 0, ⟨none, 0, 0⟩, ⟨none, 0, 0⟩, ⟨none, 0, 0⟩, ⟨none, 0, 0⟩, ⟨b9, i + 1, c9⟩⟩ : Ck) e10
        have ob9 : Own h6.n b9 := hob.app (by omega) o9
        have hs10 := hs9.put_eq e10 (fun hm => by have := ob9 _ hm; omega)
        have R10 : Rv Try.prog h10 3 b ts.length cb (tcells ts) := by subst e10; exact R9.put (fun hm => by have := row.own _ hm; have := T5.n; omega) _
        have V10 : TVs h10 ts := fun t ht => by subst e10; exact Rv.put (V9 t ht) (fun hm => by have := row.ownv t ht _ hm; omega) _
        have n10 : h6.n ≤ h10.n := by subst e10; simp only [AHeap.n_put]; omega
        refine Go.again (i + 1, h10, b9, c9) ⟨by simp only; omega, T10, n10, R10, V10, ?_, ob9⟩ (by simp only; omega) ⟨rfl, rfl, rfl, rfl, rfl, trivial⟩ rfl rfl
        simp only
        rw [e3]
        rw [show ∀ (l : List CV) (x : CV), ccs (l ++ [x]) = ccs l ++ cvC x from fun l x => by simp [ccs]]
        exact hs10
      have hie : i = ts.length := by omega
      subst hie
      rw [List.take_length] at hsv
      (refine Go.run (g:=?_))
      have okF : COk H (⟨k, f, 0, 0, 0, 0, 0, 0, 0, 0, ⟨none, 0, 0⟩, ⟨none, 0, 0⟩, ⟨none, 0, 0⟩, ⟨none, 0, 0⟩, ⟨b2, ts.length, c2⟩⟩ : Ck) ⟨[], [], [], [], ts.map fun t => ⟨t.k, t.a, t.cap, t.z⟩⟩ := { COk.base H k f hk8 hf with cl := by simp, cv := hsv.rv, cb := (fun x hx => by
          obtain ⟨t, ht, rfl⟩ := List.mem_map.1 hx
          have tb := parse_bd (chunk := false) zs t.thing (by rw [← hts]; exact List.mem_map.2 ⟨t, ht, rfl⟩)
          exact ⟨tb.1, by have := tb.2; show t.z.length ≤ _; simp only [TV.thing] at this; omega, hTV t ht⟩) }
      refine Go.joined (H, _, _, (parse false zs).2) ⟨T, fun _ => ⟨okF, Own.nil _, Own.nil _, Own.nil _, Own.nil _, hob.mono (by omega), fun x hx => by obtain ⟨t, ht, rfl⟩ := List.mem_map.1 hx; exact (row.ownv t ht).mono (by omega)⟩, ?_⟩ ⟨rfl, rfl, rfl, trivial⟩ rfl rfl
      simp only
      have hraw : rawP k f zs = if (parse false zs).2 = true then some { PC.z k f with causes := (parse false zs).1.map fun x => (x.1, x.2.2) } else none := by subst hk0; rfl
      rw [hraw]
      cases hw : (parse false zs).2
      · rw [Bool.not_false, finR_bad]; rfl
      · rw [Bool.not_true, finR_good okF, if_pos rfl]
        congr 1
        simp only [pcOf, PC.z, ← hts, List.map_map]
        rfl
    · (refine Go.run (g:=?_))
      refine GoR.call rfl rfl rfl rfl rfl rfl rfl (((refAll_spec false a zs.length cap zs rfl hl _ hz5).argA).mono ?_)
      rintro _ h6 ⟨b, cb, ts, rfl, hts, row⟩ s6
      have T6 := T5.to s6
      have gC6 := T6.chk
      unfold Ck.cs at gC6
      have m6 := T6.n
      have hpl := parse_len (chunk := false) zs
      have htl : ts.length = (parse false zs).1.length := by rw [← hts, List.length_map]
      have hblt : ∀ i ∈ blk b, i < h6.n := row.sv.lt
      have htlt : ∀ t ∈ ts, ∀ i ∈ blk t.a, i < h6.n := fun t ht => Rv.lt (row.tv t ht)
      (refine Go.run (g:=?_))
      refine Go.loop (α := Nat × AHeap × Option Addr × Nat) (fun x => [(9, .int .i64 x.1), (7, .slice b ts.length cb), (8, .bool (parse false zs).2), (2, .pointer (some ⟨h.n + 1, 0, none⟩)), (4, .pointer (some ⟨h.n + 2, 0, none⟩))]) (fun _ => []) (fun x => x.2.1)
        (fun x => x.1 ≤ ts.length ∧ RT h x.2.1 (⟨k, f, 0, 0, 0, 0, 0, 0, 0, 0, ⟨none, 0, 0⟩, ⟨none, 0, 0⟩, ⟨none, 0, 0⟩, ⟨none, 0, 0⟩, ⟨x.2.2.1, x.1, x.2.2.2⟩⟩ : Ck) ∧ h6.n ≤ x.2.1.n ∧ Rv Try.prog x.2.1 3 b ts.length cb (tcells ts) ∧ TVs x.2.1 ts ∧ Sv x.2.1 69 2 x.2.2.1 x.1 x.2.2.2 (ccs ((ts.take x.1).map fun t => ⟨t.k, t.a, t.cap, t.z⟩)) ∧ Own h6.n x.2.2.1) (fun x => ts.length - x.1) (0, h6, none, 0) ?_ ?_ rfl rfl ?_
      · exact ⟨Nat.zero_le _, T6, Nat.le_refl _, row.sv.rv, row.tv, .nil, Own.nil _⟩
      · exact ⟨rfl, rfl, rfl, rfl, rfl, trivial⟩
      clear T6 gC6
      rintro ⟨i, H, b2, c2⟩ ⟨hi, T, mH, hR, hTV, hsv, hob⟩
      simp only at hi T mH hR hTV hsv hob ⊢
      have gC := T.chk
      unfold Ck.cs at gC
      dsimp only at gC
      have mT := T.n
      rcases Nat.lt_or_ge i ts.length with i0 | i0
      · have hcell := tcells_get i0
        have c0 : (tcells ts)[i * 3 + 0]? = some (.int .u16 ts[i].k) := by rw [← List.getElem?_drop, ← List.getElem?_take_of_lt (show 0 < 3 by decide), hcell]; rfl
        have c2' : (tcells ts)[i * 3 + 2]? = some (.slice ts[i].a ts[i].z.length ts[i].cap) := by rw [← List.getElem?_drop, ← List.getElem?_take_of_lt (show 2 < 3 by decide), hcell]; rfl
        rw [Nat.add_zero] at c0
        have hbe : i * 3 < (tcells ts).length := by rw [tcells_len]; omega
        have hbe3 : i * 3 + 3 ≤ (tcells ts).length := by rw [tcells_len]; omega
        have e3 : (ts.take (i + 1)).map (fun t : TV => (⟨t.k, t.a, t.cap, t.z⟩ : CV)) = (ts.take i).map (fun t : TV => (⟨t.k, t.a, t.cap, t.z⟩ : CV)) ++ [⟨ts[i].k, ts[i].a, ts[i].cap, ts[i].z⟩] := by
          rw [← List.take_append_getElem i0, List.map_append]; rfl
        generalize ts[i].k = xk at *
        generalize ts[i].z = xz at *
        generalize ts[i].a = xa at *
        generalize ts[i].cap = xc at *
        (refine Go.run (g:=?_))
        refine Go.loud (by kernel_rfl) rfl ?_
        (refine Go.runL (g:=?_))
        refine GoL.buildRo (c := [.int .u16 xk, .slice xa xz.length xc]) rfl rfl rfl rfl rfl (by decide) (by rfl) (by rfl) ?_
        intro b8 h8 hb8 rb8 ob8 s8 n8
        have m8 := s8.1
        have T8 := T.to s8
        refine GoL.appendV rfl rfl rfl rfl rfl rfl (hsv.same s8) hb8 (fun j hj => .inr (by have := hob _ hj; omega)) (by omega) (by omega) (by rfl) ?_
        intro b9 c9 h9 rd wr hwr hrd hs9 k9 o9
        have m9 := k9.1
        have T9 := T8.app k9 (hob.mono (by omega))
        have gC9 := T9.chk
        unfold Ck.cs at gC9
        dsimp only at gC9
        have R9 := (hR.same s8).keeps k9 (fun j hj hm => by have := hblt j hj; have := hob _ hm; omega)
        have V9 : TVs h9 ts := fun t ht => Rv.keeps ((hTV.same s8) t ht) k9 (fun j hj hm => by have := htlt t ht j hj; have := hob _ hm; omega)
        (refine Go.runL (g:=?_))
        refine GoL.store' rfl rfl rfl rfl rfl (hl:=rfl) (h1:=rfl) (h3:=rfl) (g:=?_)
        refine GoL.end_ (hl := by (try simp only [List.nil_append, List.cons_append]); repeat (first | exact loudP.nil | refine loudP.none ?_ | refine loudP.new (fun _ hb => absurd hb List.not_mem_nil) ?_ | refine loudP.row (by repeat (first | exact loudRowP.nil | refine loudRowP.none ?_ | refine loudRowP.bef (by decide +kernel) ?_)) ?_)) ?_
        (refine Go.run (g:=?_))
        refine Go.name ?_
        intro h10 e10
        have T10 := T9.put_eq (⟨k, f, 0, 0, 0, 0, 0, 0, 0, 0, ⟨none, 0, 0⟩, ⟨none, 0, 0⟩, ⟨none, 0, 0⟩, ⟨none, 0, 0⟩, ⟨b9, i + 1, c9⟩⟩ : Ck) e10
        have ob9 : Own h6.n b9 := hob.app (by omega) o9
        have hs10 := hs9.put_eq e10 (fun hm => by have := ob9 _ hm; omega)
        have R10 : Rv Try.prog h10 3 b ts.length cb (tcells ts) := by subst e10; exact R9.put (fun hm => by have := row.own _ hm; have := T5.n; omega) _
        have V10 : TVs h10 ts := fun t ht => by subst e10; exact Rv.put (V9 t ht) (fun hm => by have := row.ownv t ht _ hm; omega) _
        have n10 : h6.n ≤ h10.n := by subst e10; simp only [AHeap.n_put]; omega
        refine Go.again (i + 1, h10, b9, c9) ⟨by simp only; omega, T10, n10, R10, V10, ?_, ob9⟩ (by simp only; omega) ⟨rfl, rfl, rfl, rfl, rfl, trivial⟩ rfl rfl
        simp only
        rw [e3]
        rw [show ∀ (l : List CV) (x : CV), ccs (l ++ [x]) = ccs l ++ cvC x from fun l x => by simp [ccs]]
        exact hs10
      have hie : i = ts.length := by omega
      subst hie
      rw [List.take_length] at hsv
      (refine Go.run (g:=?_))
      have okF : COk H (⟨k, f, 0, 0, 0, 0, 0, 0, 0, 0, ⟨none, 0, 0⟩, ⟨none, 0, 0⟩, ⟨none, 0, 0⟩, ⟨none, 0, 0⟩, ⟨b2, ts.length, c2⟩⟩ : Ck) ⟨[], [], [], [], ts.map fun t => ⟨t.k, t.a, t.cap, t.z⟩⟩ := { COk.base H k f hk8 hf with cl := by simp, cv := hsv.rv, cb := (fun x hx => by
          obtain ⟨t, ht, rfl⟩ := List.mem_map.1 hx
          have tb := parse_bd (chunk := false) zs t.thing (by rw [← hts]; exact List.mem_map.2 ⟨t, ht, rfl⟩)
          exact ⟨tb.1, by have := tb.2; show t.z.length ≤ _; simp only [TV.thing] at this; omega, hTV t ht⟩) }
      refine Go.joined (H, _, _, (parse false zs).2) ⟨T, fun _ => ⟨okF, Own.nil _, Own.nil _, Own.nil _, Own.nil _, hob.mono (by omega), fun x hx => by obtain ⟨t, ht, rfl⟩ := List.mem_map.1 hx; exact (row.ownv t ht).mono (by omega)⟩, ?_⟩ ⟨rfl, rfl, rfl, trivial⟩ rfl rfl
      simp only
      have hraw : rawP k f zs = if (parse false zs).2 = true then some { PC.z k f with causes := (parse false zs).1.map fun x => (x.1, x.2.2) } else none := by subst hk0; rfl
      rw [hraw]
      cases hw : (parse false zs).2
      · rw [Bool.not_false, finR_bad]; rfl
      · rw [Bool.not_true, finR_good okF, if_pos rfl]
        congr 1
        simp only [pcOf, PC.z, ← hts, List.map_map]
        rfl
    · (refine Go.run (g:=?_))
      refine GoR.call rfl rfl rfl rfl rfl rfl rfl (((rn_spec a cap zs 0 4 (by decide) (by decide) hl _ (hz.same T5.same)).argA).mono ?_)
      rintro _ h6a rfl s6a
      have x6 := rn_lt4 zs 0
      have T6a := T5.to s6a
      have gC6a := T6a.chk
      unfold Ck.cs at gC6a
      try dsimp only at gC6a
      have m6a := T6a.n
      (refine Go.run (g:=?_))
      refine Go.name ?_
      intro h6 e6
      have T6 := T6a.put_eq (⟨k, f, 0, 0, rn zs 0 4, 0, 0, 0, 0, 0, ⟨none, 0, 0⟩, ⟨none, 0, 0⟩, ⟨none, 0, 0⟩, ⟨none, 0, 0⟩, ⟨none, 0, 0⟩⟩ : Ck) e6
      clear e6
      have gC6 := T6.chk
      unfold Ck.cs at gC6
      try dsimp only at gC6
      have m6 := T6.n
      have ok6 : COk h6 (⟨k, f, 0, 0, rn zs 0 4, 0, 0, 0, 0, 0, ⟨none, 0, 0⟩, ⟨none, 0, 0⟩, ⟨none, 0, 0⟩, ⟨none, 0, 0⟩, ⟨none, 0, 0⟩⟩ : Ck) ⟨[], [], [], [], []⟩ := { COk.base h6 k f hk8 hf with tsn := x6 }
      refine Go.joined (h6, _, _, decide ((zs.length : Int) = 4)) ⟨T6, fun _ => ⟨ok6, ⟨Own.nil _, Own.nil _, Own.nil _, Own.nil _, Own.nil _, fun x hx => by cases hx⟩⟩, ?_⟩ ⟨rfl, rfl, rfl, trivial⟩ rfl rfl
      simp only
      subst hk0
      by_cases g : zs.length = 4
      · rw [show (!decide ((zs.length : Int) = 4)) = false from by simp; omega, finR_good ok6]
        simp only [rawP, if_pos g, pcOf, PC.z, List.map_nil, rn_le (show 0 + 4 ≤ zs.length by omega)]
      · rw [show (!decide ((zs.length : Int) = 4)) = true from by simp; omega, finR_bad]
        simp [rawP, g]
    · (refine Go.run (g:=?_))
      have ok5 : COk h5 (⟨k, f, 0, 0, 0, 0, 0, 0, 0, 0, ⟨none, 0, 0⟩, ⟨none, 0, 0⟩, ⟨none, 0, 0⟩, ⟨none, 0, 0⟩, ⟨none, 0, 0⟩⟩ : Ck) ⟨[], [], [], [], []⟩ := COk.base h5 k f hk8 hf
      refine Go.joined (h5, _, _, decide ((zs.length : Int) = 0)) ⟨T5, fun _ => ⟨ok5, ⟨Own.nil _, Own.nil _, Own.nil _, Own.nil _, Own.nil _, fun x hx => by cases hx⟩⟩, ?_⟩ ⟨rfl, rfl, rfl, trivial⟩ rfl rfl
      simp only
      subst hk0
      by_cases g : zs.length = 0
      · rw [decide_eq_true (show (zs.length : Int) = 0 by omega), Bool.not_true, finR_good ok5]
        simp only [rawP, if_pos g, pcOf, PC.z, List.map_nil]
      · rw [decide_eq_false (show ¬ (zs.length : Int) = 0 by omega), Bool.not_false, finR_bad]
        simp [rawP, g]
    · (refine Go.run (g:=?_))
      have ok5 : COk h5 (⟨k, f, 0, 0, 0, 0, 0, 0, 0, 0, ⟨none, 0, 0⟩, ⟨none, 0, 0⟩, ⟨none, 0, 0⟩, ⟨none, 0, 0⟩, ⟨none, 0, 0⟩⟩ : Ck) ⟨[], [], [], [], []⟩ := COk.base h5 k f hk8 hf
      refine Go.joined (h5, _, _, decide ((zs.length : Int) = 0)) ⟨T5, fun _ => ⟨ok5, ⟨Own.nil _, Own.nil _, Own.nil _, Own.nil _, Own.nil _, fun x hx => by cases hx⟩⟩, ?_⟩ ⟨rfl, rfl, rfl, trivial⟩ rfl rfl
      simp only
      subst hk0
      by_cases g : zs.length = 0
      · rw [decide_eq_true (show (zs.length : Int) = 0 by omega), Bool.not_true, finR_good ok5]
        simp only [rawP, if_pos g, pcOf, PC.z, List.map_nil]
      · rw [decide_eq_false (show ¬ (zs.length : Int) = 0 by omega), Bool.not_false, finR_bad]
        simp [rawP, g]
    · (refine Go.run (g:=?_))
      have ok5 : COk h5 (⟨k, f, 0, 0, 0, 0, 0, 0, 0, 0, ⟨none, 0, 0⟩, ⟨none, 0, 0⟩, ⟨none, 0, 0⟩, ⟨none, 0, 0⟩, ⟨none, 0, 0⟩⟩ : Ck) ⟨[], [], [], [], []⟩ := COk.base h5 k f hk8 hf
      refine Go.joined (h5, _, _, decide ((zs.length : Int) = 0)) ⟨T5, fun _ => ⟨ok5, ⟨Own.nil _, Own.nil _, Own.nil _, Own.nil _, Own.nil _, fun x hx => by cases hx⟩⟩, ?_⟩ ⟨rfl, rfl, rfl, trivial⟩ rfl rfl
      simp only
      subst hk0
      by_cases g : zs.length = 0
      · rw [decide_eq_true (show (zs.length : Int) = 0 by omega), Bool.not_true, finR_good ok5]
        simp only [rawP, if_pos g, pcOf, PC.z, List.map_nil]
      · rw [decide_eq_false (show ¬ (zs.length : Int) = 0 by omega), Bool.not_false, finR_bad]
        simp [rawP, g]
    · (refine Go.run (g:=?_))
      refine GoR.buildO (c := []) rfl rfl rfl rfl rfl (by decide) (by rfl) (by rfl) ?_
      intro bb hb vb ob sb nb
      have Tb := T5.to sb
      have mb := Tb.n
      (refine Go.run (g:=?_))
      refine GoR.appendV rfl rfl rfl rfl rfl rfl vb (hz.same Tb.same) (fun j hj => .inr (by have := ob j hj; omega)) (by omega) (by omega) (List.all_eq_true.2 fun x hx => by obtain ⟨y, -, rfl⟩ := List.mem_map.1 hx; rfl) ?_
      intro bd cdd hd_ vd kd od
      rw [Nat.zero_add, List.nil_append] at vd
      have Td := Tb.app kd (ob.mono (by omega))
      have gCd := Td.chk
      unfold Ck.cs at gCd
      try dsimp only at gCd
      have md := Td.n
      have nd := kd.1
      have oD : Own (h.n + 3) bd := (ob.mono (n' := h.n + 3) (by omega)).app (by omega) od
      (refine Go.run (g:=?_))
      refine Go.name ?_
      intro he ee
      have Te := Td.put_eq (⟨k, f, 0, 0, 0, 0, 0, 0, 0, 0, ⟨bd, zs.length, cdd⟩, ⟨none, 0, 0⟩, ⟨none, 0, 0⟩, ⟨none, 0, 0⟩, ⟨none, 0, 0⟩⟩ : Ck) ee
      have ve := vd.put_eq ee (fun hm => by have := oD _ hm; omega)
      clear ee
      have oke : COk he (⟨k, f, 0, 0, 0, 0, 0, 0, 0, 0, ⟨bd, zs.length, cdd⟩, ⟨none, 0, 0⟩, ⟨none, 0, 0⟩, ⟨none, 0, 0⟩, ⟨none, 0, 0⟩⟩ : Ck) ⟨zs, [], [], [], []⟩ := { COk.base he k f hk8 hf with dl := by simp, dv := ve.rv }
      refine Go.joined (he, _, _, true) ⟨Te, fun _ => ⟨oke, ⟨oD, Own.nil _, Own.nil _, Own.nil _, Own.nil _, fun x hx => by cases hx⟩⟩, ?_⟩ ⟨rfl, rfl, rfl, trivial⟩ rfl rfl
      simp only [Bool.not_true]
      rw [finR_good oke, show rawP k f zs = some { PC.z k f with data := zs } from by unfold rawP; split <;> first | rfl | omega | contradiction]
      rfl
  rintro ⟨H, c, d, okb⟩ ⟨T, hok, hfin⟩
  simp only at T hok hfin ⊢
  have gC := T.chk
  have gR := T.res
  have mH := T.n
  unfold Ck.cs Ck.none Sl.nil at gR
  unfold Ck.cs at gC
  rw [← hfin]
  cases okb
  case false =>
    rw [show finR c d (!false) [] = none from finR_bad _ _ _]
    (refine Go.run (g:=?_))
    refine Go.fin (.inr rfl) (.cellN (b := h.n + 1) (off := 0) rfl inferInstance (by (first | assumption | exact AHeap.get_push_same _ _ | ((repeat first | exact AHeap.get_push_same _ _ | assumption | refine get_push_lt ?_ | exact AHeap.get_put_same _ (by first | omega | (simp only [AHeap.n_push, AHeap.n_put]; omega)) _ | exact get_put_self (by assumption) | apply get_put_self | refine get_put_other (by first | omega | (simp only [AHeap.n_push, AHeap.n_put]; omega)) ?_ | refine Same.get (by assumption) ?_ | refine Keeps.get (by assumption) ?_ (fun hi => by have hx := Own.out (by assumption) hi; omega)) ; fail_if_success focus skip) | fail)) (by first | exact Nat.le_refl _ | (simp [setL, cellsL]; fail_if_success focus skip) | (simp; omega)) rfl (.tmp rfl .nil)) ?_
    rfl
  obtain ⟨ok, hap⟩ := hok rfl
  have hmy := rmay_head c ok.f d.gaps ok.gl ok.gb H ok.gv
  cases hm : may c d.gaps
  all_goals rw [hm] at hmy
  · rw [show finR c d (!true) [] = none from by simp [finR, hm]]
    (refine Go.run (g:=?_))
    refine GoR.call rfl rfl rfl rfl rfl rfl rfl (((hmy).argA).mono ?_)
    rintro _ h8 rfl s8
    (have nn := (s8).1; try simp only [AHeap.n_push, AHeap.n_put] at nn)
    have gR8 := s8.get gR
    (refine Go.run (g:=?_))
    refine Go.fin (.inr rfl) (.cellN (b := h.n + 1) (off := 0) rfl inferInstance (by (first | assumption | exact AHeap.get_push_same _ _ | ((repeat first | exact AHeap.get_push_same _ _ | assumption | refine get_push_lt ?_ | exact AHeap.get_put_same _ (by first | omega | (simp only [AHeap.n_push, AHeap.n_put]; omega)) _ | exact get_put_self (by assumption) | apply get_put_self | refine get_put_other (by first | omega | (simp only [AHeap.n_push, AHeap.n_put]; omega)) ?_ | refine Same.get (by assumption) ?_ | refine Keeps.get (by assumption) ?_ (fun hi => by have hx := Own.out (by assumption) hi; omega)) ; fail_if_success focus skip) | fail)) (by first | exact Nat.le_refl _ | (simp [setL, cellsL]; fail_if_success focus skip) | (simp; omega)) rfl (.tmp rfl .nil)) ?_
    rfl
  · rw [show finR c d (!true) [] = some (pcOf c d) from by simp [finR, hm]]
    (refine Go.run (g:=?_))
    refine GoR.call rfl rfl rfl rfl rfl rfl rfl (((hmy).argA).mono ?_)
    rintro _ h8 rfl s8
    (have nn := (s8).1; try simp only [AHeap.n_push, AHeap.n_put] at nn)
    have gR8 := s8.get gR
    have gC8 := s8.get gC
    (refine Go.run (g:=?_))
    refine Go.fin (.inr rfl) (.cellN (b := h.n + 1) (off := 0) rfl inferInstance (by (first | assumption | exact AHeap.get_push_same _ _ | ((repeat first | exact AHeap.get_push_same _ _ | assumption | refine get_push_lt ?_ | exact AHeap.get_put_same _ (by first | omega | (simp only [AHeap.n_push, AHeap.n_put]; omega)) _ | exact get_put_self (by assumption) | apply get_put_self | refine get_put_other (by first | omega | (simp only [AHeap.n_push, AHeap.n_put]; omega)) ?_ | refine Same.get (by assumption) ?_ | refine Keeps.get (by assumption) ?_ (fun hi => by have hx := Own.out (by assumption) hi; omega)) ; fail_if_success focus skip) | fail)) (by first | exact Nat.le_refl _ | (simp [setL, cellsL]; fail_if_success focus skip) | (simp; omega)) rfl (.tmp rfl .nil)) ?_
    exact ⟨c, d, rfl, (ok.same s8).put hap (by omega) _, hap.mono (by omega), rfl⟩
end Go.Proofs.Ytjpegoigipbmiaa