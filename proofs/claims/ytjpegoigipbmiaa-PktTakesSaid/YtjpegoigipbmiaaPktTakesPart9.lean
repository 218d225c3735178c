/- What the law leans on, part 9. No conditions. -/
import Derived.KernelRfl
import Derived.WideShapes
import Derived.ProofKit
import Derived.OpenShut
import Derived.ChangeOld
import Derived.Test.YtjpegoigipbmiaaPktTakesPart8
set_option linter.unusedVariables false
set_option linter.unusedSimpArgs false
namespace Go.Proofs.Ytjpegoigipbmiaa
set_option maxRecDepth 100000
attribute [local irreducible] Go GoR GoL
theorem hrtake_all (a : Option Addr) (n cap : Nat) (zs : List UInt8) (hlen : zs.length = n) (hn : n ≤ 1000000) (h : AHeap) (hz : Rv Try.prog h 1 a n cap (zs.map bv)) : CallS Try.prog [] 33 [.slice a n cap] h fun v h' => match htk zs with
    | .error e => v = .tuple #[hdV 0 0 0, .slice none 0 0, .int .i64 e]
    | .ok (f, t, g) => ∃ b c, v = .tuple #[hdV f t g, .slice b (n - 12) c, .int .i64 (0 : Nat)] ∧ Rv Try.prog h' 1 b (n - 12) c ((zs.drop 12).map bv) ∧ Own h.n b := by
  unfold htk
  rw [hlen]
  by_cases h1 : 1500 < n
  · rw [if_pos h1]; exact refTake_err a n cap hn h 3 (.inl ⟨h1, rfl⟩)
  rw [if_neg h1]
  by_cases h2 : n < 12
  · rw [if_pos h2]; exact refTake_err a n cap hn h 30 (.inr (.inl ⟨h2, rfl⟩))
  rw [if_neg h2]
  by_cases h3 : n % 4 ≠ 0
  · rw [if_pos h3]; exact refTake_err a n cap hn h 32 (.inr (.inr ⟨by omega, by omega, h3, rfl⟩))
  rw [if_neg h3]
  have key := refTake_spec a n cap zs hlen (by omega) (by omega) (by omega) h hz
  by_cases h4 : beNum ((zs.drop 8).take 4) ≠ headSum zs
  · rw [if_pos h4]; exact key.mono fun v h' k => by rw [if_neg h4] at k; exact k
  · rw [if_neg h4]; exact key.mono fun v h' k => by rw [if_pos (Decidable.of_not_not h4)] at k; exact k
def gP (z : List UInt8) (acc : List PC) : Except Nat (List PC) := goP (parse true z).1 (parse true z).2 acc
theorem gP_nil (acc : List PC) : gP [] acc = .ok acc := by unfold gP; rw [parse_nil]; rfl
theorem gP_none {z : List UInt8} (h0 : z ≠ []) (h : ¬ Whole z) (acc : List PC) : gP z acc = .error 40 := by unfold gP; rw [parse_none h0 h]; rfl
theorem gP_some {z : List UInt8} (h : Whole z) (acc : List PC) : gP z acc = if endsB (thing true z).1 = true then .ok acc else match tkP (thing true z).1 (thing true z).2.1 (thing true z).2.2 with
    | none => .error 50
    | some p => gP (z.drop (up4 (tN z))) (acc ++ [p]) := by unfold gP; rw [parse_some h]; rfl
set_option maxHeartbeats 16000000 in
theorem rtake6_spec (a : Option Addr) (cap : Nat) (zs : List UInt8) (hl : zs.length ≤ 1000000) (h : AHeap) (hz : Rv Try.prog h 1 a zs.length cap (zs.map bv)) : CallS Try.prog [] 15 [.slice a zs.length cap] h fun v h' => TakeP h' v (take6 zs) := by
  unfold take6
  obtain ⟨n, hlen⟩ : ∃ n, n = zs.length := ⟨_, rfl⟩
  rw [← hlen] at hz ⊢
  (refine CallS.of1 Try.func15 rfl Try.ntmps15 Try.results15 rfl ?_)
  (iterate 4 (first|(refine Go.kk 0 rfl ?_;refine Go.seq ?_)|(refine Go.kk 1 rfl ?_;refine Go.region (by kernel_rfl) rfl ?_)|(refine GoR.kk 0 rfl ?_;first|refine GoR.move rfl rfl rfl rfl rfl ?_|refine GoR.assign rfl rfl rfl rfl rfl ?_)|(refine GoR.kk 8 rfl ?_;first|refine GoR.boxA rfl rfl rfl rfl rfl ?_|refine GoR.boxS rfl rfl rfl rfl rfl rfl ?_|refine GoR.alloc rfl rfl rfl rfl ?_)|refine GoR.end ?_))
  refine GoR.name ?_
  intro h0 e0
  have s0 : Same h h0 := by subst e0; exact (Same.refl h).push _
  have n0 : h0.n = h.n + 1 := by subst e0; rfl
  have g2 : h0.get h.n = some (.cells zPk 28) := by subst e0; exact AHeap.get_push_same _ _
  clear e0
  (refine Go.run (g:=?_))
  refine GoR.call rfl rfl rfl rfl rfl rfl rfl (((hrtake_all a n cap zs hlen.symm (by omega) _ (hz.same s0)).argA).mono ?_)
  intro v1 h1 hv1 s1
  have n1 := s1.1
  have g21 := s1.get g2
  cases he : htk zs with
  | error e =>
    rw [he] at hv1
    simp only at hv1 ⊢
    subst hv1
    have e0 := htk_err he
    have e0' : ¬ (e : Int) = 0 := by omega
    (refine Go.run (g:=?_))
    refine Go.fin (.inr rfl) (.cellN (b := h.n) (off := 0) rfl inferInstance (by (first | assumption | exact AHeap.get_push_same _ _ | ((repeat first | exact AHeap.get_push_same _ _ | assumption | refine get_push_lt ?_ | exact AHeap.get_put_same _ (by first | omega | (simp only [AHeap.n_push, AHeap.n_put]; omega)) _ | exact get_put_self (by assumption) | apply get_put_self | refine get_put_other (by first | omega | (simp only [AHeap.n_push, AHeap.n_put]; omega)) ?_ | refine Same.get (by assumption) ?_ | refine Keeps.get (by assumption) ?_ (fun hi => by have hx := Own.out (by assumption) hi; omega)) ; fail_if_success focus skip) | fail)) (by first | exact Nat.le_refl _ | (simp [setL, cellsL]; fail_if_success focus skip) | (simp; omega)) rfl (.tmp rfl .nil)) ?_
    rfl
  | ok r =>
  obtain ⟨f, p, g⟩ := r
  rw [he] at hv1
  simp only at hv1 ⊢
  obtain ⟨hz1, hz2, hz3, -, -, -, -, hf, ht, hg⟩ := htk_ok he
  obtain ⟨b, c, rfl, rb, ob⟩ := hv1
  obtain ⟨body, hbody⟩ : ∃ y, y = zs.drop 12 := ⟨_, rfl⟩
  rw [← hbody] at rb ⊢
  have bl : body.length = n - 12 := by rw [hbody, List.length_drop, hlen]
  obtain ⟨m, hm⟩ : ∃ m, m = n - 12 := ⟨_, rfl⟩
  rw [← hm] at rb bl ⊢
  have hm1 : m ≤ 1488 := by omega
  clear hbody hm
  rw [show goP (parse true body).1 (parse true body).2 [] = gP body [] from rfl]
  (refine Go.run (g:=?_))
  refine Go.name ?_
  intro h2 e2
  have s2 : Same h1 h2 := by subst e2; exact ((((Same.refl h1).push _).put (Nat.le_refl _) _).push _).put (by simp) _
  have n2 : h2.n = h1.n + 2 := by subst e2; rfl
  have gp2 : h2.get (h1.n + 1) = some (.cells (pkC f p g none 0 0) 28) := by subst e2; exact AHeap.get_put_same _ (by simp) _
  clear e2
  have lt_b : ∀ i ∈ blk b, i < h1.n := rb.lt
  refine Go.loop (α := Nat × List CP × Option Addr × Nat × AHeap) (fun x => [(8, .int .i64 x.1), (5, .slice b m c), (2, .pointer (some ⟨h.n, 0, none⟩)), (7, .pointer (some ⟨h1.n + 1, 0, none⟩))]) (fun _ => []) (fun x => x.2.2.2.2) (fun x => x.1 ≤ m ∧ 4 * x.2.1.length ≤ x.1 ∧ h2.n ≤ x.2.2.2.2.n ∧ x.2.2.2.2.get h.n = some (.cells zPk 28) ∧ x.2.2.2.2.get (h1.n + 1) = some (.cells (pkC f p g x.2.2.1 x.2.1.length x.2.2.2.1) 28) ∧ Rv Try.prog x.2.2.2.2 1 b m c (body.map bv) ∧ KRow h2.n x.2.2.2.2 x.2.2.1 x.2.2.2.1 x.2.1 ∧ gP body [] = gP (body.drop x.1) (pcs x.2.1)) (fun x => m - x.1) (0, [], none, 0, h2) ?_ ?_ rfl rfl ?_
  · exact ⟨Nat.zero_le _, Nat.le_refl _, Nat.le_refl _, s2.get g21, gp2, rb.same s2, KRow.nil _ _, by simp [pcs]⟩
  · exact ⟨rfl, rfl, rfl, rfl, trivial⟩
  rintro ⟨at_, ls, oa, oc, h3⟩ ⟨hat, h4, hn3, gt3, gp3, rb3, row3, hgo⟩
  simp only at hat h4 hn3 gt3 gp3 rb3 row3 hgo ⊢
  rcases Nat.lt_or_ge at_ m with i0 | i0
  · have hne : body.drop at_ ≠ [] := by intro e; have := congrArg List.length e; simp at this; omega
    (refine Go.run (g:=?_))
    refine GoR.call rfl rfl rfl rfl rfl rfl rfl (((one_spec true b m c body bl at_ hat (by omega) _ rb3).argA).mono ?_)
    rintro v h5 hv s5
    have n5 := s5.1
    have gt5 := s5.get gt3
    have gp5 := s5.get gp3
    have row5 := row3.same s5
    have rb5 := rb3.same s5
    rcases hv with ⟨hW, rfl⟩ | ⟨hW, t, rfl, hth, hok5, hown⟩
    · rw [gP_none hne hW] at hgo
      rw [hgo]
      (refine Go.run (g:=?_))
      refine Go.fin (.inr rfl) (.cellN (b := h.n) (off := 0) rfl inferInstance (by (first | assumption | exact AHeap.get_push_same _ _ | ((repeat first | exact AHeap.get_push_same _ _ | assumption | refine get_push_lt ?_ | exact AHeap.get_put_same _ (by first | omega | (simp only [AHeap.n_push, AHeap.n_put]; omega)) _ | exact get_put_self (by assumption) | apply get_put_self | refine get_put_other (by first | omega | (simp only [AHeap.n_push, AHeap.n_put]; omega)) ?_ | refine Same.get (by assumption) ?_ | refine Keeps.get (by assumption) ?_ (fun hi => by have hx := Own.out (by assumption) hi; omega)) ; fail_if_success focus skip) | fail)) (by first | exact Nat.le_refl _ | (simp [setL, cellsL]; fail_if_success focus skip) | (simp; omega)) rfl (.tmp rfl .nil)) ?_
      rfl
    · rw [gP_some hW, ← hth] at hgo
      have hw1 := hW.2.2.1
      have hw2 := hW.2.1
      have hw3 := up4_le (tN (body.drop at_))
      rw [List.length_drop, bl] at hw1
      obtain ⟨k8, k9⟩ := thing_kind (body.drop at_)
      rw [← hth] at k8 k9
      have k8 : t.k < 256 := k8
      have k9 : t.f < 256 := k9
      have k10 : t.z.length ≤ 1000000 := by
        have e : t.z = (thing true (body.drop at_)).2.2 := congrArg (fun x => x.2.2) hth
        rw [e]; simp only [thing, List.length_take, List.length_drop]; omega
      have hkm : t.k % 256 = t.k := Nat.mod_eq_of_lt k8
      generalize up4 (tN (body.drop at_)) = u at *
      (refine Go.run (g:=?_))
      refine GoR.name ?_
      intro h6 e6
      have s6 : Same h5 h6 := by subst e6; exact ((Same.refl h5).push _).put (Nat.le_refl _) _
      have n6 : h6.n = h5.n + 1 := by subst e6; rfl
      have g6 : h6.get h5.n = some (.cells [.int .u16 t.k, .int .u8 t.f, .slice t.a t.z.length t.cap] 61) := by subst e6; exact AHeap.get_put_same _ (by simp) _
      clear e6
      try simp only [hkm]
      refine GoR.call rfl rfl rfl rfl rfl rfl rfl (((rends_spec t.k k8 _).argA).mono ?_)
      rintro _ h7 rfl s7
      have n7 := s7.1
      have S7 := s6.trans s7
      cases hE : endsB t.k
      case true =>
        rw [show t.thing.1 = t.k from rfl, hE] at hgo
        simp only [if_true] at hgo
        have hok := hgo
        have gpx := S7.get gp5
        have gtx := S7.get gt5
        have rowx := row5.same S7
        rw [hok]
        (refine Go.run (g:=?_))
        refine GoR.call rfl rfl rfl rfl rfl rfl rfl (((rmay6_spec f p g oa ls.length oc ls _ rowx.ks (by omega)).argA).mono ?_)
        rintro _ hh rfl sh
        have nh := sh.1
        have gph := sh.get gpx
        have g2h := sh.get gtx
        have rowh := rowx.same sh
        rw [pmay_k]
        cases hP : pmayK g ((pcs ls).map (·.k))
        case false =>
          (refine Go.run (g:=?_))
          refine Go.fin (.inr rfl) (.cellN (b := h.n) (off := 0) rfl inferInstance (by (first | assumption | exact AHeap.get_push_same _ _ | ((repeat first | exact AHeap.get_push_same _ _ | assumption | refine get_push_lt ?_ | exact AHeap.get_put_same _ (by first | omega | (simp only [AHeap.n_push, AHeap.n_put]; omega)) _ | exact get_put_self (by assumption) | apply get_put_self | refine get_put_other (by first | omega | (simp only [AHeap.n_push, AHeap.n_put]; omega)) ?_ | refine Same.get (by assumption) ?_ | refine Keeps.get (by assumption) ?_ (fun hi => by have hx := Own.out (by assumption) hi; omega)) ; fail_if_success focus skip) | fail)) (by first | exact Nat.le_refl _ | (simp [setL, cellsL]; fail_if_success focus skip) | (simp; omega)) rfl (.tmp rfl .nil)) ?_
          simp only [hP, Bool.false_eq_true, if_false]
          rfl
        case true =>
          (refine Go.run (g:=?_))
          refine Go.fin (.inr rfl) (.cellN (b := h.n) (off := 0) rfl inferInstance (by (first | assumption | exact AHeap.get_push_same _ _ | ((repeat first | exact AHeap.get_push_same _ _ | assumption | refine get_push_lt ?_ | exact AHeap.get_put_same _ (by first | omega | (simp only [AHeap.n_push, AHeap.n_put]; omega)) _ | exact get_put_self (by assumption) | apply get_put_self | refine get_put_other (by first | omega | (simp only [AHeap.n_push, AHeap.n_put]; omega)) ?_ | refine Same.get (by assumption) ?_ | refine Keeps.get (by assumption) ?_ (fun hi => by have hx := Own.out (by assumption) hi; omega)) ; fail_if_success focus skip) | fail)) (by first | exact Nat.le_refl _ | (simp [setL, cellsL]; fail_if_success focus skip) | (simp; omega)) rfl (.tmp rfl .nil)) ?_
          simp only [hP, if_true]
          refine ⟨oa, ls.length, oc, ls, rfl, ?_, rfl⟩
          exact (rowh.keeps ((Keeps.rfl [h.n] hh).put (b := h.n) (by simp) _) (fun i hi => .inl (by simp at hi; omega))).ks
      case false =>
        rw [show t.thing.1 = t.k from rfl, show t.thing.2.1 = t.f from rfl, show t.thing.2.2 = t.z from rfl, hE] at hgo
        simp only [Bool.false_eq_true, if_false] at hgo
        have g7 := s7.get g6
        (refine Go.run (g:=?_))
        refine GoR.call rfl rfl rfl rfl rfl rfl rfl (((rtake_own t.k t.f t.a t.cap t.z (by omega) k9 k10 _ (hok5.same S7)).argA).mono ?_)
        intro v8 h8 hv8 s8
        have n8 := s8.1
        have S8 := S7.trans s8
        have go8 := S8.get gp5
        have c28 := S8.get gt5
        have row8 := row5.same S8
        have rb8 := rb5.same S8
        cases hT : tkP t.k t.f t.z with
        | none =>
          rw [hT] at hv8 hgo
          simp only [TakeO] at hv8 hgo
          subst hv8
          rw [hgo]
          unfold Ck.none Sl.nil
          (refine Go.run (g:=?_))
          refine Go.fin (.inr rfl) (.cellN (b := h.n) (off := 0) rfl inferInstance (by (first | assumption | exact AHeap.get_push_same _ _ | ((repeat first | exact AHeap.get_push_same _ _ | assumption | refine get_push_lt ?_ | exact AHeap.get_put_same _ (by first | omega | (simp only [AHeap.n_push, AHeap.n_put]; omega)) _ | exact get_put_self (by assumption) | apply get_put_self | refine get_put_other (by first | omega | (simp only [AHeap.n_push, AHeap.n_put]; omega)) ?_ | refine Same.get (by assumption) ?_ | refine Keeps.get (by assumption) ?_ (fun hi => by have hx := Own.out (by assumption) hi; omega)) ; fail_if_success focus skip) | fail)) (by first | exact Nat.le_refl _ | (simp [setL, cellsL]; fail_if_success focus skip) | (simp; omega)) rfl (.tmp rfl .nil)) ?_
          rfl
        | some q =>
          rw [hT] at hv8 hgo
          simp only [TakeO] at hv8 hgo
          obtain ⟨c', d', rfl, okc, apc, hq⟩ := hv8
          unfold Ck.v
          (refine Go.run (g:=?_))
          refine GoR.name ?_
          intro h9 e9
          have s9 : Same h8 h9 := by subst e9; exact ((Same.refl h8).push _).put (Nat.le_refl _) _
          have n9 := s9.1
          clear e9
          refine GoR.buildRo (c := c'.cs) rfl rfl rfl rfl rfl (by decide) (by rfl) (by rfl) ?_
          intro b10 h10 hb10 rb10 ob10 s10 n10
          have r10 := (row8.same s9).same s10
          have S10 := s9.trans s10
          refine GoR.appendV rfl rfl rfl rfl rfl rfl r10.sv hb10 (fun i hi => .inr (by have := row3.own i hi; omega)) (by omega) (by omega) (by rfl) ?_
          intro b11 c11 h11 hs11 k11 o11
          have m11 := k11.1
          have r11 := r10.snoc (by omega) (okc.same S10) (fun i hi => apc.cnot (by have := row3.sv.lt i hi; omega)) (apc.mono (by omega)) hs11 k11 o11
          have nob : ∀ i, i < h2.n → i ∉ blk oa := fun i hi hm => by have := row3.own _ hm; omega
          have go11 := k11.get (S10.get go8) (nob _ (by omega))
          have c211 := k11.get (S10.get c28) (nob _ (by omega))
          have rb11 := (rb8.same S10).keeps k11 (fun i hi hm => by have := lt_b i hi; have := row3.own i hm; omega)
          refine GoR.fieldAddr rfl rfl rfl rfl rfl ?_
          refine GoR.store (off := 0 + 3) (n := 1) (v := .slice b11 (ls.length + 1) c11) (l := [.slice b11 (ls.length + 1) c11]) rfl rfl rfl rfl rfl go11 rfl rfl (show 4 ≤ 4 from Nat.le_refl _) rfl rfl (.inr (by omega)) ?_
          (refine Go.run (g:=?_))
          refine Go.name ?_
          intro h12 e12
          have k12 : Keeps [h1.n + 1] h11 h12 := by subst e12; exact (Keeps.rfl _ _).put (by simp) _
          have go12 : h12.get (h1.n + 1) = some (.cells (pkC f p g b11 (ls.length + 1) c11) 28) := by subst e12; exact AHeap.get_put_same _ (by omega) _
          have n12 := k12.1
          clear e12
          exact Go.again (at_ + u, ls ++ [(c', d')], b11, c11, h12) ⟨by simp only; omega, by simp only [List.length_append, List.length_cons, List.length_nil]; omega, by simp only; omega, k12.get c211 (by simp; omega), by simpa only [List.length_append, List.length_cons, List.length_nil] using go12, rb11.keeps k12 (fun i hi hm => by simp only [List.mem_singleton] at hm; have := lt_b i hi; omega), r11.keeps k12 (fun i hi => .inl (by simp at hi; omega)), by rw [hgo]; simp [pcs, hq]⟩ (by simp only; omega) ⟨rfl, rfl, rfl, rfl, trivial⟩ rfl rfl
  · have ha : at_ = m := by omega
    subst ha
    rw [List.drop_eq_nil_of_le (by omega), gP_nil] at hgo
    have hok := hgo
    have gpx := gp3
    have gtx := gt3
    have rowx := row3
    rw [hok]
    (refine Go.run (g:=?_))
    refine GoR.call rfl rfl rfl rfl rfl rfl rfl (((rmay6_spec f p g oa ls.length oc ls _ rowx.ks (by omega)).argA).mono ?_)
    rintro _ hh rfl sh
    have nh := sh.1
    have gph := sh.get gpx
    have g2h := sh.get gtx
    have rowh := rowx.same sh
    rw [pmay_k]
    cases hP : pmayK g ((pcs ls).map (·.k))
    case false =>
      (refine Go.run (g:=?_))
      refine Go.fin (.inr rfl) (.cellN (b := h.n) (off := 0) rfl inferInstance (by (first | assumption | exact AHeap.get_push_same _ _ | ((repeat first | exact AHeap.get_push_same _ _ | assumption | refine get_push_lt ?_ | exact AHeap.get_put_same _ (by first | omega | (simp only [AHeap.n_push, AHeap.n_put]; omega)) _ | exact get_put_self (by assumption) | apply get_put_self | refine get_put_other (by first | omega | (simp only [AHeap.n_push, AHeap.n_put]; omega)) ?_ | refine Same.get (by assumption) ?_ | refine Keeps.get (by assumption) ?_ (fun hi => by have hx := Own.out (by assumption) hi; omega)) ; fail_if_success focus skip) | fail)) (by first | exact Nat.le_refl _ | (simp [setL, cellsL]; fail_if_success focus skip) | (simp; omega)) rfl (.tmp rfl .nil)) ?_
      simp only [hP, Bool.false_eq_true, if_false]
      rfl
    case true =>
      (refine Go.run (g:=?_))
      refine Go.fin (.inr rfl) (.cellN (b := h.n) (off := 0) rfl inferInstance (by (first | assumption | exact AHeap.get_push_same _ _ | ((repeat first | exact AHeap.get_push_same _ _ | assumption | refine get_push_lt ?_ | exact AHeap.get_put_same _ (by first | omega | (simp only [AHeap.n_push, AHeap.n_put]; omega)) _ | exact get_put_self (by assumption) | apply get_put_self | refine get_put_other (by first | omega | (simp only [AHeap.n_push, AHeap.n_put]; omega)) ?_ | refine Same.get (by assumption) ?_ | refine Keeps.get (by assumption) ?_ (fun hi => by have hx := Own.out (by assumption) hi; omega)) ; fail_if_success focus skip) | fail)) (by first | exact Nat.le_refl _ | (simp [setL, cellsL]; fail_if_success focus skip) | (simp; omega)) rfl (.tmp rfl .nil)) ?_
      simp only [hP, if_true]
      refine ⟨oa, ls.length, oc, ls, rfl, ?_, rfl⟩
      exact (rowh.keeps ((Keeps.rfl [h.n] hh).put (b := h.n) (by simp) _) (fun i hi => .inl (by simp at hi; omega))).ks
end Go.Proofs.Ytjpegoigipbmiaa
namespace Go.Proofs.Ytjpegoigipbmiaa
set_option maxRecDepth 100000
attribute [local irreducible] Go GoR GoL
instance seqGap (a b a' b' : Int) : SEq Try.prog 78 [.int .u16 a, .int .u16 b] [.int .u16 a', .int .u16 b'] (a == a' && (b == b' && true)) := ⟨by kernel_rfl⟩
set_option maxHeartbeats 16000000 in
theorem same5_spec (c c' : Ck) (d d' : CD) (h : AHeap) (ok : COk h c d) (ok' : COk h c' d') (e : pcOf c d = pcOf c' d') (hA : c.A.n ≤ 1000000000) (hG : c.G.n ≤ 1000000000) (hU : c.U.n ≤ 1000000000) (hb : c.C.n ≤ 1000000000) : CallS Try.prog [] 37 [c.v, c'.v] h fun v h' => v = .bool true := by
  simp only [pcOf, PC.mk.injEq] at e
  obtain ⟨e1, e2, e3, e4, e5, e6, e7, e8, e9, e10, e11, e12, e13, e14, e15⟩ := e
  unfold Ck.v
  (refine CallS.of2 Try.func37 rfl Try.ntmps37 Try.results37 rfl ?_)
  (iterate 4 (first|(refine Go.kk 0 rfl ?_;refine Go.seq ?_)|(refine Go.kk 1 rfl ?_;refine Go.region (by kernel_rfl) rfl ?_)|(refine GoR.kk 0 rfl ?_;first|refine GoR.move rfl rfl rfl rfl rfl ?_|refine GoR.assign rfl rfl rfl rfl rfl ?_)|(refine GoR.kk 8 rfl ?_;first|refine GoR.boxA rfl rfl rfl rfl rfl ?_|refine GoR.boxS rfl rfl rfl rfl rfl rfl ?_|refine GoR.alloc rfl rfl rfl rfl ?_)|refine GoR.end ?_))
  simp only [AHeap.n_push, AHeap.n_put]
  refine GoR.name ?_
  intro h3 e0
  have S3 : Same h h3 := by subst e0; exact ((Same.refl h).push _).push _
  have G0 : h3.get h.n = some (.cells c.cs 43) := by subst e0; (first | assumption | exact AHeap.get_push_same _ _ | ((repeat first | exact AHeap.get_push_same _ _ | assumption | refine get_push_lt ?_ | exact AHeap.get_put_same _ (by first | omega | (simp only [AHeap.n_push, AHeap.n_put]; omega)) _ | exact get_put_self (by assumption) | apply get_put_self | refine get_put_other (by first | omega | (simp only [AHeap.n_push, AHeap.n_put]; omega)) ?_ | refine Same.get (by assumption) ?_ | refine Keeps.get (by assumption) ?_ (fun hi => by have hx := Own.out (by assumption) hi; omega)) ; fail_if_success focus skip) | fail)
  have G1 : h3.get (h.n + 1) = some (.cells c'.cs 43) := by subst e0; (first | assumption | exact AHeap.get_push_same _ _ | ((repeat first | exact AHeap.get_push_same _ _ | assumption | refine get_push_lt ?_ | exact AHeap.get_put_same _ (by first | omega | (simp only [AHeap.n_push, AHeap.n_put]; omega)) _ | exact get_put_self (by assumption) | apply get_put_self | refine get_put_other (by first | omega | (simp only [AHeap.n_push, AHeap.n_put]; omega)) ?_ | refine Same.get (by assumption) ?_ | refine Keeps.get (by assumption) ?_ (fun hi => by have hx := Own.out (by assumption) hi; omega)) ; fail_if_success focus skip) | fail)
  have n3 : h3.n = h.n + 2 := by subst e0; rfl
  clear e0
  unfold Ck.cs at G0 G1
  have o := ok.same S3
  have o' := ok'.same S3
  have dv := o.dv
  have dv' := o'.dv
  rw [← e11] at dv'
  have l1 := ok.al
  have l1' := ok'.al
  have l2 := ok.gl
  have l2' := ok'.gl
  have l3 := ok.ul
  have l3' := ok'.ul
  have l4 := ok.cl
  have l4' := ok'.cl
  have l0 := ok.dl
  have l0' := ok'.dl
  have l5 : d.causes.length = d'.causes.length := by have := congrArg List.length e15; simpa using this
  rw [← e11] at l0'
  rw [← e12] at l1'
  rw [← e13] at l2'
  rw [← e14] at l3'
  have av := o.av
  have av' := o'.av
  rw [← e12] at av'
  have gv := o.gv
  have gv' := o'.gv
  rw [← e13] at gv'
  have uv := o.uv
  have uv' := o'.uv
  rw [← e14] at uv'
  have cv := o.cv
  have cv' := o'.cv
  have q1 : c'.A.n = c.A.n := by omega
  have q2 : c'.G.n = c.G.n := by omega
  have q3 : c'.U.n = c.U.n := by omega
  have q4 : c'.C.n = c.C.n := by omega
  have q0 : c'.D.n = c.D.n := by omega
  rw [q0] at dv' G1
  rw [q1] at av' G1
  rw [q2] at gv' G1
  rw [q3] at uv' G1
  rw [q4] at cv' G1
  rw [← e1, ← e2, ← e3, ← e4, ← e5, ← e6, ← e7, ← e8, ← e9, ← e10] at G1
  (refine Go.run (g:=?_))
  refine Go.loop (α := Nat) (fun i => [(5, .int .i64 i), (2, .pointer (some ⟨h.n, 0, none⟩)), (3, .pointer (some ⟨h.n + 1, 0, none⟩))]) (fun _ => []) (fun _ => h3) (fun i => i ≤ c.A.n) (fun i => c.A.n - i) 0 (Nat.zero_le _) ⟨rfl, rfl, rfl, trivial⟩ rfl rfl ?_
  rintro i hi
  rcases Nat.lt_or_ge i (c.A.n) with i0 | i0
  · have i1 : i < d.addrs.length := by omega
    have c0 := w32s_get i1
    have hbe : i < (w32s d.addrs).length := by rw [w32s_len]; exact i1
    generalize d.addrs[i] = x at *
    (refine Go.run (g:=?_))
    exact Go.again (i + 1) i0 (by omega) ⟨rfl, rfl, rfl, trivial⟩ rfl rfl
  have hie : i = c.A.n := by omega
  subst hie
  (refine Go.run (g:=?_))
  refine Go.loop (α := Nat) (fun i => [(6, .int .i64 i), (2, .pointer (some ⟨h.n, 0, none⟩)), (3, .pointer (some ⟨h.n + 1, 0, none⟩))]) (fun _ => []) (fun _ => h3) (fun i => i ≤ c.G.n) (fun i => c.G.n - i) 0 (Nat.zero_le _) ⟨rfl, rfl, rfl, trivial⟩ rfl rfl ?_
  rintro i hi
  rcases Nat.lt_or_ge i (c.G.n) with i0 | i0
  · have i1 : i < d.gaps.length := by omega
    have c0 := gcs_get i1
    have hbe : i * 2 + 2 ≤ (gcs d.gaps).length := by rw [gcs_len]; omega
    generalize d.gaps[i].1 = x at *
    generalize d.gaps[i].2 = y at *
    (refine Go.run (g:=?_))
    rw [show (!(((x : Int) == (x : Int)) && (((y : Int) == (y : Int)) && true))) = false from by simp]
    (refine Go.run (g:=?_))
    exact Go.again (i + 1) i0 (by omega) ⟨rfl, rfl, rfl, trivial⟩ rfl rfl
  have hie : i = c.G.n := by omega
  subst hie
  (refine Go.run (g:=?_))
  refine Go.loop (α := Nat) (fun i => [(7, .int .i64 i), (2, .pointer (some ⟨h.n, 0, none⟩)), (3, .pointer (some ⟨h.n + 1, 0, none⟩))]) (fun _ => []) (fun _ => h3) (fun i => i ≤ c.U.n) (fun i => c.U.n - i) 0 (Nat.zero_le _) ⟨rfl, rfl, rfl, trivial⟩ rfl rfl ?_
  rintro i hi
  rcases Nat.lt_or_ge i (c.U.n) with i0 | i0
  · have i1 : i < d.dups.length := by omega
    have c0 := w32s_get i1
    have hbe : i < (w32s d.dups).length := by rw [w32s_len]; exact i1
    generalize d.dups[i] = x at *
    (refine Go.run (g:=?_))
    exact Go.again (i + 1) i0 (by omega) ⟨rfl, rfl, rfl, trivial⟩ rfl rfl
  have hie : i = c.U.n := by omega
  subst hie
  (refine Go.run (g:=?_))
  refine Go.loop (α := Nat) (fun i => [(8, .int .i64 i), (2, .pointer (some ⟨h.n, 0, none⟩)), (3, .pointer (some ⟨h.n + 1, 0, none⟩))]) (fun _ => []) (fun _ => h3) (fun i => i ≤ c.C.n) (fun i => c.C.n - i) 0 (Nat.zero_le _) ⟨rfl, rfl, rfl, trivial⟩ rfl rfl ?_
  rintro i hi
  rcases Nat.lt_or_ge i (c.C.n) with i0 | i0
  · have i1 : i < d.causes.length := by omega
    have i2 : i < d'.causes.length := by omega
    have c0 := ccs_0 i1
    have c1 := ccs_1 i1
    have c0' := ccs_0 i2
    have c1' := ccs_1 i2
    have hbe : i * 2 < (ccs d.causes).length := by rw [ccs_len]; omega
    have hbe' : i * 2 < (ccs d'.causes).length := by rw [ccs_len]; omega
    have ee := congrArg (fun l : List (Nat × List UInt8) => l[i]?) e15
    simp only [List.getElem?_map, List.getElem?_eq_getElem i1, List.getElem?_eq_getElem i2, Option.map_some, Option.some.injEq, Prod.mk.injEq] at ee
    obtain ⟨ek, ez⟩ := ee
    obtain ⟨-, -, vz⟩ := o.cb _ (List.getElem_mem i1)
    obtain ⟨-, -, vz'⟩ := o'.cb _ (List.getElem_mem i2)
    rw [← ek] at c0'
    rw [← ez] at c1' vz'
    generalize d.causes[i].k = xk at *
    generalize d.causes[i].z = xz at *
    generalize d.causes[i].a = xa at *
    generalize d.causes[i].cap = xc at *
    generalize d'.causes[i].a = ya at *
    generalize d'.causes[i].cap = yc at *
    (refine Go.run (g:=?_))
    exact Go.again (i + 1) i0 (by omega) ⟨rfl, rfl, rfl, trivial⟩ rfl rfl
  have hie : i = c.C.n := by omega
  subst hie
  (refine Go.run (g:=?_))
  (first|refine Go.finT (by first|exact .inr rfl|exact .inl rfl) rfl ?_|refine Go.fin1 (by first|exact .inr rfl|exact .inl rfl) rfl (hq:=?_))
  rfl
end Go.Proofs.Ytjpegoigipbmiaa
namespace Go.Proofs.Ytjpegoigipbmiaa
open Go.RowKit
set_option maxRecDepth 100000
instance seqHead (a b c a' b' c' : Int) : SEq Try.prog 25 [.int .u16 a, .int .u16 b, .int .u32 c] [.int .u16 a', .int .u16 b', .int .u32 c'] (a == a' && (b == b' && (c == c' && true))) := ⟨by kernel_rfl⟩
end Go.Proofs.Ytjpegoigipbmiaa
namespace Go.Proofs.Ytjpegoigipbmiaa
set_option maxRecDepth 100000
attribute [local irreducible] Go GoR GoL
def SB (c : Ck) : Prop := c.A.n ≤ 1000000000 ∧ c.G.n ≤ 1000000000 ∧ c.U.n ≤ 1000000000 ∧ c.C.n ≤ 1000000000
theorem pcs_len (l : List CP) : (pcs l).length = l.length := by simp [pcs]
theorem pcs_get {l l' : List CP} (e : pcs l = pcs l') {i : Nat} (h : i < l.length) (h' : i < l'.length) : pcOf l[i].1 l[i].2 = pcOf l'[i].1 l'[i].2 := by
  have e1 : (pcs l)[i]? = some (pcOf l[i].1 l[i].2) := by simp [pcs, h]
  have e2 : (pcs l')[i]? = some (pcOf l'[i].1 l'[i].2) := by simp [pcs, h']
  rw [e, e2] at e1
  exact (Option.some.inj e1).symm
set_option maxHeartbeats 8000000 in
theorem same6_spec (f t g : Nat) (a a' : Option Addr) (n cap n' cap' : Nat) (l l' : List CP) (h : AHeap) (k : KS h a n cap l) (k' : KS h a' n' cap' l') (e : pcs l = pcs l') (hn : n ≤ 1000000000) (hb : ∀ x ∈ l, SB x.1) : CallS Try.prog [] 16 [pkV f t g a n cap, pkV f t g a' n' cap'] h fun v h' => v = .bool true := by
  have en : n' = n := by rw [← k.len, ← k'.len, ← pcs_len, ← pcs_len, e]
  subst en
  (refine CallS.of2 Try.func16 rfl Try.ntmps16 Try.results16 rfl ?_)
  (iterate 5 (first|(refine Go.kk 0 rfl ?_;refine Go.seq ?_)|(refine Go.kk 1 rfl ?_;refine Go.region (by kernel_rfl) rfl ?_)|(refine GoR.kk 0 rfl ?_;first|refine GoR.move rfl rfl rfl rfl rfl ?_|refine GoR.assign rfl rfl rfl rfl rfl ?_)|(refine GoR.kk 8 rfl ?_;first|refine GoR.boxA rfl rfl rfl rfl rfl ?_|refine GoR.boxS rfl rfl rfl rfl rfl rfl ?_|refine GoR.alloc rfl rfl rfl rfl ?_)|refine GoR.end ?_))
  refine GoR.name ?_
  intro h3 e3
  have G0 : h3.get h.n = some (.cells [.int .u16 f, .int .u16 t, .int .u32 g, .slice a n' cap] 28) := by subst e3; exact get_push_lt (AHeap.get_push_same _ _)
  have G1 : h3.get (h.n + 1) = some (.cells [.int .u16 f, .int .u16 t, .int .u32 g, .slice a' n' cap'] 28) := by subst e3; exact AHeap.get_push_same (h.push _) _
  have n3 : h3.n = h.n + 2 := by subst e3; rfl
  have S3 : Same h h3 := by subst e3; exact ((Same.refl h).push _).push _
  clear e3
  (refine Go.run (g:=?_))
  refine Go.loop (α := Nat × AHeap) (fun x => [(5, .int .i64 x.1), (3, .pointer (some ⟨h.n + 1, 0, none⟩)), (2, .pointer (some ⟨h.n, 0, none⟩))]) (fun _ => []) (fun x => x.2) (fun x => Same h3 x.2 ∧ x.1 ≤ n') (fun x => n' - x.1) (0, h3) ⟨Same.refl _, Nat.zero_le _⟩ ⟨rfl, rfl, rfl, trivial⟩ rfl rfl ?_
  rintro ⟨i, h4⟩ ⟨s4, hi⟩
  simp only at s4 hi ⊢
  have k4 := (k.same S3).same s4
  have k4' := (k'.same S3).same s4
  have g04 := s4.get G0
  have g14 := s4.get G1
  rcases Nat.lt_or_ge i n' with i0 | i0
  · have i1 : i < l.length := by rw [k.len]; exact i0
    have i1' : i < l'.length := by rw [k'.len]; exact i0
    have c0 := kcs_get i1
    have c0' := kcs_get i1'
    have hbe : i * 15 + 15 ≤ (kcs l).length := by rw [kcs_len]; omega
    have hbe' : i * 15 + 15 ≤ (kcs l').length := by rw [kcs_len]; omega
    have hA4 := k4.rv
    have hA4' := k4'.rv
    have hp := pcs_get e i1 i1'
    have hm : l[i] ∈ l := List.getElem_mem i1
    have hm' : l'[i] ∈ l' := List.getElem_mem i1'
    generalize l[i] = x at *
    generalize l'[i] = x' at *
    obtain ⟨c, d⟩ := x
    obtain ⟨c', d'⟩ := x'
    obtain ⟨b1, b2, b3, b4⟩ := hb _ hm
    simp only at c0 c0' hp b1 b2 b3 b4
    unfold Ck.cs at c0 c0'
    (refine Go.run (g:=?_))
    refine GoR.call rfl rfl rfl rfl rfl rfl rfl (((same5_spec c c' d d' _ (k4.ok _ hm) (k4'.ok _ hm') hp b1 b2 b3 b4).argA).mono ?_)
    rintro _ h5 rfl s5
    (refine Go.run (g:=?_))
    exact Go.again (i + 1, h5) ⟨s4.trans s5, by simp only; omega⟩ (by simp only; omega) ⟨rfl, rfl, rfl, trivial⟩ rfl rfl
  · (refine Go.run (g:=?_))
    (first|refine Go.finT (by first|exact .inr rfl|exact .inl rfl) rfl ?_|refine Go.fin1 (by first|exact .inr rfl|exact .inl rfl) rfl (hq:=?_))
    rfl
end Go.Proofs.Ytjpegoigipbmiaa
namespace Go.Proofs.Ytjpegoigipbmiaa
set_option maxRecDepth 100000
def Puts (chunk : Bool) (x : Thing) : Prop := x.1 < 65536 ∧ x.2.1 < 256 ∧ (chunk = true → x.1 ≤ 255) ∧ (chunk = false → x.2.1 = 0) ∧ x.2.2.length ≤ 65531
def tb (chunk : Bool) (x : Thing) : List UInt8 := tlvB chunk x.1 x.2.1 x.2.2
def hd4 (chunk : Bool) (x : Thing) : List UInt8 := (if chunk then [UInt8.ofNat x.1, UInt8.ofNat x.2.1] else [UInt8.ofNat (x.1 / 256), UInt8.ofNat x.1]) ++ [UInt8.ofNat ((4 + x.2.2.length) / 256), UInt8.ofNat (4 + x.2.2.length)]
theorem tb_eq (chunk : Bool) (x : Thing) : tb chunk x = hd4 chunk x ++ (x.2.2 ++ List.replicate (up4 (x.2.2.length + 4) - 4 - x.2.2.length) 0) := by
  simp only [tb, tlvB, hd4, up4, List.append_assoc]
def tbs (chunk : Bool) (xs : List Thing) : List UInt8 := (xs.map (tb chunk)).flatten
theorem thing_puts {chunk : Bool} {z : List UInt8} (h : Whole z) : Puts chunk (thing chunk z) := by
  have hN : tN z < 65536 := beNum_lt_of (k := 2) (by simp; omega) rfl
  have hb := thing_bounds (chunk := chunk) (z := z)
  refine ⟨hb.1, hb.2, fun e => ?_, fun e => ?_, by rw [thing_len h]; omega⟩
  · subst e
    have : beNum (z.take 1) < 256 := beNum_lt_of (k := 1) (by simp; omega) rfl
    simp [thing]; omega
  · subst e; rfl
theorem tb_thing_eq {chunk : Bool} {z : List UInt8} (h : Whole z) : tb chunk (thing chunk z) = z.take (up4 (tN z)) := by
  have hl := thing_len (chunk := chunk) h
  have hu := up4_le (tN z)
  obtain ⟨h1, h2, h3, h4⟩ := h
  have e4 : (thing chunk z).2.2.length + 4 = tN z := by rw [hl]; omega
  have hd : hd4 chunk (thing chunk z) = z.take 4 := by
    have t2 : (z.drop 2).take 2 = beB 2 (tN z) := (beB_beNum_n (by simp; omega)).symm
    have e : z.take 4 = z.take 2 ++ (z.drop 2).take 2 := by rw [← List.take_add]
    rw [e, t2, beB2]
    unfold hd4
    rw [Nat.add_comm 4, e4]
    congr 1
    cases chunk with
    | false =>
      simp only [thing, Bool.false_eq_true, if_false]
      rw [← beB2, beB_beNum_n (by simp; omega)]
    | true =>
      have a0 := take_two (z := z) (i := 0) (by omega)
      have a1 := take_one (z := z) (i := 0) (by omega)
      have a2 := take_one (z := z) (i := 1) (by omega)
      rw [List.drop_zero] at a0 a1
      simp only [thing, if_true, a0, a1, a2, beNum_one]
      simp
  have hv : (thing chunk z).2.2 = (z.drop 4).take (tN z - 4) := rfl
  have hp : List.replicate (up4 ((thing chunk z).2.2.length + 4) - 4 - (thing chunk z).2.2.length) (0 : UInt8) = (z.drop (tN z)).take (up4 (tN z) - tN z) := by
    rw [e4, hl]
    symm
    apply List.eq_replicate_iff.2
    refine ⟨by simp; omega, fun b hb => ?_⟩
    have := List.all_eq_true.1 h4 b hb
    simpa using this
  rw [tb_eq, hd, hp, hv]
  have s1 : z.take (up4 (tN z)) = z.take 4 ++ (z.drop 4).take (up4 (tN z) - 4) := by
    rw [← List.take_add]; congr 1; omega
  have s2 : (z.drop 4).take (up4 (tN z) - 4) = (z.drop 4).take (tN z - 4) ++ ((z.drop 4).drop (tN z - 4)).take (up4 (tN z) - tN z) := by
    rw [← List.take_add]; congr 1; omega
  rw [s1, s2, List.drop_drop]
  congr 4
  omega
theorem tbs_parse {chunk : Bool} : ∀ (z : List UInt8), (parse chunk z).2 = true → tbs chunk (parse chunk z).1 = z ∧ ∀ x ∈ (parse chunk z).1, Puts chunk x := by
  intro z
  induction hn : z.length using Nat.strongRecOn generalizing z with
  | _ n ih =>
    intro hw
    by_cases h0 : z = []
    · subst h0; rw [parse_nil]; exact ⟨rfl, fun x hx => by cases hx⟩
    · by_cases h : Whole z
      · rw [parse_some h] at hw ⊢
        have hu := up4_le (tN z)
        have h2 := h.2.1
        have h1 := h.1
        obtain ⟨i1, i2⟩ := ih (z.drop (up4 (tN z))).length (by simp; omega) (z.drop (up4 (tN z))) rfl hw
        refine ⟨?_, fun x hx => ?_⟩
        · show tb chunk (thing chunk z) ++ tbs chunk _ = z
          rw [i1, tb_thing_eq h]
          exact List.take_append_drop _ _
        · rcases List.mem_cons.1 hx with rfl | hx
          · exact thing_puts h
          · exact i2 x hx
      · rw [parse_none h0 h] at hw; cases hw
end Go.Proofs.Ytjpegoigipbmiaa
namespace Go.Proofs.Ytjpegoigipbmiaa
theorem drop_split {z : List UInt8} {i n : Nat} (h : i + n ≤ z.length) : z.drop i = beB n (nAt z i n) ++ z.drop (i + n) := by
  unfold nAt
  rw [beB_beNum_n (by simp; omega), ← List.drop_drop, List.take_append_drop]
theorem may_clean {c : Ck} {gs : List (Nat × Nat)} (h : may c gs = true) : MayF c := by
  unfold may at h
  rw [Bool.and_eq_true] at h
  exact of_decide_eq_true h.1
theorem gapsBy_at (z : List UInt8) (n : Nat) (h : 4 * n ≤ z.length) : gapsBy (gapsAt z n) = z.take (4 * n) := by
  induction n with
  | zero => rfl
  | succ n ih =>
    have e : gapsAt z (n + 1) = gapsAt z n ++ [(nAt z (4 * n) 2, nAt z (4 * n + 2) 2)] := by simp [gapsAt, List.range_succ]
    have e2 : gapsBy (gapsAt z n ++ [(nAt z (4 * n) 2, nAt z (4 * n + 2) 2)]) = gapsBy (gapsAt z n) ++ (beB 2 (nAt z (4 * n) 2) ++ beB 2 (nAt z (4 * n + 2) 2)) := by simp [gapsBy]
    rw [e, e2, ih (by omega), show 4 * (n + 1) = 4 * n + (2 + 2) from by omega, List.take_add, List.take_add]
    unfold nAt
    rw [beB_beNum_n (by simp; omega), beB_beNum_n (by simp; omega), List.drop_drop]
theorem be4s_at (z : List UInt8) (n : Nat) (h : 4 * n ≤ z.length) : be4s (dupsAt z n) = z.take (4 * n) := by
  induction n with
  | zero => rfl
  | succ n ih =>
    have e : dupsAt z (n + 1) = dupsAt z n ++ [nAt z (4 * n) 4] := by simp [dupsAt, List.range_succ]
    have e2 : be4s (dupsAt z n ++ [nAt z (4 * n) 4]) = be4s (dupsAt z n) ++ beB 4 (nAt z (4 * n) 4) := by simp [be4s]
    rw [e, e2, ih (by omega), show 4 * (n + 1) = 4 * n + 4 from by omega, List.take_add]
    unfold nAt
    rw [beB_beNum_n (by simp; omega)]
theorem causes_eq (l : List CV) (xs : List Thing) (e : l.map (fun x => (x.k, x.z)) = xs.map (fun x => (x.1, x.2.2))) (h : ∀ x ∈ xs, Puts false x) : allShort l = true ∧ causesB l = tbs false xs := by
  induction l generalizing xs with
  | nil => cases xs with
    | nil => exact ⟨rfl, rfl⟩
    | cons y ys => cases e
  | cons x l ih => cases xs with
    | nil => cases e
    | cons y ys =>
      simp only [List.map_cons, List.cons.injEq, Prod.mk.injEq] at e
      obtain ⟨⟨e1, e2⟩, e3⟩ := e
      obtain ⟨i1, i2⟩ := ih ys e3 fun z hz => h z (by simp [hz])
      obtain ⟨p1, p2, p3, p4, p5⟩ := h y (by simp)
      have hx : x.z.length ≤ 65531 := by rw [e2]; exact p5
      refine ⟨by simp only [allShort, List.all_cons, Bool.and_eq_true] at i1 ⊢; exact ⟨decide_eq_true hx, i1⟩, ?_⟩
      have : causesB (x :: l) = pB x.k x.z ++ causesB l := by simp [causesB]
      rw [this, i2, pB, if_pos hx, e1, e2]
      have p4 := p4 rfl
      simp [tbs, tb, p4]
theorem put_tk {H : AHeap} {c : Ck} {d : CD} {k f : Nat} {z : List UInt8} (ok : COk H c d) (h : tkP k f z = some (pcOf c d)) : c.k = k ∧ c.f = f ∧ k ≤ 255 ∧ may c d.gaps = true ∧ (k ≠ 1 → k ≠ 2 → cval c d = some z) := by
  unfold tkP at h
  split at h
  · cases h
  rename_i hk
  obtain ⟨h1, h2⟩ := Option.filter_eq_some_iff.1 h
  rw [mayP_of ok] at h2
  have l3 := ok.gl
  have l4 := ok.ul
  clear ok h
  obtain ⟨k', f', tag, rwnd, tsn, out, inn, sid, ssn, ppid, ⟨_, Dn, _⟩, ⟨_, An, _⟩, ⟨_, Gn, _⟩, ⟨_, Un, _⟩, ⟨_, Cn, _⟩⟩ := c
  obtain ⟨data, addrs, gaps, dups, causes⟩ := d
  simp only at *
  subst l3 l4
  unfold rawP pcOf PC.z at h1
  simp only at h1
  split at h1
  · split at h1
    case isFalse => cases h1
    rename_i g
    simp only [Option.some.injEq, PC.mk.injEq] at h1
    obtain ⟨rfl, rfl, -, -, rfl, -, -, rfl, rfl, rfl, rfl, -⟩ := h1
    refine ⟨rfl, rfl, by omega, h2, fun _ _ => ?_⟩
    simp only [cval, List.append_assoc]
    rw [← drop_split (i := 8) (by omega), ← drop_split (i := 6) (by omega), ← drop_split (i := 4) (by omega), ← drop_split (i := 0) (by omega), List.drop_zero]
  · split at h1
    case isFalse => cases h1
    simp only [Option.map_eq_some_iff, PC.mk.injEq] at h1
    obtain ⟨y, -, rfl, rfl, -⟩ := h1
    exact ⟨rfl, rfl, by omega, h2, fun x => absurd rfl x⟩
  · split at h1
    case isFalse => cases h1
    simp only [Option.map_eq_some_iff, PC.mk.injEq] at h1
    obtain ⟨y, -, rfl, rfl, -⟩ := h1
    exact ⟨rfl, rfl, by omega, h2, fun _ x => absurd rfl x⟩
  · split at h1
    case isFalse => cases h1
    rename_i g
    simp only [Option.some.injEq, PC.mk.injEq] at h1
    obtain ⟨rfl, rfl, -, rfl, rfl, -, -, -, -, -, -, -, rfl, rfl, -⟩ := h1
    refine ⟨rfl, rfl, by omega, h2, fun _ _ => ?_⟩
    obtain ⟨g1, g2⟩ := g
    have a1 : (gapsAt (z.drop 12) (nAt z 8 2)).length = nAt z 8 2 := by simp [gapsAt]
    have a2 : (dupsAt (z.drop (12 + 4 * nAt z 8 2)) (nAt z 10 2)).length = nAt z 10 2 := by simp [dupsAt]
    simp only [cval, List.append_assoc, a1, a2]
    rw [gapsBy_at _ _ (by simp; omega), be4s_at _ _ (by simp; omega)]
    have e : (z.drop 12).take (4 * nAt z 8 2) ++ (z.drop (12 + 4 * nAt z 8 2)).take (4 * nAt z 10 2) = z.drop 12 := by
      rw [List.take_of_length_le (l := z.drop (12 + 4 * nAt z 8 2)) (by simp; omega), ← List.drop_drop, List.take_append_drop]
    rw [e, ← drop_split (i := 10) (by omega), ← drop_split (i := 8) (by omega), ← drop_split (i := 4) (by omega), ← drop_split (i := 0) (by omega), List.drop_zero]
  · split at h1
    case isFalse => cases h1
    rename_i g
    simp only [Option.some.injEq, PC.mk.injEq] at h1
    obtain ⟨rfl, rfl, -, -, -, -, -, -, -, -, -, -, -, -, e⟩ := h1
    refine ⟨rfl, rfl, by omega, h2, fun _ _ => ?_⟩
    obtain ⟨t1, t2⟩ := tbs_parse z g
    obtain ⟨q1, q2⟩ := causes_eq causes _ e.symm t2
    simp only [cval, q1, if_true, q2, t1]
  · split at h1
    case isFalse => cases h1
    rename_i g
    simp only [Option.some.injEq, PC.mk.injEq] at h1
    obtain ⟨rfl, rfl, -, -, -, -, -, -, -, -, -, -, -, -, e⟩ := h1
    refine ⟨rfl, rfl, by omega, h2, fun _ _ => ?_⟩
    obtain ⟨t1, t2⟩ := tbs_parse z g
    obtain ⟨q1, q2⟩ := causes_eq causes _ e.symm t2
    simp only [cval, q1, if_true, q2, t1]
  · split at h1
    case isFalse => cases h1
    rename_i g
    simp only [Option.some.injEq, PC.mk.injEq] at h1
    obtain ⟨rfl, rfl, -, -, rfl, -⟩ := h1
    refine ⟨rfl, rfl, by omega, h2, fun _ _ => ?_⟩
    have e := drop_split (z := z) (i := 0) (n := 4) (by omega)
    rw [List.drop_zero, List.drop_of_length_le (by omega), List.append_nil] at e
    simp only [cval]
    rw [← e]
  · split at h1
    case isFalse => cases h1
    rename_i g
    simp only [Option.some.injEq, PC.mk.injEq] at h1
    obtain ⟨rfl, rfl, -, -, -, -, -, -, -, -, rfl, -⟩ := h1
    refine ⟨rfl, rfl, by omega, h2, fun _ _ => ?_⟩
    rw [List.eq_nil_of_length_eq_zero g]; rfl
  · split at h1
    case isFalse => cases h1
    rename_i g
    simp only [Option.some.injEq, PC.mk.injEq] at h1
    obtain ⟨rfl, rfl, -, -, -, -, -, -, -, -, rfl, -⟩ := h1
    refine ⟨rfl, rfl, by omega, h2, fun _ _ => ?_⟩
    rw [List.eq_nil_of_length_eq_zero g]; rfl
  · split at h1
    case isFalse => cases h1
    rename_i g
    simp only [Option.some.injEq, PC.mk.injEq] at h1
    obtain ⟨rfl, rfl, -, -, -, -, -, -, -, -, rfl, -⟩ := h1
    refine ⟨rfl, rfl, by omega, h2, fun _ _ => ?_⟩
    rw [List.eq_nil_of_length_eq_zero g]; rfl
  · simp only [Option.some.injEq, PC.mk.injEq] at h1
    obtain ⟨rfl, rfl, -, -, -, -, -, -, -, -, rfl, -⟩ := h1
    refine ⟨rfl, rfl, by omega, h2, fun _ _ => ?_⟩
    unfold cval
    split <;> first | rfl | contradiction | omega
theorem parse_small {chunk : Bool} : ∀ (z : List UInt8), ∀ x ∈ (parse chunk z).1, x.2.2.length ≤ z.length := by
  intro z
  induction hn : z.length using Nat.strongRecOn generalizing z with
  | _ n ih =>
    intro x hx
    by_cases h0 : z = []
    · subst h0; rw [parse_nil] at hx; cases hx
    · by_cases h : Whole z
      · rw [parse_some h] at hx
        have hu := up4_le (tN z)
        have h2 := h.2.1
        have h3 := h.2.2.1
        have h1 := h.1
        rcases List.mem_cons.1 hx with rfl | hx
        · rw [thing_len h]; omega
        · have := ih (z.drop (up4 (tN z))).length (by simp; omega) (z.drop (up4 (tN z))) rfl x hx
          simp at this; omega
      · rw [parse_none h0 h] at hx; cases hx
theorem pgo_small (kind : Nat) (well : Bool) (N : Nat) (l : List Thing) (hl : ∀ x ∈ l, x.2.2.length ≤ N) (A : List Nat) (D : List UInt8) (hD : D.length ≤ N) (n : Nat) (r : List Nat × List UInt8) (h : pgo kind well l A D n = some r) : r.2.length ≤ N := by
  induction l generalizing A D n with
  | nil =>
    simp only [pgo] at h
    split at h
    · cases h; exact hD
    · cases h
  | cons x l ih =>
    obtain ⟨k, f, z⟩ := x
    have hz : z.length ≤ N := hl (k, f, z) (by simp)
    have ih' := ih fun x hx => hl x (by simp [hx])
    simp only [pgo] at h
    split at h
    · split at h
      · exact ih' _ _ hD _ h
      · cases h
    · split at h
      · split at h
        · cases h
        · exact ih' _ _ hz _ h
      · split at h
        · cases h; exact hD
        · exact ih' _ _ hD _ h
theorem tk_bounds {H : AHeap} {c : Ck} {d : CD} {k f : Nat} {z : List UInt8} (ok : COk H c d) (h : tkP k f z = some (pcOf c d)) : c.D.n ≤ z.length ∧ c.A.n ≤ 3 ∧ c.G.n ≤ 64 ∧ c.U.n ≤ 16 ∧ c.C.n ≤ z.length := by
  obtain ⟨-, -, -, hm, -⟩ := put_tk ok h
  obtain ⟨hs, m1, m2, m3, m4⟩ := may_clean hm
  unfold tkP at h
  split at h
  · cases h
  obtain ⟨h1, -⟩ := Option.filter_eq_some_iff.1 h
  have hpl := parse_len (chunk := false) z
  have key : d.data.length ≤ z.length ∧ (d.causes.map fun x => (x.k, x.z)).length ≤ z.length := by
    unfold rawP pcOf PC.z at h1
    split at h1
    all_goals (try split at h1)
    all_goals (first | (cases h1; done) | skip)
    all_goals (first | (simp only [Option.some.injEq, PC.mk.injEq] at h1; obtain ⟨-, -, -, -, -, -, -, -, -, -, e1, -, -, -, e2⟩ := h1; rw [← e1, ← e2]; simp; done) | (simp only [Option.some.injEq, PC.mk.injEq] at h1; obtain ⟨-, -, -, -, -, -, -, -, -, -, e1, -, -, -, e2⟩ := h1; rw [← e1, ← e2]; simp; omega) | skip)
    all_goals
      simp only [Option.map_eq_some_iff, PC.mk.injEq] at h1
      obtain ⟨r, hr, -, -, -, -, -, -, -, -, -, -, e1, -, -, -, e2⟩ := h1
      rw [← e1, ← e2]
      exact ⟨pgo_small _ _ z.length _ (fun x hx => Nat.le_trans (parse_small _ x hx) (by simp)) [] [] (Nat.zero_le _) 0 r hr, Nat.zero_le _⟩
  rw [ok.dl, List.length_map, ok.cl] at key
  exact ⟨key.1, m1, m2, m3, key.2⟩
end Go.Proofs.Ytjpegoigipbmiaa
namespace Go.Proofs.Ytjpegoigipbmiaa
theorem goP_mem {its : List Thing} {wl : Bool} {acc pl : List PC} (h : goP its wl acc = .ok pl) : ∀ p ∈ pl, p ∈ acc ∨ ∃ x ∈ its, tkP x.1 x.2.1 x.2.2 = some p := by
  induction its generalizing acc with
  | nil =>
    simp only [goP] at h
    split at h
    · cases h; exact fun p hp => .inl hp
    · cases h
  | cons x its ih =>
    simp only [goP] at h
    split at h
    · cases h; exact fun p hp => .inl hp
    · split at h
      · cases h
      · rename_i q hq
        intro p hp
        rcases ih h p hp with hp | ⟨y, hy, e⟩
        · rcases List.mem_append.1 hp with hp | hp
          · exact .inl hp
          · simp only [List.mem_singleton] at hp; subst hp
            exact .inr ⟨x, List.mem_cons_self .., hq⟩
        · exact .inr ⟨y, List.mem_cons_of_mem _ hy, e⟩
theorem take6_ok {zs : List UInt8} {f t g : Nat} {pl : List PC} (h : take6 zs = .ok (f, t, g, pl)) : htk zs = .ok (f, t, g) ∧ goP (parse true (zs.drop 12)).1 (parse true (zs.drop 12)).2 [] = .ok pl ∧ pmayK g (pl.map (·.k)) = true := by
  unfold take6 at h
  split at h
  · cases h
  · rename_i f' t' g' he
    split at h
    · cases h
    · rename_i l hl
      split at h
      · rename_i hm
        cases h
        exact ⟨he, hl, hm⟩
      · cases h
theorem take6_mem {zs : List UInt8} {f t g : Nat} {pl : List PC} (h : take6 zs = .ok (f, t, g, pl)) : ∀ p ∈ pl, ∃ k fl z, tkP k fl z = some p ∧ z.length ≤ zs.length ∧ k < 256 ∧ fl < 256 := by
  obtain ⟨-, h2, -⟩ := take6_ok h
  intro p hp
  rcases goP_mem h2 p hp with hp | ⟨x, hx, e⟩
  · cases hp
  · obtain ⟨h3, h4, h5⟩ := parse_kind _ _ (Nat.le_refl _) x hx
    rw [List.length_drop] at h5
    exact ⟨_, _, _, e, by omega, h3, h4⟩
theorem take6_sb {zs : List UInt8} {f t g : Nat} {pl : List PC} (h : take6 zs = .ok (f, t, g, pl)) (hl : zs.length ≤ 1000000) {H : AHeap} {l : List CP} (ho : ∀ x ∈ l, COk H x.1 x.2) (e : pcs l = pl) : ∀ x ∈ l, SB x.1 ∧ x.1.D.n ≤ 1000000 ∧ x.1.C.n ≤ 1000000 := by
  intro x hx
  obtain ⟨k, fl, z, ht, hz, -⟩ := take6_mem h (pcOf x.1 x.2) (by rw [← e]; exact List.mem_map_of_mem hx)
  obtain ⟨b1, b2, b3, b4, b5⟩ := tk_bounds (ho x hx) ht
  exact ⟨⟨by omega, by omega, by omega, by omega⟩, by omega, by omega⟩
theorem goP_len {its : List Thing} {wl : Bool} {acc pl : List PC} (h : goP its wl acc = .ok pl) : pl.length ≤ acc.length + its.length := by
  induction its generalizing acc with
  | nil =>
    simp only [goP] at h
    split at h
    · cases h; simp
    · cases h
  | cons x its ih =>
    simp only [goP] at h
    split at h
    · cases h; exact Nat.le_add_right _ _
    · split at h
      · cases h
      · have := ih h
        simp only [List.length_append, List.length_cons, List.length_nil] at this ⊢
        omega
theorem take6_len {zs : List UInt8} {f t g : Nat} {pl : List PC} (h : take6 zs = .ok (f, t, g, pl)) : pl.length ≤ 400 := by
  obtain ⟨h1, h2, -⟩ := take6_ok h
  obtain ⟨-, h3, -⟩ := htk_ok h1
  have := goP_len h2
  have h4 := parse_len (chunk := true) (zs.drop 12)
  rw [List.length_drop] at h4
  simp only [List.length_nil] at this
  omega
end Go.Proofs.Ytjpegoigipbmiaa
namespace Go.Proofs.Ytjpegoigipbmiaa
theorem KS.nil (h : AHeap) : KS h none 0 0 [] := ⟨rfl, Rv.nil, fun x hx => by cases hx⟩
theorem takeP_cases {h' : AHeap} {v : Value} {zs : List UInt8} (t : TakeP h' v (take6 zs)) (hl : zs.length ≤ 1000000) : ∃ (f p g : Nat) (a : Option Addr) (n cap : Nat) (l : List CP) (e : Nat), v = .tuple #[pkV f p g a n cap, .int .i64 e] ∧ KS h' a n cap l ∧ n ≤ 400 ∧ (∀ x ∈ l, SB x.1 ∧ x.1.D.n ≤ 1000000 ∧ x.1.C.n ≤ 1000000) ∧ ((e = 0 ∧ take6 zs = .ok (f, p, g, pcs l)) ∨ (e ≠ 0 ∧ take6 zs = .error e ∧ f = 0 ∧ p = 0 ∧ g = 0 ∧ l = [] ∧ a = none ∧ n = 0 ∧ cap = 0)) := by
  cases he : take6 zs with
  | error e =>
    rw [he] at t
    exact ⟨0, 0, 0, none, 0, 0, [], e, t, KS.nil _, Nat.zero_le _, fun x hx => (by cases hx), .inr ⟨take6_err he, rfl, rfl, rfl, rfl, rfl, rfl, rfl, rfl⟩⟩
  | ok r =>
    obtain ⟨f, p, g, pl⟩ := r
    rw [he] at t
    obtain ⟨a, n, cap, l, rfl, ks, rfl⟩ := t
    exact ⟨f, p, g, a, n, cap, l, 0, rfl, ks, by have := take6_len he; rw [pcs_len, ks.len] at this; exact this, take6_sb he hl ks.ok rfl, .inl ⟨rfl, rfl⟩⟩
end Go.Proofs.Ytjpegoigipbmiaa
namespace Go.Proofs.Ytjpegoigipbmiaa
set_option maxRecDepth 100000
attribute [local irreducible] Go GoR GoL
set_option maxHeartbeats 8000000 in
theorem pktTakes_spec (a : Option Addr) (cap : Nat) (zs : List UInt8) (hcap : cap ≤ maxLen) (h : AHeap) (hz : Rv Try.prog h 1 a zs.length cap (zs.map bv)) : CallS Try.prog [] 4 [.slice a zs.length cap] h fun v h' => v = .bool true := by
  have hle := hz.le
  simp only [maxLen] at hcap
  obtain ⟨n, hlen⟩ : ∃ n, n = zs.length := ⟨_, rfl⟩
  rw [← hlen] at hz hle ⊢
  (refine CallS.of1 Try.func4 rfl Try.ntmps4 Try.results4 rfl ?_)
  (refine Go.run (g:=?_))
  refine GoR.call rfl rfl rfl rfl rfl rfl rfl (((known06 _).argA).mono ?_)
  rintro _ h3' ⟨rfl, rfl⟩ -
  rcases Nat.lt_or_ge 5000 n with q | q
  · (refine Go.run (g:=?_))
    (first|refine Go.finT (by first|exact .inr rfl|exact .inl rfl) rfl ?_|refine Go.fin1 (by first|exact .inr rfl|exact .inl rfl) rfl (hq:=?_))
    rfl
  have ptk := ptake_spec a cap zs (by omega) _ (by rw [← hlen]; exact hz)
  rw [← hlen] at ptk
  (refine Go.run (g:=?_))
  refine GoR.call rfl rfl rfl rfl rfl rfl rfl (((ptk).argA).mono ?_)
  intro v4 h4 hv4 s4
  have n4 := s4.1
  obtain ⟨f, p, g, b, m, c, l, e, rfl, ks, hm, hb, hc⟩ := takeP_cases hv4 (by omega)
  clear hv4 ptk
  (refine Go.run (g:=?_))
  refine GoR.name ?_
  intro h5 e5
  have s5 : Same h4 h5 := by subst e5; exact ((Same.refl h4).push _).put (Nat.le_refl _) _
  have n5 : h5.n = h4.n + 1 := by subst e5; rfl
  have g5 : h5.get h4.n = some (.cells [.int .u16 f, .int .u16 p, .int .u32 g, .slice b m c] 28) := by subst e5; exact AHeap.get_put_same _ (by simp) _
  clear e5
  have rtk := rtake6_spec a cap zs (by omega) h5 (by rw [← hlen]; exact (hz.same s4).same s5)
  rw [← hlen] at rtk
  refine GoR.call rfl rfl rfl rfl rfl rfl rfl (((rtk).argA).mono ?_)
  intro v6 h6 hv6 s6
  have n6 := s6.1
  have g6 := s6.get g5
  obtain ⟨f', p', g', b', m', c', l', e', rfl, ks', hm', hb', hc'⟩ := takeP_cases hv6 (by omega)
  clear hv6 rtk
  have key : f = f' ∧ p = p' ∧ g = g' ∧ e = e' ∧ pcs l = pcs l' := by
    rcases hc with ⟨rfl, h1⟩ | ⟨he, h1, rfl, rfl, rfl, rfl, rfl, rfl, rfl⟩ <;> rcases hc' with ⟨rfl, h2⟩ | ⟨he', h2, rfl, rfl, rfl, rfl, rfl, rfl, rfl⟩
    · rw [h1] at h2
      simp only [Except.ok.injEq, Prod.mk.injEq] at h2
      obtain ⟨rfl, rfl, rfl, h2⟩ := h2
      exact ⟨rfl, rfl, rfl, rfl, h2⟩
    · rw [h1] at h2; cases h2
    · rw [h1] at h2; cases h2
    · rw [h1] at h2; cases h2; exact ⟨rfl, rfl, rfl, rfl, rfl⟩
  clear hc hc'
  obtain ⟨rfl, rfl, rfl, rfl, hpc⟩ := key
  (refine Go.run (g:=?_))
  refine GoR.name ?_
  intro h7 e7
  have s7 : Same h6 h7 := by subst e7; exact ((Same.refl h6).push _).put (Nat.le_refl _) _
  clear e7
  refine GoR.call rfl rfl rfl rfl rfl rfl rfl (((same6_spec f p g b b' m c m' c' l l' _ (((ks.same s5).same s6).same s7) (ks'.same s7) hpc (by omega) (fun x hx => (hb x hx).1)).argA).mono ?_)
  rintro _ h8 rfl s8
  (refine Go.run (g:=?_))
  (first|refine Go.finT (by first|exact .inr rfl|exact .inl rfl) rfl ?_|refine Go.fin1 (by first|exact .inr rfl|exact .inl rfl) rfl (hq:=?_))
  simp [retV]
end Go.Proofs.Ytjpegoigipbmiaa
namespace Go.Proofs.Ytjpegoigipbmiaa
set_option maxRecDepth 100000
theorem hu8 : Try.prog.underlying 5 = some (.int .u8) := by kernel_rfl
theorem hbytesU : Try.prog.underlying 31 = some (.slice 5) := by kernel_rfl
theorem plainBytes : plainB Try.prog 3 31 = true := by kernel_rfl
theorem imp_bytes {H : Type} {enc : TypeId × Value → H} {W : World} {m : Mp} {h : AHeap} {base : Nat} {v : Value} {d : DataW H} {ps : List MemPlace} (o : Value.okWide Try.prog W .any base 31 v) (ht : DataW.Trod enc Try.prog W 0 (fun _ => true) true 31 v d ps) (I : Im Try.prog W m h) :
    ∃ m' h', Im Try.prog W m' h' ∧ m.le m' ∧ Same h h' ∧ ∃ (a : Option Addr) (cap : Nat) (zs : List UInt8), VRel m' (.slice a zs.length cap) v ∧ Rv Try.prog h' 1 a zs.length cap (zs.map bv) ∧ cap ≤ maxLen := by
  obtain ⟨a0, l0, c0, rfl⟩ := WideShapes.okWide_slice hbytesU o
  obtain ⟨m', h', cs, I', hm, hs, hA, hR, hl⟩ := imp_val plainBytes ht I
  obtain ⟨x, rfl, hv⟩ := vrel_one hA (by rw [hl]; kernel_rfl) rfl
  obtain ⟨a, cap, zs, e, hz, hc⟩ := hR.bytes hbytesU hu8 (by kernel_rfl)
  cases e
  exact ⟨m', h', I', hm, hs, a, cap, zs, hv, hz, hc⟩
end Go.Proofs.Ytjpegoigipbmiaa
namespace Go.Proofs.Ytjpegoigipbmiaa
open Go.ChangeShapes Go.WideShapes Go.ChangeAt Go.RowKit
set_option maxRecDepth 100000
theorem pktTakesWalk {H : Type} {enc : TypeId × Value → H} {base : Nat} {d0 : DataW H} {p0 : List MemPlace} (v0 : Value) (W : World) (o0 : Value.okWide Try.prog W .any base 31 v0) (h0 : DataW.Trod enc Try.prog W 0 (fun _ => true) true 31 v0 d0 p0) : Calls Try.prog 4 #[v0] W fun e w' => e = .returned (.bool true) ∧ Below W.heap.size W w' := by
  obtain ⟨m, h, I, _, _, a, cap, zs, hv, hz, hc⟩ := imp_bytes o0 h0 (Im.empty Try.prog W)
  exact calls_imp noGlobals I rfl (pktTakes_spec a cap zs hc h hz) (ARel.single hv)
end Go.Proofs.Ytjpegoigipbmiaa