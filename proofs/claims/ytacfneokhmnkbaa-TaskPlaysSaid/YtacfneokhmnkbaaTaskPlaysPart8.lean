/- What the law leans on, part 8. No conditions. -/
import Derived.Test.YtacfneokhmnkbaaTaskPlaysPart7
set_option linter.unusedVariables false
set_option linter.unusedSimpArgs false
namespace Go.Proofs.Ytacfneokhmnkbaa
set_option maxRecDepth 100000
attribute [local irreducible] Go GoR GoL
structure DS (x : DD) : Prop where
  len : x.acts.length ≤ 200
  ws : ∀ y ∈ x.acts, y.ws.length ≤ 200
theorem DIn.same {h h' : AHeap} {x : DD} (k : DIn h x) (s : Same h h') : DIn h' x := { k with rv := k.rv.same s, ok := fun y hy => (k.ok y hy).same s }
theorem DIn.row {h H : AHeap} {x : DD} (k : DIn h x) (s : DS x) (e : Same h H) : ARow h.n H x.xa x.xc x.acts :=
  ⟨k.rv.same e, fun i hi => k.rv.lt i hi, fun y hy => ⟨(k.ok y hy).rv.same e, fun i hi => (k.ok y hy).rv.lt i hi, (k.ok y hy).ws, s.ws y hy, (k.ok y hy).pk, (k.ok y hy).tl⟩, s.len⟩
theorem row0 (B : Nat) (H : AHeap) : ARow B H none 0 [] := ⟨.nil, fun i hi => (by cases hi), fun x hx => (by cases hx), Nat.zero_le _⟩
structure LP (h : AHeap) (w : PW) (i : Nat) (S : PS) (H : AHeap) : Prop where
  p : PP w S H
  B : w.B = h.n
  dp : S.deep = 0
  left : -(30000 * (i : Int)) ≤ S.left
  hi : S.left ≤ 600
  same : Same h H
theorem LP.wr {h : AHeap} {w : PW} {i : Nat} {S : PS} {H : AHeap} (L : LP h w i S H) : ∀ b ∈ wrS w S, h.n ≤ b := fun b hb => by have := wrS_ge L.p b hb; have := L.B; omega
theorem LP.same' {h : AHeap} {w : PW} {i : Nat} {S : PS} {H H' : AHeap} (L : LP h w i S H) (s : Same H H') : LP h w i S H' := ⟨L.p.same s, L.B, L.dp, L.left, L.hi, L.same.trans s⟩
set_option maxHeartbeats 16000000 in
theorem taskPlays_spec (ds : List DD) (a : Option Addr) (ca : Nat) (h : AHeap) (hz : Rv Try.prog h 3 a ds.length ca (dcs ds)) (hd : ∀ x ∈ ds, DIn h x) (hl : ds.length ≤ 140737488355328) : CallS Try.prog [] 3 [.slice a ds.length ca] h fun v h' => v = .bool true := by
  (refine CallS.of1 Try.func3 rfl Try.ntmps3 Try.results3 rfl ?_)
  (refine Go.run (g:=?_))
  refine GoR.call rfl rfl rfl rfl rfl rfl rfl (((known25 _).argA).mono ?_)
  rintro _ h ⟨rfl, rfl⟩ -
  (refine Go.run (g:=?_))
  refine Go.loop (α := Nat × Nat × AHeap) (fun x => [(18, .int .i64 x.1), (17, .int .i64 ds.length), (16, .slice a ds.length ca), (3, .int .i64 x.2.1), (0, .slice a ds.length ca)]) (fun _ => []) (fun x => x.2.2) (fun x => x.1 ≤ ds.length ∧ x.2.1 ≤ 200 ∧ Same h x.2.2 ∧ ∀ (i : Nat) D, i < x.1 → ds[i]? = some D → DS D) (fun x => ds.length - x.1) (0, 0, h) ?_ ?_ rfl rfl ?_
  · exact ⟨Nat.zero_le _, Nat.zero_le _, Same.refl _, fun i D hi => by simp only at hi; omega⟩
  · exact ⟨rfl, rfl, rfl, rfl, rfl, trivial⟩
  rintro ⟨i, acc, H⟩ ⟨hi, hacc, sH, hds⟩
  simp only at hi hacc sH hds ⊢
  rcases Nat.lt_or_ge i ds.length with i0 | i0
  · have hz6 := hz.same sH
    have hD : ds[i]? = some ds[i] := List.getElem?_eq_getElem i0
    have hDi := (hd _ (List.getElem_mem i0)).same sH
    have c0 := dcs_get hD
    have hbe : i * 3 + 3 ≤ (dcs ds).length := by rw [dcs_len]; omega
    have nH := sH.1
    generalize ds[i] = D at *
    (refine Go.run (g:=?_))
    refine Go.name ?_
    intro h5 e5
    have s5 : Same H h5 := by subst e5; exact ((Same.refl H).push _).put (Nat.le_refl _) _
    clear e5
    have n5 := s5.1
    have hrv := hDi.rv.same s5
    have hDl := hDi.len
    refine Go.loop (α := Nat × Nat × AHeap) (fun x => [(25, .int .i64 x.1), (24, .int .i64 D.acts.length), (23, .slice D.xa D.acts.length D.xc), (3, .int .i64 x.2.1), (18, .int .i64 i), (17, .int .i64 ds.length), (16, .slice a ds.length ca), (0, .slice a ds.length ca)]) (fun _ => []) (fun x => x.2.2) (fun x => x.1 ≤ D.acts.length ∧ x.1 ≤ x.2.1 ∧ x.2.1 ≤ 200 ∧ Same h5 x.2.2 ∧ ∀ (i : Nat) y, i < x.1 → D.acts[i]? = some y → y.ws.length ≤ 200) (fun x => D.acts.length - x.1) (0, acc, h5) ?_ ?_ rfl rfl ?_
    · exact ⟨Nat.zero_le _, Nat.zero_le _, hacc, Same.refl _, fun i D hi => by simp only at hi; omega⟩
    · exact ⟨rfl, rfl, rfl, rfl, rfl, rfl, rfl, rfl, trivial⟩
    clear hacc hz6 c0 hbe
    rintro ⟨j, acc, H'⟩ ⟨hj, hja, hacc, sH', hws⟩
    simp only at hj hja hacc sH' hws ⊢
    have nH' := sH'.1
    rcases Nat.lt_or_ge j D.acts.length with j0 | j0
    · have hz7 := hrv.same sH'
      have hA : D.acts[j]? = some D.acts[j] := List.getElem?_eq_getElem j0
      have hAi := hDi.ok _ (List.getElem_mem j0)
      have c1 := acs_get hA
      have hbe1 : j * 4 + 4 ≤ (acs D.acts).length := by rw [acs_len]; omega
      have hwl := hAi.len
      generalize D.acts[j] = y at *
      by_cases big : 200 < acc + (1 + y.ws.length)
      · have big' : (200 : Int) < ((acc + (1 + y.ws.length) : Nat) : Int) := by omega
        (refine Go.run (g:=?_))
        (first|refine Go.finT (by first|exact .inr rfl|exact .inl rfl) rfl ?_|refine Go.fin1 (by first|exact .inr rfl|exact .inl rfl) rfl (hq:=?_))
        rfl
      · have big' : ¬ (200 : Int) < ((acc + (1 + y.ws.length) : Nat) : Int) := by omega
        (refine Go.run (g:=?_))
        refine Go.name ?_
        intro h8 e8
        have s8 : Same H' h8 := by subst e8; exact ((Same.refl H').push _).put (Nat.le_refl _) _
        clear e8
        exact Go.again (j + 1, acc + (1 + y.ws.length), h8) ⟨by simp only; omega, by simp only; omega, by simp only; omega, sH'.trans s8, fun i y' hi hy => by
          simp only at hi
          rcases Nat.lt_or_ge i j with q | q
          · exact hws i y' q hy
          · obtain rfl : i = j := by omega
            rw [hA] at hy
            obtain rfl := Option.some.inj hy
            omega⟩ (by simp only; omega) ⟨rfl, rfl, rfl, rfl, rfl, rfl, rfl, rfl, trivial⟩ rfl rfl
    · (refine Go.run (g:=?_))
      exact Go.again (i + 1, acc, H') ⟨by simp only; omega, hacc, (sH.trans s5).trans sH', fun i' D' hi' hD' => by
        simp only at hi'
        rcases Nat.lt_or_ge i' i with q | q
        · exact hds i' D' q hD'
        · obtain rfl : i' = i := by omega
          rw [hD] at hD'
          obtain rfl := Option.some.inj hD'
          refine ⟨by omega, fun y hy => ?_⟩
          obtain ⟨k, hk, hky⟩ := List.mem_iff_getElem.1 hy
          exact hws k y (by omega) (by rw [List.getElem?_eq_getElem hk, hky])⟩ (by simp only; omega) ⟨rfl, rfl, rfl, rfl, rfl, trivial⟩ rfl rfl
  · have hiN : i = ds.length := by omega
    subst hiN
    by_cases q100 : 100 < ds.length
    · (refine Go.run (g:=?_))
      (first|refine Go.finT (by first|exact .inr rfl|exact .inl rfl) rfl ?_|refine Go.fin1 (by first|exact .inr rfl|exact .inl rfl) rfl (hq:=?_))
      rfl
    have nH := sH.1
    (refine Go.run (g:=?_))
    refine GoR.call rfl rfl rfl rfl rfl rfl rfl (((new_spec _).argA).mono ?_)
    rintro _ h3 ⟨rfl, n3, g3⟩ s3
    (refine Go.run (g:=?_))
    simp only [AHeap.n_push, n3]
    refine Go.name ?_
    intro h4 e4
    obtain ⟨N, hN⟩ : ∃ N, N = H.n := ⟨_, rfl⟩
    have s4 : Same h3 h4 := by subst e4; exact ((Same.refl h3).push _).push _
    have g04 : h4.get N = some (.cells [.slice none 0 0] 113) := s4.get (by rw [hN]; exact g3)
    have n4 : h4.n = N + 3 := by subst e4; simp only [AHeap.n_push]; omega
    have g14 : h4.get (N + 1) = some (.cells [.slice none 0 0] 36) := by subst e4; simp [AHeap.get_push, n3, hN]
    have g24 : h4.get (N + 2) = some (.cells [ptr N, ptr (N + 1), .slice none 0 0, .bool false, .int .i64 600, .int .i64 (0 : Nat)] 38) := by subst e4; simp [AHeap.get_push, n3, hN]
    clear e4 g3
    rw [← hN]
    have P0 : PP ⟨h.n, N + 3, N + 2, N + 1, N⟩ ⟨[], none, 0, none, 0, none, 0, [], [], 600, 0, fun _ => 0⟩ h4 := by
      refine ⟨⟨⟨by simp only; omega, by simp only; omega⟩, ⟨by simp only; omega, by simp only; omega⟩, ⟨by simp only; omega, by simp only; omega⟩, by simp only; omega⟩, SI.empty g04 (by simp only; omega) (by simp only; omega), ⟨g14, .nil, Own.nil _, by simp only; omega, by simp only; omega⟩, g24, .nil, rfl, Own.nil _, rfl, (fun i t c hi => by simp at hi), (fun i t hi => by simp at hi), (fun b hb => by cases hb), (fun b hb => by cases hb), (fun b hb => by cases hb), by decide, (fun t ht => by cases ht), (fun t ht => by cases ht), (fun c hc => by cases hc), fun i t hi => by simp at hi⟩
    obtain ⟨w, hw⟩ : ∃ w : PW, w = ⟨h.n, N + 3, N + 2, N + 1, N⟩ := ⟨_, rfl⟩
    have hpp : w.pp = N + 2 := by rw [hw]
    have L0 : LP h w 0 ⟨[], none, 0, none, 0, none, 0, [], [], 600, 0, fun _ => 0⟩ h4 := by
      rw [← hw] at P0
      exact ⟨P0, by rw [hw], rfl, by simp only; omega, by simp only; omega, (sH.trans s3).trans s4⟩
    simp only [Nat.add_assoc, Nat.reduceAdd]
    rw [← hpp]
    clear P0 g04 g14 g24 hw
    obtain ⟨ND, hND⟩ : ∃ ND, ND = ds.length := ⟨_, rfl⟩
    rw [← hND] at hz ⊢
    refine Go.loop (α := Nat × AHeap × PS) (fun x => [(49, .int .i64 x.1), (48, .int .i64 ND), (47, .slice a ND ca), (8, ptr w.pp)]) (fun _ => []) (fun x => x.2.1) (fun x => x.1 ≤ ND ∧ LP h w x.1 x.2.2 x.2.1) (fun x => ND - x.1) (0, h4, ⟨[], none, 0, none, 0, none, 0, [], [], 600, 0, fun _ => 0⟩) ?_ ?_ rfl rfl ?_
    · exact ⟨Nat.zero_le _, L0⟩
    · exact ⟨rfl, rfl, rfl, rfl, trivial⟩
    clear L0 n4 s4 s3 n3
    rintro ⟨i, H6, S⟩ ⟨hi, L⟩
    simp only at hi L ⊢
    have nL := L.same.1
    rcases Nat.lt_or_ge i ND with i0 | i0
    · have hz6 := hz.same L.same
      have i1 : i < ds.length := by omega
      have hD : ds[i]? = some ds[i] := List.getElem?_eq_getElem i1
      have hDi := hd _ (List.getElem_mem i1)
      have hDs := hds i _ (by omega) hD
      have c0 := dcs_get hD
      have hbe : i * 3 + 3 ≤ (dcs ds).length := by rw [dcs_len]; omega
      generalize ds[i] = D at *
      (refine Go.run (g:=?_))
      refine Go.name ?_
      intro h7 e7
      have s7 : Same H6 h7 := by subst e7; exact ((Same.refl H6).push _).put (Nat.le_refl _) _
      have gt7 : h7.get H6.n = some (.cells [.int .i64 D.k, .int .i64 D.n, .slice D.xa D.acts.length D.xc] 26) := by subst e7; exact AHeap.get_put_same _ (by simp) _
      clear e7
      have L7 := L.same' s7
      have hwlt := wrS_lt L.p
      have lB := L.B
      have ldp := L.dp
      have llo := L.left
      have lhi := L.hi
      have gp7 := L7.p.gp
      unfold PS.cs at gp7
      clear L hz6 c0 hbe
      by_cases k0 : D.k = 0
      · (refine Go.run (g:=?_))
        refine GoR.callW rfl rfl rfl rfl rfl rfl rfl (((pspawn_spec w S h7 L7.p (by omega) D.xa D.xc D.acts (by rw [lB]; exact hDi.row hDs L7.same) false).argA).mono ?_)
        rintro _ h8 ⟨S8, P8, E8, l8, d8⟩ k8
        refine ⟨fun i hi => .inr (L7.wr i hi), ?_⟩
        have L8 : LP h w (i + 1) S8 h8 := ⟨P8, lB, d8.trans ldp, by rw [l8]; push_cast; omega, by omega, L7.same.own k8 L7.wr⟩
        clear gp7 gt7
        have gp8' := L8.p.gp
        unfold PS.cs at gp8'
        have hl8 := L8.p.lt600
        have hr1 := idx_le runB S8.l 0
        have hr2 := idx_le waitB S8.l 0
        (refine Go.run (g:=?_))
        refine GoR.call rfl rfl rfl rfl rfl rfl rfl (((runnable_spec w.n0 w.st S8.l (by omega) S8.la S8.lc _ L8.p.si).argA).mono ?_)
        rintro _ h10 ⟨b1, c1, rfl, hs1, o1⟩ s10
        have L10 := L8.same' s10
        have gp10 := s10.get gp8'
        (refine Go.run (g:=?_))
        refine GoR.call rfl rfl rfl rfl rfl rfl rfl (((rrun_spec w.n0 w.rr S8.l (by omega) S8.ra S8.rc _ L10.p.ri).argA).mono ?_)
        rintro _ h11 ⟨b2, c2, rfl, hs2, o2⟩ s11
        have L11 := L10.same' s11
        have gp11 := s11.get gp10
        (refine Go.run (g:=?_))
        refine GoR.call rfl rfl rfl rfl rfl rfl rfl (((same25_spec (idx runB S8.l 0) (by omega) b1 b2 c1 c2 _ ((hs1.same s11).rv (P := Try.prog)) (hs2.rv (P := Try.prog))).argA).mono ?_)
        rintro _ h12 ⟨rfl, rfl⟩ -
        (refine Go.run (g:=?_))
        refine GoR.call rfl rfl rfl rfl rfl rfl rfl (((waiting_spec w.n0 w.st S8.l (by omega) S8.la S8.lc _ L11.p.si).argA).mono ?_)
        rintro _ h13 ⟨b3, c3, rfl, hs3, o3⟩ s13
        have L13 := L11.same' s13
        have gp13 := s13.get gp11
        (refine Go.run (g:=?_))
        refine GoR.call rfl rfl rfl rfl rfl rfl rfl (((rwait_spec w.n0 w.rr S8.l (by omega) S8.ra S8.rc _ L13.p.ri).argA).mono ?_)
        rintro _ h14 ⟨b4, c4, rfl, hs4, o4⟩ s14
        have L14 := L13.same' s14
        have gp14 := s14.get gp13
        (refine Go.run (g:=?_))
        refine GoR.call rfl rfl rfl rfl rfl rfl rfl (((same25_spec (idx waitB S8.l 0) (by omega) b3 b4 c3 c4 _ ((hs3.same s14).rv (P := Try.prog)) (hs4.rv (P := Try.prog))).argA).mono ?_)
        rintro _ h15 ⟨rfl, rfl⟩ -
        have gr14 := L14.p.ri.sb
        clear gp8' gp10 gp11 gp13 L8 L10 L11 L13 hs1 hs2 hs3 hs4
        (refine Go.run (g:=?_))
        refine Go.name ?_
        intro hC eC
        have LC : LP h w (i + 1) S8 hC := by subst eC; exact L14
        clear eC L14 gp14 gr14
        refine Go.loop (α := Nat × AHeap) (fun x => [(128, .int .i64 x.1), (127, .int .i64 S8.l.length), (126, .slice S8.ra S8.l.length S8.rc), (8, ptr w.pp), (49, .int .i64 i), (48, .int .i64 ND), (47, .slice a ND ca)]) (fun _ => []) (fun x => x.2) (fun x => x.1 ≤ S8.l.length ∧ LP h w (i + 1) S8 x.2) (fun x => S8.l.length - x.1) (0, hC) ?_ ?_ rfl rfl ?_
        · exact ⟨Nat.zero_le _, LC⟩
        · exact ⟨rfl, rfl, rfl, rfl, rfl, rfl, rfl, trivial⟩
        clear LC
        rintro ⟨kk, H9⟩ ⟨hk, L9⟩
        simp only at hk L9 ⊢
        have nL9 := L9.same.1
        have gp9 := L9.p.gp
        unfold PS.cs at gp9
        rcases Nat.lt_or_ge kk S8.l.length with k0 | k0
        · have hrv9 := L9.p.ri.sv.rv (P := Try.prog)
          obtain ⟨t, ht⟩ : ∃ t, S8.l[kk]? = some t := ⟨_, List.getElem?_eq_getElem k0⟩
          have et : S8.l[kk] = t := by rw [List.getElem?_eq_getElem k0] at ht; exact Option.some.inj ht
          have cr0 : ((rcs S8.l).drop (kk * 4)).take 4 = [.int .i64 t.is, .bool t.inn, .bool t.wk, .int .u64 t.pk] := rcs_get ht
          have hbr : kk * 4 + 4 ≤ (rcs S8.l).length := by rw [rcs_len]; omega
          (refine Go.run (g:=?_))
          refine GoR.name ?_
          intro h20 e20
          have s20 : Same H9 h20 := by subst e20; exact ((Same.refl H9).push _).put (Nat.le_refl _) _
          have gt20 : h20.get H9.n = some (.cells [.int .i64 t.is, .bool t.inn, .bool t.wk, .int .u64 t.pk] 46) := by subst e20; exact AHeap.get_put_same _ (by simp) _
          clear e20
          have L20 := L9.same' s20
          have gp20 := s20.get gp9
          have dn := done_in w.n0 w.st S8.l (by omega) S8.la S8.lc h20 L20.p.si kk k0
          have pk := picks_in w.n0 w.st S8.l (by omega) S8.la S8.lc h20 L20.p.si kk k0
          rw [et] at dn pk
          clear gp9 hrv9 cr0 hbr L9
          (refine Go.run (g:=?_))
          refine GoR.call rfl rfl rfl rfl rfl rfl rfl (((dn).argA).mono ?_)
          rintro _ h21 ⟨rfl, rfl⟩ -
          (refine Go.run (g:=?_))
          refine GoR.boolNe rfl rfl rfl rfl rfl rfl boolU ?_
          rw [show (!(decide (t.is = 3) == decide ((t.is : Int) = 3))) = false from by
            by_cases e : t.is = 3
            · have e' : (t.is : Int) = 3 := by omega
              rw [decide_eq_true e, decide_eq_true e']; rfl
            · have e' : ¬ (t.is : Int) = 3 := by omega
              rw [decide_eq_false e, decide_eq_false e']; rfl]
          (refine Go.run (g:=?_))
          refine GoR.call rfl rfl rfl rfl rfl rfl rfl (((pk).argA).mono ?_)
          rintro _ h22 ⟨rfl, rfl⟩ -
          (refine Go.run (g:=?_))
          exact Go.again (kk + 1, _) ⟨by simp only; omega, L20⟩ (by simp only; omega) ⟨rfl, rfl, rfl, rfl, rfl, rfl, rfl, trivial⟩ rfl rfl
        · have hkk : kk = S8.l.length := by omega
          subst hkk
          have gr9 := L9.p.ri.sb
          (refine Go.run (g:=?_))
          refine GoR.call rfl rfl rfl rfl rfl rfl rfl (((done_out w.n0 w.st S8.l (by omega) S8.la S8.lc _ L9.p.si (S8.l.length : Int) (by omega) (.inr (Int.le_refl _))).argA).mono ?_)
          rintro _ h21 ⟨rfl, rfl⟩ -
          (refine Go.run (g:=?_))
          refine GoR.call rfl rfl rfl rfl rfl rfl rfl (((done_out w.n0 w.st S8.l (by omega) S8.la S8.lc _ L9.p.si (-1) (by omega) (.inl (by omega))).argA).mono ?_)
          rintro _ h22 ⟨rfl, rfl⟩ -
          (refine Go.run (g:=?_))
          refine GoR.call rfl rfl rfl rfl rfl rfl rfl (((picks_out w.n0 w.st S8.l (by omega) S8.la S8.lc _ L9.p.si (S8.l.length : Int) (by omega) (.inr (Int.le_refl _))).argA).mono ?_)
          rintro _ h23 ⟨rfl, rfl⟩ -
          (refine Go.run (g:=?_))
          exact Go.again (i + 1, _, S8) ⟨by simp only; omega, L9⟩ (by simp only; omega) ⟨rfl, rfl, rfl, rfl, trivial⟩ rfl rfl
      by_cases k1 : D.k = 1
      · (refine Go.run (g:=?_))
        refine GoR.callW rfl rfl rfl rfl rfl rfl rfl (((ppick_spec w 21 S h7 L7.p (by omega) (by omega) D.n hDi.n).argA).mono ?_)
        rintro _ h8 ⟨S8, P8, E8, d8, l8, m8⟩ k8
        refine ⟨fun i hi => .inr (L7.wr i hi), ?_⟩
        have L8 : LP h w (i + 1) S8 h8 := ⟨P8, lB, d8.trans ldp, by rw [ldp] at m8; push_cast; omega, by omega, L7.same.own k8 L7.wr⟩
        clear gp7 gt7
        have gp8' := L8.p.gp
        unfold PS.cs at gp8'
        have hl8 := L8.p.lt600
        have hr1 := idx_le runB S8.l 0
        have hr2 := idx_le waitB S8.l 0
        (refine Go.run (g:=?_))
        refine GoR.call rfl rfl rfl rfl rfl rfl rfl (((runnable_spec w.n0 w.st S8.l (by omega) S8.la S8.lc _ L8.p.si).argA).mono ?_)
        rintro _ h10 ⟨b1, c1, rfl, hs1, o1⟩ s10
        have L10 := L8.same' s10
        have gp10 := s10.get gp8'
        (refine Go.run (g:=?_))
        refine GoR.call rfl rfl rfl rfl rfl rfl rfl (((rrun_spec w.n0 w.rr S8.l (by omega) S8.ra S8.rc _ L10.p.ri).argA).mono ?_)
        rintro _ h11 ⟨b2, c2, rfl, hs2, o2⟩ s11
        have L11 := L10.same' s11
        have gp11 := s11.get gp10
        (refine Go.run (g:=?_))
        refine GoR.call rfl rfl rfl rfl rfl rfl rfl (((same25_spec (idx runB S8.l 0) (by omega) b1 b2 c1 c2 _ ((hs1.same s11).rv (P := Try.prog)) (hs2.rv (P := Try.prog))).argA).mono ?_)
        rintro _ h12 ⟨rfl, rfl⟩ -
        (refine Go.run (g:=?_))
        refine GoR.call rfl rfl rfl rfl rfl rfl rfl (((waiting_spec w.n0 w.st S8.l (by omega) S8.la S8.lc _ L11.p.si).argA).mono ?_)
        rintro _ h13 ⟨b3, c3, rfl, hs3, o3⟩ s13
        have L13 := L11.same' s13
        have gp13 := s13.get gp11
        (refine Go.run (g:=?_))
        refine GoR.call rfl rfl rfl rfl rfl rfl rfl (((rwait_spec w.n0 w.rr S8.l (by omega) S8.ra S8.rc _ L13.p.ri).argA).mono ?_)
        rintro _ h14 ⟨b4, c4, rfl, hs4, o4⟩ s14
        have L14 := L13.same' s14
        have gp14 := s14.get gp13
        (refine Go.run (g:=?_))
        refine GoR.call rfl rfl rfl rfl rfl rfl rfl (((same25_spec (idx waitB S8.l 0) (by omega) b3 b4 c3 c4 _ ((hs3.same s14).rv (P := Try.prog)) (hs4.rv (P := Try.prog))).argA).mono ?_)
        rintro _ h15 ⟨rfl, rfl⟩ -
        have gr14 := L14.p.ri.sb
        clear gp8' gp10 gp11 gp13 L8 L10 L11 L13 hs1 hs2 hs3 hs4
        (refine Go.run (g:=?_))
        refine Go.name ?_
        intro hC eC
        have LC : LP h w (i + 1) S8 hC := by subst eC; exact L14
        clear eC L14 gp14 gr14
        refine Go.loop (α := Nat × AHeap) (fun x => [(128, .int .i64 x.1), (127, .int .i64 S8.l.length), (126, .slice S8.ra S8.l.length S8.rc), (8, ptr w.pp), (49, .int .i64 i), (48, .int .i64 ND), (47, .slice a ND ca)]) (fun _ => []) (fun x => x.2) (fun x => x.1 ≤ S8.l.length ∧ LP h w (i + 1) S8 x.2) (fun x => S8.l.length - x.1) (0, hC) ?_ ?_ rfl rfl ?_
        · exact ⟨Nat.zero_le _, LC⟩
        · exact ⟨rfl, rfl, rfl, rfl, rfl, rfl, rfl, trivial⟩
        clear LC
        rintro ⟨kk, H9⟩ ⟨hk, L9⟩
        simp only at hk L9 ⊢
        have nL9 := L9.same.1
        have gp9 := L9.p.gp
        unfold PS.cs at gp9
        rcases Nat.lt_or_ge kk S8.l.length with k0 | k0
        · have hrv9 := L9.p.ri.sv.rv (P := Try.prog)
          obtain ⟨t, ht⟩ : ∃ t, S8.l[kk]? = some t := ⟨_, List.getElem?_eq_getElem k0⟩
          have et : S8.l[kk] = t := by rw [List.getElem?_eq_getElem k0] at ht; exact Option.some.inj ht
          have cr0 : ((rcs S8.l).drop (kk * 4)).take 4 = [.int .i64 t.is, .bool t.inn, .bool t.wk, .int .u64 t.pk] := rcs_get ht
          have hbr : kk * 4 + 4 ≤ (rcs S8.l).length := by rw [rcs_len]; omega
          (refine Go.run (g:=?_))
          refine GoR.name ?_
          intro h20 e20
          have s20 : Same H9 h20 := by subst e20; exact ((Same.refl H9).push _).put (Nat.le_refl _) _
          have gt20 : h20.get H9.n = some (.cells [.int .i64 t.is, .bool t.inn, .bool t.wk, .int .u64 t.pk] 46) := by subst e20; exact AHeap.get_put_same _ (by simp) _
          clear e20
          have L20 := L9.same' s20
          have gp20 := s20.get gp9
          have dn := done_in w.n0 w.st S8.l (by omega) S8.la S8.lc h20 L20.p.si kk k0
          have pk := picks_in w.n0 w.st S8.l (by omega) S8.la S8.lc h20 L20.p.si kk k0
          rw [et] at dn pk
          clear gp9 hrv9 cr0 hbr L9
          (refine Go.run (g:=?_))
          refine GoR.call rfl rfl rfl rfl rfl rfl rfl (((dn).argA).mono ?_)
          rintro _ h21 ⟨rfl, rfl⟩ -
          (refine Go.run (g:=?_))
          refine GoR.boolNe rfl rfl rfl rfl rfl rfl boolU ?_
          rw [show (!(decide (t.is = 3) == decide ((t.is : Int) = 3))) = false from by
            by_cases e : t.is = 3
            · have e' : (t.is : Int) = 3 := by omega
              rw [decide_eq_true e, decide_eq_true e']; rfl
            · have e' : ¬ (t.is : Int) = 3 := by omega
              rw [decide_eq_false e, decide_eq_false e']; rfl]
          (refine Go.run (g:=?_))
          refine GoR.call rfl rfl rfl rfl rfl rfl rfl (((pk).argA).mono ?_)
          rintro _ h22 ⟨rfl, rfl⟩ -
          (refine Go.run (g:=?_))
          exact Go.again (kk + 1, _) ⟨by simp only; omega, L20⟩ (by simp only; omega) ⟨rfl, rfl, rfl, rfl, rfl, rfl, rfl, trivial⟩ rfl rfl
        · have hkk : kk = S8.l.length := by omega
          subst hkk
          have gr9 := L9.p.ri.sb
          (refine Go.run (g:=?_))
          refine GoR.call rfl rfl rfl rfl rfl rfl rfl (((done_out w.n0 w.st S8.l (by omega) S8.la S8.lc _ L9.p.si (S8.l.length : Int) (by omega) (.inr (Int.le_refl _))).argA).mono ?_)
          rintro _ h21 ⟨rfl, rfl⟩ -
          (refine Go.run (g:=?_))
          refine GoR.call rfl rfl rfl rfl rfl rfl rfl (((done_out w.n0 w.st S8.l (by omega) S8.la S8.lc _ L9.p.si (-1) (by omega) (.inl (by omega))).argA).mono ?_)
          rintro _ h22 ⟨rfl, rfl⟩ -
          (refine Go.run (g:=?_))
          refine GoR.call rfl rfl rfl rfl rfl rfl rfl (((picks_out w.n0 w.st S8.l (by omega) S8.la S8.lc _ L9.p.si (S8.l.length : Int) (by omega) (.inr (Int.le_refl _))).argA).mono ?_)
          rintro _ h23 ⟨rfl, rfl⟩ -
          (refine Go.run (g:=?_))
          exact Go.again (i + 1, _, S8) ⟨by simp only; omega, L9⟩ (by simp only; omega) ⟨rfl, rfl, rfl, rfl, trivial⟩ rfl rfl
      by_cases k2 : D.k = 2
      · (repeat (first|refine GoR.end ?_|(refine GoR.gd rfl ?_;first|refine GoR.wanted' rfl rfl rfl rfl (g:=?_)|refine GoR.unwanted' rfl rfl rfl rfl (hd:=rfl) (hN:=rfl) (g:=?_)|refine GoR.unwantedU rfl rfl rfl rfl rfl rfl ?_)|(refine GoR.kk 0 rfl ?_;first|refine GoR.move rfl rfl rfl rfl rfl ?_|refine GoR.assign rfl rfl rfl rfl rfl ?_)|(refine GoR.kk 1 rfl ?_;first|refine GoR.load' rfl rfl rfl rfl rfl (g:=?_)|refine GoR.loadA' rfl rfl rfl rfl rfl (hv:=rfl) (g:=?_)|refine GoR.loadV' rfl rfl rfl rfl rfl (g:=?_)|refine GoR.loadVN' rfl rfl rfl rfl rfl (g:=?_))|(refine GoR.kk 2 rfl ?_;first|refine GoR.store' rfl rfl rfl rfl rfl (hl:=rfl) (h1:=rfl) (h3:=rfl) (g:=?_))|(refine GoR.kk 3 rfl ?_;first|refine GoR.fieldAddr rfl rfl rfl rfl rfl ?_|refine GoR.indexN' rfl rfl rfl rfl rfl rfl (g:=?_)|refine GoR.indexNs' rfl rfl rfl rfl rfl rfl (g:=?_)|refine GoR.indexV' rfl rfl rfl rfl rfl rfl (g:=?_)|refine GoR.indexA' rfl rfl rfl rfl rfl rfl (g:=?_)|refine GoR.fieldV' rfl rfl rfl rfl rfl (g:=?_))|(refine GoR.kk 4 rfl ?_;first|refine GoR.eq rfl rfl rfl rfl rfl rfl ?_|refine GoR.ne rfl rfl rfl rfl rfl rfl ?_|refine GoR.lt rfl rfl rfl rfl rfl rfl ?_|refine GoR.le rfl rfl rfl rfl rfl rfl ?_|refine GoR.gt rfl rfl rfl rfl rfl rfl ?_|refine GoR.ge rfl rfl rfl rfl rfl rfl ?_|refine GoR.addN' rfl rfl rfl rfl rfl rfl (g:=?_)|refine GoR.subN' rfl rfl rfl rfl rfl rfl (g:=?_)|refine GoR.add' rfl rfl rfl rfl rfl rfl (g:=?_)|refine GoR.sub' rfl rfl rfl rfl rfl rfl (g:=?_)|refine GoR.addM' rfl rfl rfl rfl rfl rfl (g:=?_)|refine GoR.subM' rfl rfl rfl rfl rfl rfl (g:=?_)|refine GoR.mulM' rfl rfl rfl rfl rfl rfl (g:=?_)|refine GoR.shrN rfl rfl rfl rfl rfl rfl rfl ?_|refine GoR.structEq rfl rfl rfl rfl rfl rfl (by rfl) (by rfl) ?_|refine GoR.structNe rfl rfl rfl rfl rfl rfl (by rfl) (by rfl) ?_|refine GoR.strEq rfl rfl rfl rfl rfl rfl ?_|refine GoR.strNe rfl rfl rfl rfl rfl rfl ?_|refine GoR.remN' rfl rfl rfl rfl rfl rfl (g:=?_)|refine GoR.quoN' rfl rfl rfl rfl rfl rfl (g:=?_)|refine GoR.shlN' rfl rfl rfl rfl rfl rfl rfl (g:=?_)|refine GoR.orN' rfl rfl rfl rfl rfl rfl (g:=?_))|(refine GoR.kk 5 rfl ?_;first|refine GoR.len rfl rfl rfl rfl rfl ?_|refine GoR.lenStr rfl rfl rfl rfl rfl ?_|refine GoR.capB rfl rfl rfl rfl rfl ?_)|(refine GoR.kk 7 rfl ?_;first|refine GoR.pickE' rfl rfl rfl rfl rfl (hx:=rfl) (hy:=rfl) (g:=?_)|refine GoR.pickN' rfl rfl rfl rfl rfl (hx:=rfl) (hy:=rfl) (g:=?_)|refine GoR.pickB rfl rfl rfl rfl rfl rfl rfl ?_)|(refine GoR.kk 8 rfl ?_;first|refine GoR.boxA rfl rfl rfl rfl rfl ?_|refine GoR.boxS rfl rfl rfl rfl rfl rfl ?_|refine GoR.alloc rfl rfl rfl rfl ?_)|(refine GoR.kk 9 rfl ?_;first|refine GoR.strV' rfl rfl rfl rfl rfl (g:=?_)|refine GoR.conv_u8 rfl rfl rfl rfl rfl ?_|refine GoR.convW' rfl rfl rfl rfl rfl (g:=?_)|refine GoR.conv_u16 rfl rfl rfl rfl rfl ?_|refine GoR.conv_u32 rfl rfl rfl rfl rfl ?_)|(refine GoR.kk 10 rfl ?_;first|refine GoR.build' rfl rfl rfl rfl rfl rfl (g:=?_))|(refine GoR.kk 11 rfl ?_;first|refine GoR.extract rfl rfl rfl rfl rfl rfl ?_|refine GoR.not rfl rfl rfl rfl rfl ?_|refine GoR.nilCheck rfl rfl rfl rfl rfl ?_|refine GoR.nilCheckF rfl rfl rfl rfl rfl ?_|refine GoR.makeFunc rfl rfl rfl rfl rfl rfl ?_)|(refine Go.kk 0 rfl ?_;refine Go.seq ?_)|(refine Go.kk 1 rfl ?_;refine Go.region (by kernel_rfl) rfl ?_)|(refine Go.kk 3 rfl ?_;first|refine Go.cond_t' rfl (g:=?_)|refine Go.cond_f' rfl (g:=?_))|(refine Go.kk 4 rfl ?_;refine Go.block ?_)|(refine Go.kk 5 rfl ?_;first|refine Go.skip ?_|refine Go.ret ?_|refine Go.exit ?_|refine Go.scope ?_)|refine Go.leave_normal ?_|refine Go.leave_same ?_|refine Go.leave_ret ?_|refine Go.ret_code ?_|refine Go.exit_code ?_|refine Go.leave_other rfl ?_|refine Go.sc_normal ?_|refine Go.sc_ret ?_|refine Go.sc_exit ?_|refine Go.exit_back ?_|refine Go.ret_back ?_))
        refine Go.loud (by kernel_rfl) rfl ?_
        (refine Go.runL (g:=?_))
        have hl67 := L7.p.lt600
        have op := L7.p.ok.p
        have or_ := L7.p.ok.r
        have os := L7.p.ok.s
        by_cases hx : 0 ≤ D.n ∧ D.n < S.l.length
        · obtain ⟨n', hn'⟩ : ∃ n' : Nat, D.n = n' := ⟨D.n.toNat, by omega⟩
          have hn'' : n' < S.l.length := by omega
          obtain ⟨u, hu⟩ : ∃ u, S.l[n']? = some u := ⟨_, List.getElem?_eq_getElem hn''⟩
          have hum := List.mem_of_getElem? hu
          have hup := hwlt u.p (mem_wrS.2 (.inr (.inr (.inr (.inr (.inr (.inr (.inl ⟨u, hum, rfl⟩))))))))
          have huc := L7.p.ctp n' u hu
          have hug := (L7.p.si.ge u hum).1
          rw [hn'] at gt7 ⊢
          refine GoL.call rfl rfl rfl rfl rfl rfl rfl (((wake_spec w.n0 w.st S.l (by omega) S.la S.lc h7 L7.p.si n' u hu).argA).mono ?_)
          rintro _ h8 ⟨rfl, SI8⟩ k8
          refine ⟨fun i hi => .inr (by simp only [List.mem_singleton] at hi; subst hi; exact L7.wr _ (mem_wrS.2 (.inr (.inr (.inr (.inr (.inr (.inr (.inl ⟨u, hum, rfl⟩))))))))), ?_⟩
          have n8 := k8.1
          have n7 := s7.1
          have gt7l := AHeap.lt gt7
          have gp8 := k8.get gp7 (by simp only [List.mem_singleton]; omega)
          have gt8 := k8.get gt7 (by simp only [List.mem_singleton]; omega)
          have RI8 := L7.p.ri.keeps k8 (by simp only [List.mem_singleton]; omega) (fun i hi hb => by simp only [List.mem_singleton] at hi; subst hi; have := L7.p.cra _ hb; omega)
          (refine Go.runL (g:=?_))
          refine GoL.call rfl rfl rfl rfl rfl rfl rfl (((rwake_in w.n0 w.rr S.l (by omega) S.ra S.rc h8 RI8 n' u hu).argA).mono ?_)
          rintro _ h9 ⟨rfl, RI9⟩ k9
          refine ⟨fun i hi => .inr (L7.wr i (mem_ra hi)), ?_⟩
          have n9 := k9.1
          have SI9 : SI w.n0 w.st (S.l.set n' (wakeT u)) S.la S.lc h9 := SI8.keeps k9 (fun hb => by have := L7.p.ri.own _ hb; omega) (fun i hi hb => by have := L7.p.cra _ hi; have := L7.p.cla _ hb; omega) (fun t' ht' hb => by
            have := L7.p.cra _ hb
            obtain ⟨i2, hi2, e2⟩ := List.mem_iff_getElem.1 ht'
            rw [List.getElem_set] at e2
            split at e2
            · rw [← e2, wakeT_p] at this; omega
            · have := L7.p.ctp i2 t' (by rw [List.getElem?_eq_getElem (by rw [List.length_set] at hi2; exact hi2), e2]); omega)
          have KK : Keeps (u.p :: blk S.ra) h7 h9 := ⟨by omega, fun i hi hn => by
            simp only [List.mem_cons, not_or] at hn
            rw [k9.2 i (by omega) hn.2, k8.2 i hi (by simp only [List.mem_singleton]; exact hn.1)]⟩
          have P9 := L7.p.setT hu (wakeT_p u) (wakeT_fn u) (by rw [wakeT_pk]; exact L7.p.b2 u hum) (wakeT_is u (L7.p.b3 u hum)) KK SI9 RI9
          have L8 : LP h w (i + 1) { S with l := S.l.set n' (wakeT u) } h9 := ⟨P9, lB, ldp, by show _ ≤ S.left; push_cast; omega, lhi, L7.same.own KK (fun b hb => by
            rcases List.mem_cons.1 hb with rfl | hb
            · exact L7.wr _ (mem_wrS.2 (.inr (.inr (.inr (.inr (.inr (.inr (.inl ⟨u, hum, rfl⟩))))))))
            · exact L7.wr _ (mem_ra hb))⟩
          (refine Go.runL (g:=?_))
          refine GoL.boolNe rfl rfl rfl rfl rfl rfl boolU ?_
          rw [show (!(wakeB u == wakeB u)) = false from by simp]
          (refine Go.runL (g:=?_))
          have hdis : ∀ b ∈ [u.p], b ≠ H6.n ∧ b ≠ w.pp ∧ b < h7.n ∧ b < h8.n := fun b hb => by
            simp only [List.mem_singleton] at hb
            subst hb
            exact ⟨by omega, by omega, by omega, by omega⟩
          have hdis2 : ∀ b ∈ blk S.ra, b ≠ H6.n ∧ b ≠ w.pp ∧ b < h7.n ∧ b < h8.n := fun b hb => by
            have h1 := L7.p.ri.own _ hb
            have h2 := hwlt b (mem_ra hb)
            exact ⟨by omega, by omega, by omega, by omega⟩
          refine GoL.end_ (hl := by (simp only [List.nil_append, List.cons_append]); repeat (first | exact loudP.nil | refine loudP.none ?_ | refine loudP.new (fun _ hb => absurd hb List.not_mem_nil) ?_ | refine loudP.row (by repeat (first | exact loudRowP.nil | refine loudRowP.none ?_ | refine loudRowP.bef (by decide +kernel) ?_ | refine loudRowP.apart (by first | exact .inl rfl | exact .inr (by simp)) rfl (fun i hi => by first | (have hx := hdis _ hi; first | (simp; fail_if_success focus skip) | (simp; omega)) | (have hx := hdis2 _ hi; first | (simp; fail_if_success focus skip) | (simp; omega))) ?_)) ?_)) ?_
          clear hdis hdis2 gp7 gt7 gp8 gt8
          obtain ⟨S8, hS8⟩ : ∃ S8 : PS, S8 = { S with l := S.l.set n' (wakeT u) } := ⟨_, rfl⟩
          rw [← hS8] at L8
          obtain ⟨h8', hh8⟩ : ∃ h8', h8' = h9 := ⟨_, rfl⟩
          have gp8' := L8.p.gp
          unfold PS.cs at gp8'
          have hl8 := L8.p.lt600
          have hr1 := idx_le runB S8.l 0
          have hr2 := idx_le waitB S8.l 0
          (refine Go.run (g:=?_))
          refine GoR.call rfl rfl rfl rfl rfl rfl rfl (((runnable_spec w.n0 w.st S8.l (by omega) S8.la S8.lc _ L8.p.si).argA).mono ?_)
          rintro _ h10 ⟨b1, c1, rfl, hs1, o1⟩ s10
          have L10 := L8.same' s10
          have gp10 := s10.get gp8'
          (refine Go.run (g:=?_))
          refine GoR.call rfl rfl rfl rfl rfl rfl rfl (((rrun_spec w.n0 w.rr S8.l (by omega) S8.ra S8.rc _ L10.p.ri).argA).mono ?_)
          rintro _ h11 ⟨b2, c2, rfl, hs2, o2⟩ s11
          have L11 := L10.same' s11
          have gp11 := s11.get gp10
          (refine Go.run (g:=?_))
          refine GoR.call rfl rfl rfl rfl rfl rfl rfl (((same25_spec (idx runB S8.l 0) (by omega) b1 b2 c1 c2 _ ((hs1.same s11).rv (P := Try.prog)) (hs2.rv (P := Try.prog))).argA).mono ?_)
          rintro _ h12 ⟨rfl, rfl⟩ -
          (refine Go.run (g:=?_))
          refine GoR.call rfl rfl rfl rfl rfl rfl rfl (((waiting_spec w.n0 w.st S8.l (by omega) S8.la S8.lc _ L11.p.si).argA).mono ?_)
          rintro _ h13 ⟨b3, c3, rfl, hs3, o3⟩ s13
          have L13 := L11.same' s13
          have gp13 := s13.get gp11
          (refine Go.run (g:=?_))
          refine GoR.call rfl rfl rfl rfl rfl rfl rfl (((rwait_spec w.n0 w.rr S8.l (by omega) S8.ra S8.rc _ L13.p.ri).argA).mono ?_)
          rintro _ h14 ⟨b4, c4, rfl, hs4, o4⟩ s14
          have L14 := L13.same' s14
          have gp14 := s14.get gp13
          (refine Go.run (g:=?_))
          refine GoR.call rfl rfl rfl rfl rfl rfl rfl (((same25_spec (idx waitB S8.l 0) (by omega) b3 b4 c3 c4 _ ((hs3.same s14).rv (P := Try.prog)) (hs4.rv (P := Try.prog))).argA).mono ?_)
          rintro _ h15 ⟨rfl, rfl⟩ -
          have gr14 := L14.p.ri.sb
          clear gp8' gp10 gp11 gp13 L8 L10 L11 L13 hs1 hs2 hs3 hs4
          (refine Go.run (g:=?_))
          refine Go.name ?_
          intro hC eC
          have LC : LP h w (i + 1) S8 hC := by subst eC; exact L14
          clear eC L14 gp14 gr14
          refine Go.loop (α := Nat × AHeap) (fun x => [(128, .int .i64 x.1), (127, .int .i64 S8.l.length), (126, .slice S8.ra S8.l.length S8.rc), (8, ptr w.pp), (49, .int .i64 i), (48, .int .i64 ND), (47, .slice a ND ca)]) (fun _ => []) (fun x => x.2) (fun x => x.1 ≤ S8.l.length ∧ LP h w (i + 1) S8 x.2) (fun x => S8.l.length - x.1) (0, hC) ?_ ?_ rfl rfl ?_
          · exact ⟨Nat.zero_le _, LC⟩
          · exact ⟨rfl, rfl, rfl, rfl, rfl, rfl, rfl, trivial⟩
          clear LC
          rintro ⟨kk, H9⟩ ⟨hk, L9⟩
          simp only at hk L9 ⊢
          have nL9 := L9.same.1
          have gp9 := L9.p.gp
          unfold PS.cs at gp9
          rcases Nat.lt_or_ge kk S8.l.length with k0 | k0
          · have hrv9 := L9.p.ri.sv.rv (P := Try.prog)
            obtain ⟨t, ht⟩ : ∃ t, S8.l[kk]? = some t := ⟨_, List.getElem?_eq_getElem k0⟩
            have et : S8.l[kk] = t := by rw [List.getElem?_eq_getElem k0] at ht; exact Option.some.inj ht
            have cr0 : ((rcs S8.l).drop (kk * 4)).take 4 = [.int .i64 t.is, .bool t.inn, .bool t.wk, .int .u64 t.pk] := rcs_get ht
            have hbr : kk * 4 + 4 ≤ (rcs S8.l).length := by rw [rcs_len]; omega
            (refine Go.run (g:=?_))
            refine GoR.name ?_
            intro h20 e20
            have s20 : Same H9 h20 := by subst e20; exact ((Same.refl H9).push _).put (Nat.le_refl _) _
            have gt20 : h20.get H9.n = some (.cells [.int .i64 t.is, .bool t.inn, .bool t.wk, .int .u64 t.pk] 46) := by subst e20; exact AHeap.get_put_same _ (by simp) _
            clear e20
            have L20 := L9.same' s20
            have gp20 := s20.get gp9
            have dn := done_in w.n0 w.st S8.l (by omega) S8.la S8.lc h20 L20.p.si kk k0
            have pk := picks_in w.n0 w.st S8.l (by omega) S8.la S8.lc h20 L20.p.si kk k0
            rw [et] at dn pk
            clear gp9 hrv9 cr0 hbr L9
            (refine Go.run (g:=?_))
            refine GoR.call rfl rfl rfl rfl rfl rfl rfl (((dn).argA).mono ?_)
            rintro _ h21 ⟨rfl, rfl⟩ -
            (refine Go.run (g:=?_))
            refine GoR.boolNe rfl rfl rfl rfl rfl rfl boolU ?_
            rw [show (!(decide (t.is = 3) == decide ((t.is : Int) = 3))) = false from by
              by_cases e : t.is = 3
              · have e' : (t.is : Int) = 3 := by omega
                rw [decide_eq_true e, decide_eq_true e']; rfl
              · have e' : ¬ (t.is : Int) = 3 := by omega
                rw [decide_eq_false e, decide_eq_false e']; rfl]
            (refine Go.run (g:=?_))
            refine GoR.call rfl rfl rfl rfl rfl rfl rfl (((pk).argA).mono ?_)
            rintro _ h22 ⟨rfl, rfl⟩ -
            (refine Go.run (g:=?_))
            exact Go.again (kk + 1, _) ⟨by simp only; omega, L20⟩ (by simp only; omega) ⟨rfl, rfl, rfl, rfl, rfl, rfl, rfl, trivial⟩ rfl rfl
          · have hkk : kk = S8.l.length := by omega
            subst hkk
            have gr9 := L9.p.ri.sb
            (refine Go.run (g:=?_))
            refine GoR.call rfl rfl rfl rfl rfl rfl rfl (((done_out w.n0 w.st S8.l (by omega) S8.la S8.lc _ L9.p.si (S8.l.length : Int) (by omega) (.inr (Int.le_refl _))).argA).mono ?_)
            rintro _ h21 ⟨rfl, rfl⟩ -
            (refine Go.run (g:=?_))
            refine GoR.call rfl rfl rfl rfl rfl rfl rfl (((done_out w.n0 w.st S8.l (by omega) S8.la S8.lc _ L9.p.si (-1) (by omega) (.inl (by omega))).argA).mono ?_)
            rintro _ h22 ⟨rfl, rfl⟩ -
            (refine Go.run (g:=?_))
            refine GoR.call rfl rfl rfl rfl rfl rfl rfl (((picks_out w.n0 w.st S8.l (by omega) S8.la S8.lc _ L9.p.si (S8.l.length : Int) (by omega) (.inr (Int.le_refl _))).argA).mono ?_)
            rintro _ h23 ⟨rfl, rfl⟩ -
            (refine Go.run (g:=?_))
            exact Go.again (i + 1, _, S8) ⟨by simp only; omega, L9⟩ (by simp only; omega) ⟨rfl, rfl, rfl, rfl, trivial⟩ rfl rfl
        · have ho : D.n < 0 ∨ (S.l.length : Int) ≤ D.n := by omega
          obtain ⟨S8, hS8⟩ : ∃ S8 : PS, S8 = S := ⟨_, rfl⟩
          have L8 : LP h w (i + 1) S8 h7 := by rw [hS8]; exact ⟨L7.p, lB, ldp, by push_cast; omega, lhi, L7.same⟩
          refine GoL.call rfl rfl rfl rfl rfl rfl rfl (((wake_out w.n0 w.st S.l (by omega) S.la S.lc h7 L7.p.si D.n hDi.n ho).argA).mono ?_)
          rintro _ h8 ⟨rfl, rfl⟩ -
          refine ⟨fun i hi => (by cases hi), ?_⟩
          (refine Go.runL (g:=?_))
          refine GoL.call rfl rfl rfl rfl rfl rfl rfl (((rwake_out w.n0 w.rr S.l (by omega) S.ra S.rc _ L7.p.ri D.n hDi.n ho).argA).mono ?_)
          rintro _ h8 ⟨rfl, rfl⟩ -
          refine ⟨fun i hi => (by cases hi), ?_⟩
          (refine Go.runL (g:=?_))
          refine GoL.boolNe rfl rfl rfl rfl rfl rfl boolU ?_
          rw [show (!(false == false)) = false from rfl]
          (refine Go.runL (g:=?_))
          (refine GoL.end_ (g:=?_))
          clear gp7 gt7
          have gp8' := L8.p.gp
          unfold PS.cs at gp8'
          have hl8 := L8.p.lt600
          have hr1 := idx_le runB S8.l 0
          have hr2 := idx_le waitB S8.l 0
          (refine Go.run (g:=?_))
          refine GoR.call rfl rfl rfl rfl rfl rfl rfl (((runnable_spec w.n0 w.st S8.l (by omega) S8.la S8.lc _ L8.p.si).argA).mono ?_)
          rintro _ h10 ⟨b1, c1, rfl, hs1, o1⟩ s10
          have L10 := L8.same' s10
          have gp10 := s10.get gp8'
          (refine Go.run (g:=?_))
          refine GoR.call rfl rfl rfl rfl rfl rfl rfl (((rrun_spec w.n0 w.rr S8.l (by omega) S8.ra S8.rc _ L10.p.ri).argA).mono ?_)
          rintro _ h11 ⟨b2, c2, rfl, hs2, o2⟩ s11
          have L11 := L10.same' s11
          have gp11 := s11.get gp10
          (refine Go.run (g:=?_))
          refine GoR.call rfl rfl rfl rfl rfl rfl rfl (((same25_spec (idx runB S8.l 0) (by omega) b1 b2 c1 c2 _ ((hs1.same s11).rv (P := Try.prog)) (hs2.rv (P := Try.prog))).argA).mono ?_)
          rintro _ h12 ⟨rfl, rfl⟩ -
          (refine Go.run (g:=?_))
          refine GoR.call rfl rfl rfl rfl rfl rfl rfl (((waiting_spec w.n0 w.st S8.l (by omega) S8.la S8.lc _ L11.p.si).argA).mono ?_)
          rintro _ h13 ⟨b3, c3, rfl, hs3, o3⟩ s13
          have L13 := L11.same' s13
          have gp13 := s13.get gp11
          (refine Go.run (g:=?_))
          refine GoR.call rfl rfl rfl rfl rfl rfl rfl (((rwait_spec w.n0 w.rr S8.l (by omega) S8.ra S8.rc _ L13.p.ri).argA).mono ?_)
          rintro _ h14 ⟨b4, c4, rfl, hs4, o4⟩ s14
          have L14 := L13.same' s14
          have gp14 := s14.get gp13
          (refine Go.run (g:=?_))
          refine GoR.call rfl rfl rfl rfl rfl rfl rfl (((same25_spec (idx waitB S8.l 0) (by omega) b3 b4 c3 c4 _ ((hs3.same s14).rv (P := Try.prog)) (hs4.rv (P := Try.prog))).argA).mono ?_)
          rintro _ h15 ⟨rfl, rfl⟩ -
          have gr14 := L14.p.ri.sb
          clear gp8' gp10 gp11 gp13 L8 L10 L11 L13 hs1 hs2 hs3 hs4
          (refine Go.run (g:=?_))
          refine Go.name ?_
          intro hC eC
          have LC : LP h w (i + 1) S8 hC := by subst eC; exact L14
          clear eC L14 gp14 gr14
          refine Go.loop (α := Nat × AHeap) (fun x => [(128, .int .i64 x.1), (127, .int .i64 S8.l.length), (126, .slice S8.ra S8.l.length S8.rc), (8, ptr w.pp), (49, .int .i64 i), (48, .int .i64 ND), (47, .slice a ND ca)]) (fun _ => []) (fun x => x.2) (fun x => x.1 ≤ S8.l.length ∧ LP h w (i + 1) S8 x.2) (fun x => S8.l.length - x.1) (0, hC) ?_ ?_ rfl rfl ?_
          · exact ⟨Nat.zero_le _, LC⟩
          · exact ⟨rfl, rfl, rfl, rfl, rfl, rfl, rfl, trivial⟩
          clear LC
          rintro ⟨kk, H9⟩ ⟨hk, L9⟩
          simp only at hk L9 ⊢
          have nL9 := L9.same.1
          have gp9 := L9.p.gp
          unfold PS.cs at gp9
          rcases Nat.lt_or_ge kk S8.l.length with k0 | k0
          · have hrv9 := L9.p.ri.sv.rv (P := Try.prog)
            obtain ⟨t, ht⟩ : ∃ t, S8.l[kk]? = some t := ⟨_, List.getElem?_eq_getElem k0⟩
            have et : S8.l[kk] = t := by rw [List.getElem?_eq_getElem k0] at ht; exact Option.some.inj ht
            have cr0 : ((rcs S8.l).drop (kk * 4)).take 4 = [.int .i64 t.is, .bool t.inn, .bool t.wk, .int .u64 t.pk] := rcs_get ht
            have hbr : kk * 4 + 4 ≤ (rcs S8.l).length := by rw [rcs_len]; omega
            (refine Go.run (g:=?_))
            refine GoR.name ?_
            intro h20 e20
            have s20 : Same H9 h20 := by subst e20; exact ((Same.refl H9).push _).put (Nat.le_refl _) _
            have gt20 : h20.get H9.n = some (.cells [.int .i64 t.is, .bool t.inn, .bool t.wk, .int .u64 t.pk] 46) := by subst e20; exact AHeap.get_put_same _ (by simp) _
            clear e20
            have L20 := L9.same' s20
            have gp20 := s20.get gp9
            have dn := done_in w.n0 w.st S8.l (by omega) S8.la S8.lc h20 L20.p.si kk k0
            have pk := picks_in w.n0 w.st S8.l (by omega) S8.la S8.lc h20 L20.p.si kk k0
            rw [et] at dn pk
            clear gp9 hrv9 cr0 hbr L9
            (refine Go.run (g:=?_))
            refine GoR.call rfl rfl rfl rfl rfl rfl rfl (((dn).argA).mono ?_)
            rintro _ h21 ⟨rfl, rfl⟩ -
            (refine Go.run (g:=?_))
            refine GoR.boolNe rfl rfl rfl rfl rfl rfl boolU ?_
            rw [show (!(decide (t.is = 3) == decide ((t.is : Int) = 3))) = false from by
              by_cases e : t.is = 3
              · have e' : (t.is : Int) = 3 := by omega
                rw [decide_eq_true e, decide_eq_true e']; rfl
              · have e' : ¬ (t.is : Int) = 3 := by omega
                rw [decide_eq_false e, decide_eq_false e']; rfl]
            (refine Go.run (g:=?_))
            refine GoR.call rfl rfl rfl rfl rfl rfl rfl (((pk).argA).mono ?_)
            rintro _ h22 ⟨rfl, rfl⟩ -
            (refine Go.run (g:=?_))
            exact Go.again (kk + 1, _) ⟨by simp only; omega, L20⟩ (by simp only; omega) ⟨rfl, rfl, rfl, rfl, rfl, rfl, rfl, trivial⟩ rfl rfl
          · have hkk : kk = S8.l.length := by omega
            subst hkk
            have gr9 := L9.p.ri.sb
            (refine Go.run (g:=?_))
            refine GoR.call rfl rfl rfl rfl rfl rfl rfl (((done_out w.n0 w.st S8.l (by omega) S8.la S8.lc _ L9.p.si (S8.l.length : Int) (by omega) (.inr (Int.le_refl _))).argA).mono ?_)
            rintro _ h21 ⟨rfl, rfl⟩ -
            (refine Go.run (g:=?_))
            refine GoR.call rfl rfl rfl rfl rfl rfl rfl (((done_out w.n0 w.st S8.l (by omega) S8.la S8.lc _ L9.p.si (-1) (by omega) (.inl (by omega))).argA).mono ?_)
            rintro _ h22 ⟨rfl, rfl⟩ -
            (refine Go.run (g:=?_))
            refine GoR.call rfl rfl rfl rfl rfl rfl rfl (((picks_out w.n0 w.st S8.l (by omega) S8.la S8.lc _ L9.p.si (S8.l.length : Int) (by omega) (.inr (Int.le_refl _))).argA).mono ?_)
            rintro _ h23 ⟨rfl, rfl⟩ -
            (refine Go.run (g:=?_))
            exact Go.again (i + 1, _, S8) ⟨by simp only; omega, L9⟩ (by simp only; omega) ⟨rfl, rfl, rfl, rfl, trivial⟩ rfl rfl
      by_cases k3 : D.k = 3
      · (refine Go.run (g:=?_))
        refine GoR.callW rfl rfl rfl rfl rfl rfl rfl (((pspawn_spec w S h7 L7.p (by omega) none 0 [] (row0 _ _) true).argA).mono ?_)
        rintro _ h8 ⟨S8, P8, E8, l8, d8⟩ k8
        refine ⟨fun i hi => .inr (L7.wr i hi), ?_⟩
        have L8 : LP h w (i + 1) S8 h8 := ⟨P8, lB, d8.trans ldp, by rw [l8]; push_cast; omega, by omega, L7.same.own k8 L7.wr⟩
        clear gp7 gt7
        have gp8' := L8.p.gp
        unfold PS.cs at gp8'
        have hl8 := L8.p.lt600
        have hr1 := idx_le runB S8.l 0
        have hr2 := idx_le waitB S8.l 0
        (refine Go.run (g:=?_))
        refine GoR.call rfl rfl rfl rfl rfl rfl rfl (((runnable_spec w.n0 w.st S8.l (by omega) S8.la S8.lc _ L8.p.si).argA).mono ?_)
        rintro _ h10 ⟨b1, c1, rfl, hs1, o1⟩ s10
        have L10 := L8.same' s10
        have gp10 := s10.get gp8'
        (refine Go.run (g:=?_))
        refine GoR.call rfl rfl rfl rfl rfl rfl rfl (((rrun_spec w.n0 w.rr S8.l (by omega) S8.ra S8.rc _ L10.p.ri).argA).mono ?_)
        rintro _ h11 ⟨b2, c2, rfl, hs2, o2⟩ s11
        have L11 := L10.same' s11
        have gp11 := s11.get gp10
        (refine Go.run (g:=?_))
        refine GoR.call rfl rfl rfl rfl rfl rfl rfl (((same25_spec (idx runB S8.l 0) (by omega) b1 b2 c1 c2 _ ((hs1.same s11).rv (P := Try.prog)) (hs2.rv (P := Try.prog))).argA).mono ?_)
        rintro _ h12 ⟨rfl, rfl⟩ -
        (refine Go.run (g:=?_))
        refine GoR.call rfl rfl rfl rfl rfl rfl rfl (((waiting_spec w.n0 w.st S8.l (by omega) S8.la S8.lc _ L11.p.si).argA).mono ?_)
        rintro _ h13 ⟨b3, c3, rfl, hs3, o3⟩ s13
        have L13 := L11.same' s13
        have gp13 := s13.get gp11
        (refine Go.run (g:=?_))
        refine GoR.call rfl rfl rfl rfl rfl rfl rfl (((rwait_spec w.n0 w.rr S8.l (by omega) S8.ra S8.rc _ L13.p.ri).argA).mono ?_)
        rintro _ h14 ⟨b4, c4, rfl, hs4, o4⟩ s14
        have L14 := L13.same' s14
        have gp14 := s14.get gp13
        (refine Go.run (g:=?_))
        refine GoR.call rfl rfl rfl rfl rfl rfl rfl (((same25_spec (idx waitB S8.l 0) (by omega) b3 b4 c3 c4 _ ((hs3.same s14).rv (P := Try.prog)) (hs4.rv (P := Try.prog))).argA).mono ?_)
        rintro _ h15 ⟨rfl, rfl⟩ -
        have gr14 := L14.p.ri.sb
        clear gp8' gp10 gp11 gp13 L8 L10 L11 L13 hs1 hs2 hs3 hs4
        (refine Go.run (g:=?_))
        refine Go.name ?_
        intro hC eC
        have LC : LP h w (i + 1) S8 hC := by subst eC; exact L14
        clear eC L14 gp14 gr14
        refine Go.loop (α := Nat × AHeap) (fun x => [(128, .int .i64 x.1), (127, .int .i64 S8.l.length), (126, .slice S8.ra S8.l.length S8.rc), (8, ptr w.pp), (49, .int .i64 i), (48, .int .i64 ND), (47, .slice a ND ca)]) (fun _ => []) (fun x => x.2) (fun x => x.1 ≤ S8.l.length ∧ LP h w (i + 1) S8 x.2) (fun x => S8.l.length - x.1) (0, hC) ?_ ?_ rfl rfl ?_
        · exact ⟨Nat.zero_le _, LC⟩
        · exact ⟨rfl, rfl, rfl, rfl, rfl, rfl, rfl, trivial⟩
        clear LC
        rintro ⟨kk, H9⟩ ⟨hk, L9⟩
        simp only at hk L9 ⊢
        have nL9 := L9.same.1
        have gp9 := L9.p.gp
        unfold PS.cs at gp9
        rcases Nat.lt_or_ge kk S8.l.length with k0 | k0
        · have hrv9 := L9.p.ri.sv.rv (P := Try.prog)
          obtain ⟨t, ht⟩ : ∃ t, S8.l[kk]? = some t := ⟨_, List.getElem?_eq_getElem k0⟩
          have et : S8.l[kk] = t := by rw [List.getElem?_eq_getElem k0] at ht; exact Option.some.inj ht
          have cr0 : ((rcs S8.l).drop (kk * 4)).take 4 = [.int .i64 t.is, .bool t.inn, .bool t.wk, .int .u64 t.pk] := rcs_get ht
          have hbr : kk * 4 + 4 ≤ (rcs S8.l).length := by rw [rcs_len]; omega
          (refine Go.run (g:=?_))
          refine GoR.name ?_
          intro h20 e20
          have s20 : Same H9 h20 := by subst e20; exact ((Same.refl H9).push _).put (Nat.le_refl _) _
          have gt20 : h20.get H9.n = some (.cells [.int .i64 t.is, .bool t.inn, .bool t.wk, .int .u64 t.pk] 46) := by subst e20; exact AHeap.get_put_same _ (by simp) _
          clear e20
          have L20 := L9.same' s20
          have gp20 := s20.get gp9
          have dn := done_in w.n0 w.st S8.l (by omega) S8.la S8.lc h20 L20.p.si kk k0
          have pk := picks_in w.n0 w.st S8.l (by omega) S8.la S8.lc h20 L20.p.si kk k0
          rw [et] at dn pk
          clear gp9 hrv9 cr0 hbr L9
          (refine Go.run (g:=?_))
          refine GoR.call rfl rfl rfl rfl rfl rfl rfl (((dn).argA).mono ?_)
          rintro _ h21 ⟨rfl, rfl⟩ -
          (refine Go.run (g:=?_))
          refine GoR.boolNe rfl rfl rfl rfl rfl rfl boolU ?_
          rw [show (!(decide (t.is = 3) == decide ((t.is : Int) = 3))) = false from by
            by_cases e : t.is = 3
            · have e' : (t.is : Int) = 3 := by omega
              rw [decide_eq_true e, decide_eq_true e']; rfl
            · have e' : ¬ (t.is : Int) = 3 := by omega
              rw [decide_eq_false e, decide_eq_false e']; rfl]
          (refine Go.run (g:=?_))
          refine GoR.call rfl rfl rfl rfl rfl rfl rfl (((pk).argA).mono ?_)
          rintro _ h22 ⟨rfl, rfl⟩ -
          (refine Go.run (g:=?_))
          exact Go.again (kk + 1, _) ⟨by simp only; omega, L20⟩ (by simp only; omega) ⟨rfl, rfl, rfl, rfl, rfl, rfl, rfl, trivial⟩ rfl rfl
        · have hkk : kk = S8.l.length := by omega
          subst hkk
          have gr9 := L9.p.ri.sb
          (refine Go.run (g:=?_))
          refine GoR.call rfl rfl rfl rfl rfl rfl rfl (((done_out w.n0 w.st S8.l (by omega) S8.la S8.lc _ L9.p.si (S8.l.length : Int) (by omega) (.inr (Int.le_refl _))).argA).mono ?_)
          rintro _ h21 ⟨rfl, rfl⟩ -
          (refine Go.run (g:=?_))
          refine GoR.call rfl rfl rfl rfl rfl rfl rfl (((done_out w.n0 w.st S8.l (by omega) S8.la S8.lc _ L9.p.si (-1) (by omega) (.inl (by omega))).argA).mono ?_)
          rintro _ h22 ⟨rfl, rfl⟩ -
          (refine Go.run (g:=?_))
          refine GoR.call rfl rfl rfl rfl rfl rfl rfl (((picks_out w.n0 w.st S8.l (by omega) S8.la S8.lc _ L9.p.si (S8.l.length : Int) (by omega) (.inr (Int.le_refl _))).argA).mono ?_)
          rintro _ h23 ⟨rfl, rfl⟩ -
          (refine Go.run (g:=?_))
          exact Go.again (i + 1, _, S8) ⟨by simp only; omega, L9⟩ (by simp only; omega) ⟨rfl, rfl, rfl, rfl, trivial⟩ rfl rfl
      · obtain ⟨S8, hS8⟩ : ∃ S8 : PS, S8 = S := ⟨_, rfl⟩
        have L8 : LP h w (i + 1) S8 h7 := by rw [hS8]; exact ⟨L7.p, lB, ldp, by push_cast; omega, lhi, L7.same⟩
        clear gp7 gt7
        have gp8' := L8.p.gp
        unfold PS.cs at gp8'
        have hl8 := L8.p.lt600
        have hr1 := idx_le runB S8.l 0
        have hr2 := idx_le waitB S8.l 0
        (refine Go.run (g:=?_))
        refine GoR.call rfl rfl rfl rfl rfl rfl rfl (((runnable_spec w.n0 w.st S8.l (by omega) S8.la S8.lc _ L8.p.si).argA).mono ?_)
        rintro _ h10 ⟨b1, c1, rfl, hs1, o1⟩ s10
        have L10 := L8.same' s10
        have gp10 := s10.get gp8'
        (refine Go.run (g:=?_))
        refine GoR.call rfl rfl rfl rfl rfl rfl rfl (((rrun_spec w.n0 w.rr S8.l (by omega) S8.ra S8.rc _ L10.p.ri).argA).mono ?_)
        rintro _ h11 ⟨b2, c2, rfl, hs2, o2⟩ s11
        have L11 := L10.same' s11
        have gp11 := s11.get gp10
        (refine Go.run (g:=?_))
        refine GoR.call rfl rfl rfl rfl rfl rfl rfl (((same25_spec (idx runB S8.l 0) (by omega) b1 b2 c1 c2 _ ((hs1.same s11).rv (P := Try.prog)) (hs2.rv (P := Try.prog))).argA).mono ?_)
        rintro _ h12 ⟨rfl, rfl⟩ -
        (refine Go.run (g:=?_))
        refine GoR.call rfl rfl rfl rfl rfl rfl rfl (((waiting_spec w.n0 w.st S8.l (by omega) S8.la S8.lc _ L11.p.si).argA).mono ?_)
        rintro _ h13 ⟨b3, c3, rfl, hs3, o3⟩ s13
        have L13 := L11.same' s13
        have gp13 := s13.get gp11
        (refine Go.run (g:=?_))
        refine GoR.call rfl rfl rfl rfl rfl rfl rfl (((rwait_spec w.n0 w.rr S8.l (by omega) S8.ra S8.rc _ L13.p.ri).argA).mono ?_)
        rintro _ h14 ⟨b4, c4, rfl, hs4, o4⟩ s14
        have L14 := L13.same' s14
        have gp14 := s14.get gp13
        (refine Go.run (g:=?_))
        refine GoR.call rfl rfl rfl rfl rfl rfl rfl (((same25_spec (idx waitB S8.l 0) (by omega) b3 b4 c3 c4 _ ((hs3.same s14).rv (P := Try.prog)) (hs4.rv (P := Try.prog))).argA).mono ?_)
        rintro _ h15 ⟨rfl, rfl⟩ -
        have gr14 := L14.p.ri.sb
        clear gp8' gp10 gp11 gp13 L8 L10 L11 L13 hs1 hs2 hs3 hs4
        (refine Go.run (g:=?_))
        refine Go.name ?_
        intro hC eC
        have LC : LP h w (i + 1) S8 hC := by subst eC; exact L14
        clear eC L14 gp14 gr14
        refine Go.loop (α := Nat × AHeap) (fun x => [(128, .int .i64 x.1), (127, .int .i64 S8.l.length), (126, .slice S8.ra S8.l.length S8.rc), (8, ptr w.pp), (49, .int .i64 i), (48, .int .i64 ND), (47, .slice a ND ca)]) (fun _ => []) (fun x => x.2) (fun x => x.1 ≤ S8.l.length ∧ LP h w (i + 1) S8 x.2) (fun x => S8.l.length - x.1) (0, hC) ?_ ?_ rfl rfl ?_
        · exact ⟨Nat.zero_le _, LC⟩
        · exact ⟨rfl, rfl, rfl, rfl, rfl, rfl, rfl, trivial⟩
        clear LC
        rintro ⟨kk, H9⟩ ⟨hk, L9⟩
        simp only at hk L9 ⊢
        have nL9 := L9.same.1
        have gp9 := L9.p.gp
        unfold PS.cs at gp9
        rcases Nat.lt_or_ge kk S8.l.length with k0 | k0
        · have hrv9 := L9.p.ri.sv.rv (P := Try.prog)
          obtain ⟨t, ht⟩ : ∃ t, S8.l[kk]? = some t := ⟨_, List.getElem?_eq_getElem k0⟩
          have et : S8.l[kk] = t := by rw [List.getElem?_eq_getElem k0] at ht; exact Option.some.inj ht
          have cr0 : ((rcs S8.l).drop (kk * 4)).take 4 = [.int .i64 t.is, .bool t.inn, .bool t.wk, .int .u64 t.pk] := rcs_get ht
          have hbr : kk * 4 + 4 ≤ (rcs S8.l).length := by rw [rcs_len]; omega
          (refine Go.run (g:=?_))
          refine GoR.name ?_
          intro h20 e20
          have s20 : Same H9 h20 := by subst e20; exact ((Same.refl H9).push _).put (Nat.le_refl _) _
          have gt20 : h20.get H9.n = some (.cells [.int .i64 t.is, .bool t.inn, .bool t.wk, .int .u64 t.pk] 46) := by subst e20; exact AHeap.get_put_same _ (by simp) _
          clear e20
          have L20 := L9.same' s20
          have gp20 := s20.get gp9
          have dn := done_in w.n0 w.st S8.l (by omega) S8.la S8.lc h20 L20.p.si kk k0
          have pk := picks_in w.n0 w.st S8.l (by omega) S8.la S8.lc h20 L20.p.si kk k0
          rw [et] at dn pk
          clear gp9 hrv9 cr0 hbr L9
          (refine Go.run (g:=?_))
          refine GoR.call rfl rfl rfl rfl rfl rfl rfl (((dn).argA).mono ?_)
          rintro _ h21 ⟨rfl, rfl⟩ -
          (refine Go.run (g:=?_))
          refine GoR.boolNe rfl rfl rfl rfl rfl rfl boolU ?_
          rw [show (!(decide (t.is = 3) == decide ((t.is : Int) = 3))) = false from by
            by_cases e : t.is = 3
            · have e' : (t.is : Int) = 3 := by omega
              rw [decide_eq_true e, decide_eq_true e']; rfl
            · have e' : ¬ (t.is : Int) = 3 := by omega
              rw [decide_eq_false e, decide_eq_false e']; rfl]
          (refine Go.run (g:=?_))
          refine GoR.call rfl rfl rfl rfl rfl rfl rfl (((pk).argA).mono ?_)
          rintro _ h22 ⟨rfl, rfl⟩ -
          (refine Go.run (g:=?_))
          exact Go.again (kk + 1, _) ⟨by simp only; omega, L20⟩ (by simp only; omega) ⟨rfl, rfl, rfl, rfl, rfl, rfl, rfl, trivial⟩ rfl rfl
        · have hkk : kk = S8.l.length := by omega
          subst hkk
          have gr9 := L9.p.ri.sb
          (refine Go.run (g:=?_))
          refine GoR.call rfl rfl rfl rfl rfl rfl rfl (((done_out w.n0 w.st S8.l (by omega) S8.la S8.lc _ L9.p.si (S8.l.length : Int) (by omega) (.inr (Int.le_refl _))).argA).mono ?_)
          rintro _ h21 ⟨rfl, rfl⟩ -
          (refine Go.run (g:=?_))
          refine GoR.call rfl rfl rfl rfl rfl rfl rfl (((done_out w.n0 w.st S8.l (by omega) S8.la S8.lc _ L9.p.si (-1) (by omega) (.inl (by omega))).argA).mono ?_)
          rintro _ h22 ⟨rfl, rfl⟩ -
          (refine Go.run (g:=?_))
          refine GoR.call rfl rfl rfl rfl rfl rfl rfl (((picks_out w.n0 w.st S8.l (by omega) S8.la S8.lc _ L9.p.si (S8.l.length : Int) (by omega) (.inr (Int.le_refl _))).argA).mono ?_)
          rintro _ h23 ⟨rfl, rfl⟩ -
          (refine Go.run (g:=?_))
          exact Go.again (i + 1, _, S8) ⟨by simp only; omega, L9⟩ (by simp only; omega) ⟨rfl, rfl, rfl, rfl, trivial⟩ rfl rfl
    · (refine Go.run (g:=?_))
      (first|refine Go.finT (by first|exact .inr rfl|exact .inl rfl) rfl ?_|refine Go.fin1 (by first|exact .inr rfl|exact .inl rfl) rfl (hq:=?_))
      rfl
end Go.Proofs.Ytacfneokhmnkbaa
namespace Go.Proofs.Ytacfneokhmnkbaa
open Go.ChangeShapes Go.WideShapes Go.ChangeAt Go.RowKit
set_option maxRecDepth 100000
theorem taskPlaysWalk {H : Type} {enc : TypeId × Value → H} {base : Nat} {d0 : DataW H} {p0 : List MemPlace} (v0 : Value) (W : World) (o0 : Value.okWide Try.prog W .any base 22 v0) (h0 : DataW.Trod enc Try.prog W 0 (fun _ => true) true 22 v0 d0 p0) (z0 : Sized Try.prog 22 d0) : Calls Try.prog 3 #[v0] W fun e w' => e = .returned (.bool true) ∧ Below W.heap.size W w' := by
  obtain ⟨a0, l0, c0, rfl⟩ := WideShapes.okWide_slice dosB o0
  obtain ⟨m, h, cs, I, _, _, hA, hR, hl⟩ := imp_val plainDos h0 (Im.empty Try.prog W)
  obtain ⟨x, rfl, hv⟩ := vrel_one hA (by rw [hl]; kernel_rfl) rfl
  obtain ⟨a, cap, ds, e, hz, hd, hlen⟩ := dos_of hR z0
  cases e
  exact calls_imp noGlobals I rfl (taskPlays_spec ds a cap h hz hd hlen) (ARel.single hv)
end Go.Proofs.Ytacfneokhmnkbaa