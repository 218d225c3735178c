/- What the law leans on, part 8. No conditions. -/
import Derived.ProofKit
import Derived.OpenShut
import Derived.ChangeOld
import Derived.Test.YtmelgnpogdilgaaChunkTakesPart7
namespace Go.Proofs.Ytmelgnpogdilgaa
set_option maxRecDepth 100000
attribute [local irreducible] Go GoR GoL
def ParR (h h' : AHeap) (v : Value) (c : Ck) : Option (List Nat × List UInt8) → Prop
  | none => ∃ x : Ck, v = .tuple #[x.v, .bool false]
  | some (A, D) => ∃ sD sA : Sl, v = .tuple #[(c.pd sD sA).v, .bool true] ∧ Sv h' 44 1 sA.a sA.n sA.cap (w32s A) ∧ A.length = sA.n ∧ (∀ x ∈ A, x < 4294967296) ∧ D.length = sD.n ∧ Rv Try.prog h' 1 sD.a sD.n sD.cap (D.map bv) ∧ Own h.n sA.a ∧ Own h.n sD.a
structure RInv (h : AHeap) (c : Ck) (s : Sg) (H : AHeap) : Prop where
  same : Same h H
  n : h.n + 2 ≤ H.n
  box : H.get h.n = some (.cells (c.pd s.D s.A).cs 57)
  res : H.get (h.n + 1) = some (.cells (Ck.none 0).cs 57)
  sv : Sv H 44 1 s.A.a s.A.n s.A.cap (w32s s.addrs)
  al : s.addrs.length = s.A.n
  ab : ∀ x ∈ s.addrs, x < 4294967296
  dl : s.data.length = s.D.n
  dv : Rv Try.prog H 1 s.D.a s.D.n s.D.cap (s.data.map bv)
  oA : Own (h.n + 2) s.A.a
  oD : Own (h.n + 2) s.D.a
  DA : ∀ i ∈ blk s.D.a, i ∉ blk s.A.a
theorem RInv.to {h : AHeap} {c : Ck} {s : Sg} {H H' : AHeap} (I : RInv h c s H) (sm : Same H H') : RInv h c s H' := ⟨I.same.trans sm, Nat.le_trans I.n sm.1, sm.get I.box, sm.get I.res, I.sv.same sm, I.al, I.ab, I.dl, I.dv.same sm, I.oA, I.oD, I.DA⟩
set_option maxHeartbeats 16000000 in
theorem rpar_spec (c : Ck) (hA : c.A = ⟨none, 0, 0⟩) (hD : c.D = ⟨none, 0, 0⟩) (a : Option Addr) (cap : Nat) (zs : List UInt8) (hl : zs.length ≤ 1000000) (h : AHeap) (hz : Rv Try.prog h 1 a zs.length cap (zs.map bv)) : CallS Try.prog [] 66 [c.v, .slice a zs.length cap] h fun v h' => ParR h h' v c (pgo c.k (parse false zs).2 (parse false zs).1 [] [] 0) := by
  unfold Ck.v
  (refine CallS.of2 Try.func66 rfl Try.ntmps66 Try.results66 rfl ?_)
  (iterate 5 (first|refine GoR.end ?_|(refine GoR.gd rfl ?_;first|refine GoR.wanted' rfl rfl rfl rfl (g:=?_)|refine GoR.unwanted' rfl rfl rfl rfl (hd:=rfl) (hN:=rfl) (g:=?_)|refine GoR.unwantedU rfl rfl rfl rfl rfl rfl ?_)|(refine GoR.kk 0 rfl ?_;first|refine GoR.move rfl rfl rfl rfl rfl ?_|refine GoR.assign rfl rfl rfl rfl rfl ?_)|(refine GoR.kk 1 rfl ?_;first|refine GoR.load' rfl rfl rfl rfl rfl (g:=?_)|refine GoR.loadA' rfl rfl rfl rfl rfl (hv:=rfl) (g:=?_)|refine GoR.loadV' rfl rfl rfl rfl rfl (g:=?_)|refine GoR.loadVN' rfl rfl rfl rfl rfl (g:=?_))|(refine GoR.kk 2 rfl ?_;first|refine GoR.store' rfl rfl rfl rfl rfl (hl:=rfl) (h1:=rfl) (h3:=rfl) (g:=?_))|(refine GoR.kk 3 rfl ?_;first|refine GoR.fieldAddr rfl rfl rfl rfl rfl ?_|refine GoR.indexN' rfl rfl rfl rfl rfl rfl (g:=?_)|refine GoR.indexNs' rfl rfl rfl rfl rfl rfl (g:=?_)|refine GoR.indexV' rfl rfl rfl rfl rfl rfl (g:=?_)|refine GoR.indexA' rfl rfl rfl rfl rfl rfl (g:=?_)|refine GoR.fieldV' rfl rfl rfl rfl rfl (g:=?_))|(refine GoR.kk 4 rfl ?_;first|refine GoR.eq rfl rfl rfl rfl rfl rfl ?_|refine GoR.ne rfl rfl rfl rfl rfl rfl ?_|refine GoR.lt rfl rfl rfl rfl rfl rfl ?_|refine GoR.le rfl rfl rfl rfl rfl rfl ?_|refine GoR.gt rfl rfl rfl rfl rfl rfl ?_|refine GoR.ge rfl rfl rfl rfl rfl rfl ?_|refine GoR.addN' rfl rfl rfl rfl rfl rfl (g:=?_)|refine GoR.subN' rfl rfl rfl rfl rfl rfl (g:=?_)|refine GoR.add' rfl rfl rfl rfl rfl rfl (g:=?_)|refine GoR.sub' rfl rfl rfl rfl rfl rfl (g:=?_)|refine GoR.addM' rfl rfl rfl rfl rfl rfl (g:=?_)|refine GoR.subM' rfl rfl rfl rfl rfl rfl (g:=?_)|refine GoR.mulM' rfl rfl rfl rfl rfl rfl (g:=?_)|refine GoR.shrN rfl rfl rfl rfl rfl rfl rfl ?_|refine GoR.structEq rfl rfl rfl rfl rfl rfl (by rfl) (by rfl) ?_|refine GoR.structNe rfl rfl rfl rfl rfl rfl (by rfl) (by rfl) ?_|refine GoR.strEq rfl rfl rfl rfl rfl rfl ?_|refine GoR.strNe rfl rfl rfl rfl rfl rfl ?_|refine GoR.remN' rfl rfl rfl rfl rfl rfl (g:=?_)|refine GoR.quoN' rfl rfl rfl rfl rfl rfl (g:=?_)|refine GoR.shlN' rfl rfl rfl rfl rfl rfl rfl (g:=?_)|refine GoR.orN' rfl rfl rfl rfl rfl rfl (g:=?_))|(refine GoR.kk 5 rfl ?_;first|refine GoR.len rfl rfl rfl rfl rfl ?_|refine GoR.lenStr rfl rfl rfl rfl rfl ?_|refine GoR.capB rfl rfl rfl rfl rfl ?_)|(refine GoR.kk 7 rfl ?_;first|refine GoR.pickE' rfl rfl rfl rfl rfl (hx:=rfl) (hy:=rfl) (g:=?_)|refine GoR.pickN' rfl rfl rfl rfl rfl (hx:=rfl) (hy:=rfl) (g:=?_)|refine GoR.pickB rfl rfl rfl rfl rfl rfl rfl ?_)|(refine GoR.kk 8 rfl ?_;first|refine GoR.boxA rfl rfl rfl rfl rfl ?_|refine GoR.boxS rfl rfl rfl rfl rfl rfl ?_|refine GoR.alloc rfl rfl rfl rfl ?_)|(refine GoR.kk 9 rfl ?_;first|refine GoR.strV' rfl rfl rfl rfl rfl (g:=?_)|refine GoR.conv_u8 rfl rfl rfl rfl rfl ?_|refine GoR.convW' rfl rfl rfl rfl rfl (g:=?_)|refine GoR.conv_u16 rfl rfl rfl rfl rfl ?_|refine GoR.conv_u32 rfl rfl rfl rfl rfl ?_)|(refine GoR.kk 10 rfl ?_;first|refine GoR.build' rfl rfl rfl rfl rfl rfl (g:=?_))|(refine GoR.kk 11 rfl ?_;first|refine GoR.extract rfl rfl rfl rfl rfl rfl ?_|refine GoR.not rfl rfl rfl rfl rfl ?_|refine GoR.nilCheck rfl rfl rfl rfl rfl ?_|refine GoR.nilCheckF rfl rfl rfl rfl rfl ?_|refine GoR.makeFunc rfl rfl rfl rfl rfl rfl ?_)|(refine Go.kk 0 rfl ?_;refine Go.seq ?_)|(refine Go.kk 1 rfl ?_;refine Go.region (by kernel_rfl) rfl ?_)|(refine Go.kk 2 rfl ?_;refine Go.drawnQ rfl (by kernel_rfl) rfl ?_)|(refine Go.kk 3 rfl ?_;first|refine Go.cond_t' rfl (g:=?_)|refine Go.cond_f' rfl (g:=?_))|(refine Go.kk 4 rfl ?_;refine Go.block ?_)|(refine Go.kk 5 rfl ?_;first|refine Go.skip ?_|refine Go.ret ?_|refine Go.exit ?_|refine Go.scope ?_)|refine Go.leave_normal ?_|refine Go.leave_same ?_|refine Go.leave_ret ?_|refine Go.ret_code ?_|refine Go.exit_code ?_|refine Go.leave_other rfl ?_|refine Go.sc_normal ?_|refine Go.sc_ret ?_|refine Go.sc_exit ?_|refine Go.exit_back ?_|refine Go.ret_back ?_))
  simp only [AHeap.n_push, AHeap.n_put]
  refine GoR.name ?_
  intro h3 e3
  have I3 : RInv h c ⟨⟨none, 0, 0⟩, ⟨none, 0, 0⟩, [], [], 0, false⟩ h3 := by
    refine ⟨by subst e3; exact ((Same.refl h).push _).push _, by subst e3; exact Nat.le_refl _, ?_, by subst e3; (first | assumption | exact AHeap.get_push_same _ _ | ((repeat first | exact AHeap.get_push_same _ _ | assumption | refine get_push_lt ?_ | exact AHeap.get_put_same _ (by first | omega | (simp only [AHeap.n_push, AHeap.n_put]; omega)) _ | exact get_put_self (by assumption) | apply get_put_self | refine get_put_other (by first | omega | (simp only [AHeap.n_push, AHeap.n_put]; omega)) ?_ | refine Same.get (by assumption) ?_ | refine Keeps.get (by assumption) ?_ (fun hi => by have hx := Own.out (by assumption) hi; omega)) ; fail_if_success focus skip) | fail), .nil, rfl, (fun x hx => by cases hx), rfl, Rv.nil, Own.nil _, Own.nil _, fun i hi => by simp [blk] at hi⟩
    rw [show c.pd ⟨none, 0, 0⟩ ⟨none, 0, 0⟩ = c from by cases c; simp_all]
    subst e3
    (first | assumption | exact AHeap.get_push_same _ _ | ((repeat first | exact AHeap.get_push_same _ _ | assumption | refine get_push_lt ?_ | exact AHeap.get_put_same _ (by first | omega | (simp only [AHeap.n_push, AHeap.n_put]; omega)) _ | exact get_put_self (by assumption) | apply get_put_self | refine get_put_other (by first | omega | (simp only [AHeap.n_push, AHeap.n_put]; omega)) ?_ | refine Same.get (by assumption) ?_ | refine Keeps.get (by assumption) ?_ (fun hi => by have hx := Own.out (by assumption) hi; omega)) ; fail_if_success focus skip) | fail)
  clear e3
  (refine Go.run (g:=?_))
  refine Go.loop (α := Nat × AHeap × Sg) (fun x => [(7, .int .i64 x.1), (6, .int .i64 x.2.2.n), (1, .slice a zs.length cap), (2, .pointer (some ⟨h.n, 0, none⟩)), (4, .pointer (some ⟨h.n + 1, 0, none⟩))]) (fun _ => []) (fun x => x.2.1)
    (fun x => x.1 ≤ zs.length ∧ RInv h c x.2.2 x.2.1 ∧ x.2.2.addrs.length ≤ 3 ∧ x.2.2.n ≤ x.1 ∧ pgo c.k (parse false zs).2 (parse false zs).1 [] [] 0 = pgo c.k (parse false (zs.drop x.1)).2 (parse false (zs.drop x.1)).1 x.2.2.addrs x.2.2.data x.2.2.n) (fun x => zs.length - x.1) (0, h3, ⟨⟨none, 0, 0⟩, ⟨none, 0, 0⟩, [], [], 0, false⟩) ?_ ?_ rfl rfl ?_
  · exact ⟨Nat.zero_le _, I3, by simp, Nat.le_refl _, rfl⟩
  · exact ⟨rfl, rfl, rfl, rfl, rfl, trivial⟩
  clear I3
  rintro ⟨at_, H, s⟩ ⟨hat, I, l3, hn, hp⟩
  simp only at hat I l3 hn hp ⊢
  have gR : H.get (h.n + 1) = some (.cells (Ck.none 0).cs 57) := I.res
  unfold Ck.cs Ck.none Sl.nil at gR
  have gB := I.box
  unfold Ck.cs at gB
  dsimp only at gB
  have mH := I.n
  rcases Nat.lt_or_ge at_ zs.length with a0 | a0
  case inr =>
    have ed : zs.drop at_ = [] := List.drop_eq_nil_of_le a0
    rw [ed, parse_nil] at hp
    rw [hp]
    have hae : at_ = zs.length := by omega
    subst hae
    (refine Go.run (g:=?_))
    refine Go.fin (.inr rfl) (.cellN (b := h.n + 1) (off := 0) rfl inferInstance (by (first | assumption | exact AHeap.get_push_same _ _ | ((repeat first | exact AHeap.get_push_same _ _ | assumption | refine get_push_lt ?_ | exact AHeap.get_put_same _ (by first | omega | (simp only [AHeap.n_push, AHeap.n_put]; omega)) _ | exact get_put_self (by assumption) | apply get_put_self | refine get_put_other (by first | omega | (simp only [AHeap.n_push, AHeap.n_put]; omega)) ?_ | refine Same.get (by assumption) ?_ | refine Keeps.get (by assumption) ?_ (fun hi => by have hx := Own.out (by assumption) hi; omega)) ; fail_if_success focus skip) | fail)) (by first | exact Nat.le_refl _ | (simp [setL, cellsL]; fail_if_success focus skip) | (simp; omega)) rfl (.tmp rfl .nil)) ?_
    exact ⟨s.D, s.A, rfl, I.sv.put (fun hm => by have := I.oA _ hm; omega) _, I.al, I.ab, I.dl, I.dv.put (fun hm => by have := I.oD _ hm; omega) _, I.oA.mono (by omega), I.oD.mono (by omega)⟩
  have ne : zs.drop at_ ≠ [] := fun e => by have := List.length_drop (i := at_) (l := zs); rw [e] at this; simp at this; omega
  (refine Go.run (g:=?_))
  refine GoR.call rfl rfl rfl rfl rfl rfl rfl (((one_spec false a zs.length cap zs rfl at_ hat hl _ (hz.same I.same)).args (by first | rfl | (simp; fail_if_success focus skip) | (simp; omega) | (congr 2; omega))).mono ?_)
  rintro _ h4 hone s4
  (have nn := (s4).1; try simp only [AHeap.n_push, AHeap.n_put] at nn)
  have gR4 := s4.get gR
  have gB4 := s4.get gB
  have I4 := I.to s4
  rcases hone with ⟨hW, rfl⟩ | ⟨hW, t, rfl, hth, hok, hto⟩
  · rw [parse_none ne hW] at hp
    simp only [pgo, Bool.false_eq_true, if_false] at hp
    rw [hp]
    (refine Go.run (g:=?_))
    refine Go.fin (.inr rfl) (.cellN (b := h.n + 1) (off := 0) rfl inferInstance (by (first | assumption | exact AHeap.get_push_same _ _ | ((repeat first | exact AHeap.get_push_same _ _ | assumption | refine get_push_lt ?_ | exact AHeap.get_put_same _ (by first | omega | (simp only [AHeap.n_push, AHeap.n_put]; omega)) _ | exact get_put_self (by assumption) | apply get_put_self | refine get_put_other (by first | omega | (simp only [AHeap.n_push, AHeap.n_put]; omega)) ?_ | refine Same.get (by assumption) ?_ | refine Keeps.get (by assumption) ?_ (fun hi => by have hx := Own.out (by assumption) hi; omega)) ; fail_if_success focus skip) | fail)) (by first | exact Nat.le_refl _ | (simp [setL, cellsL]; fail_if_success focus skip) | (simp; omega)) rfl (.tmp rfl .nil)) ?_
    exact ⟨c.pd s.D s.A, rfl⟩
  rw [parse_some hW, ← hth, List.drop_drop] at hp
  have hW1 := hW.2.2.1
  have hW2 := up4_le (tN (zs.drop at_))
  have hW3 := hW.2.1
  rw [List.length_drop] at hW1
  generalize up4 (tN (zs.drop at_)) = u at *
  have htl : t.z.length ≤ zs.length := by
    have := thing_len (chunk := false) hW
    rw [← hth] at this
    have : t.z.length = tN (zs.drop at_) - 4 := this
    omega
  obtain ⟨tk, tf, tz, ta, tcap⟩ := t
  simp only [TV.thing] at hp htl hok hto ⊢
  simp only [TV.ok] at hok
  simp only [pgo] at hp
  have al := I.al
  by_cases k5 : tk = 5
  · simp only [if_pos k5] at hp
    by_cases z4 : tz.length = 4
    case neg =>
      simp only [if_neg (show ¬ (tz.length = 4 ∧ s.addrs.length ≠ 3) from fun x => z4 x.1)] at hp
      rw [hp]
      (refine Go.run (g:=?_))
      refine Go.fin (.inr rfl) (.cellN (b := h.n + 1) (off := 0) rfl inferInstance (by (first | assumption | exact AHeap.get_push_same _ _ | ((repeat first | exact AHeap.get_push_same _ _ | assumption | refine get_push_lt ?_ | exact AHeap.get_put_same _ (by first | omega | (simp only [AHeap.n_push, AHeap.n_put]; omega)) _ | exact get_put_self (by assumption) | apply get_put_self | refine get_put_other (by first | omega | (simp only [AHeap.n_push, AHeap.n_put]; omega)) ?_ | refine Same.get (by assumption) ?_ | refine Keeps.get (by assumption) ?_ (fun hi => by have hx := Own.out (by assumption) hi; omega)) ; fail_if_success focus skip) | fail)) (by first | exact Nat.le_refl _ | (simp [setL, cellsL]; fail_if_success focus skip) | (simp; omega)) rfl (.tmp rfl .nil)) ?_
      exact ⟨c.pd s.D s.A, rfl⟩
    by_cases a3 : s.addrs.length = 3
    case pos =>
      simp only [if_neg (show ¬ (tz.length = 4 ∧ s.addrs.length ≠ 3) from fun x => x.2 a3)] at hp
      rw [hp]
      have a3' : s.A.n = 3 := by rw [← I.al]; exact a3
      (refine Go.run (g:=?_))
      refine Go.fin (.inr rfl) (.cellN (b := h.n + 1) (off := 0) rfl inferInstance (by (first | assumption | exact AHeap.get_push_same _ _ | ((repeat first | exact AHeap.get_push_same _ _ | assumption | refine get_push_lt ?_ | exact AHeap.get_put_same _ (by first | omega | (simp only [AHeap.n_push, AHeap.n_put]; omega)) _ | exact get_put_self (by assumption) | apply get_put_self | refine get_put_other (by first | omega | (simp only [AHeap.n_push, AHeap.n_put]; omega)) ?_ | refine Same.get (by assumption) ?_ | refine Keeps.get (by assumption) ?_ (fun hi => by have hx := Own.out (by assumption) hi; omega)) ; fail_if_success focus skip) | fail)) (by first | exact Nat.le_refl _ | (simp [setL, cellsL]; fail_if_success focus skip) | (simp; omega)) rfl (.tmp rfl .nil)) ?_
      exact ⟨c.pd s.D s.A, rfl⟩
    simp only [if_pos (show tz.length = 4 ∧ s.addrs.length ≠ 3 from ⟨z4, a3⟩)] at hp
    have a3' : s.A.n ≠ 3 := by rw [← I.al]; exact a3
    (refine Go.run (g:=?_))
    refine Go.name ?_
    intro h5 e5
    have s5 : Same h4 h5 := by subst e5; exact ((Same.refl h4).push _).put (Nat.le_refl _) _
    have n5 : h5.n = h4.n + 1 := by subst e5; rfl
    have g5 : h5.get h4.n = some (.cells [.int .u16 tk, .int .u8 tf, .slice ta tz.length tcap] 25) := by subst e5; exact AHeap.get_put_same _ (by simp) _
    clear e5
    have gR5 := s5.get gR4
    have gB5 := s5.get gB4
    have I5 := I4.to s5
    have m5 := I5.n
    have hok5 := hok.same s5
    refine Go.loud (by kernel_rfl) rfl ?_
    (refine Go.runL (g:=?_))
    refine GoL.callS rfl rfl rfl rfl rfl rfl rfl (((rn_spec ta tcap tz 0 4 (by decide) (by decide) (by omega) _ hok5).args (by first | rfl | (simp; fail_if_success focus skip) | (simp; omega) | (congr 2; omega))).mono ?_)
    rintro _ h6 rfl s6
    rw [rn_le (show 0 + 4 ≤ tz.length by omega), show nAt tz 0 4 = beNum tz from by unfold nAt; rw [List.drop_zero, List.take_of_length_le (by omega)]]
    have x4 : beNum tz < 4294967296 := beNum_lt_of (k := 4) (by omega) rfl
    generalize beNum tz = X at *
    (refine Go.runL (g:=?_))
    refine GoL.buildRo (c := w32s [X]) rfl rfl rfl rfl rfl (by decide) (by rfl) (by rfl) ?_
    intro b8 h8 hb8 rb8 ob8 s8 n8
    have s68 := s6.trans s8
    have m8 := s68.1
    have I8 := I5.to s68
    have oA := I.oA
    refine GoL.appendV rfl rfl rfl rfl rfl rfl I8.sv hb8 (fun j hj => .inr (by have := oA _ hj; omega)) (by omega) (by omega) (by rfl) ?_
    intro b9 c9 h9 rd wr hwr hrd hs9 k9 o9
    have m9 := k9.1
    have nb : ∀ j, j < h.n + 2 → j ∉ blk s.A.a := fun j hj hm => by have := oA _ hm; omega
    have g9 := k9.get (s68.get gB5) (nb _ (by omega))
    have g19 := k9.get (s68.get gR5) (nb _ (by omega))
    (refine Go.runL (g:=?_))
    refine GoL.store' rfl rfl rfl rfl rfl (hl:=rfl) (h1:=rfl) (h3:=rfl) (g:=?_)
    refine GoL.end_ (hl := by (simp only [List.nil_append, List.cons_append]); repeat (first | exact loudP.nil | refine loudP.none ?_ | refine loudP.new (fun _ hb => absurd hb List.not_mem_nil) ?_ | refine loudP.row (by repeat (first | exact loudRowP.nil | refine loudRowP.none ?_ | refine loudRowP.bef (by decide +kernel) ?_)) ?_)) ?_
    (refine Go.run (g:=?_))
    have ob9 : Own (h.n + 2) b9 := oA.app (by omega) o9
    refine Go.name ?_
    intro h10 e10
    have g10 : h10.get h.n = some (.cells (c.pd s.D ⟨b9, s.A.n + 1, c9⟩).cs 57) := by subst e10; exact get_put_self g9
    have I10 : RInv h c ⟨s.D, ⟨b9, s.A.n + 1, c9⟩, s.addrs ++ [X], s.data, s.n, false⟩ h10 := by
      refine ⟨by subst e10; exact (I8.same.ownO k9 oA (by omega)).put (Nat.le_refl _) _, by subst e10; simp only [AHeap.n_put]; omega, g10, by subst e10; exact get_put_other (by omega) g19, ?_, by simp [al], fun x hx => (List.mem_append.1 hx).elim (I.ab x) (fun y => by simp only [List.mem_singleton] at y; subst y; exact x4), I.dl, ?_, ob9, I.oD, fun j hj hm => (o9 j hm).elim (I.DA j hj) (fun y => by have := I8.dv.lt j hj; omega)⟩
      · rw [show w32s (s.addrs ++ [X]) = w32s s.addrs ++ w32s [X] from by simp [w32s]]
        exact hs9.put_eq e10 (fun hm => by have := ob9 _ hm; omega)
      · subst e10
        exact (I8.dv.keeps k9 I.DA).put (fun hm => by have := I.oD _ hm; omega) _
    exact Go.again (at_ + u, h10, ⟨s.D, ⟨b9, s.A.n + 1, c9⟩, s.addrs ++ [X], s.data, s.n, false⟩) ⟨by simp only; omega, I10, by simp; omega, by simp only; omega, hp⟩ (by simp only; omega) ⟨rfl, rfl, rfl, rfl, rfl, trivial⟩ rfl rfl
  simp only [if_neg k5] at hp
  by_cases k7 : tk = 7
  · simp only [if_pos k7] at hp
    by_cases q1 : c.k = 1
    case pos =>
      simp only [if_pos (show c.k = 1 ∨ s.n ≠ 0 ∨ tz.length = 0 from .inl q1)] at hp
      rw [hp]
      (refine Go.run (g:=?_))
      refine Go.fin (.inr rfl) (.cellN (b := h.n + 1) (off := 0) rfl inferInstance (by (first | assumption | exact AHeap.get_push_same _ _ | ((repeat first | exact AHeap.get_push_same _ _ | assumption | refine get_push_lt ?_ | exact AHeap.get_put_same _ (by first | omega | (simp only [AHeap.n_push, AHeap.n_put]; omega)) _ | exact get_put_self (by assumption) | apply get_put_self | refine get_put_other (by first | omega | (simp only [AHeap.n_push, AHeap.n_put]; omega)) ?_ | refine Same.get (by assumption) ?_ | refine Keeps.get (by assumption) ?_ (fun hi => by have hx := Own.out (by assumption) hi; omega)) ; fail_if_success focus skip) | fail)) (by first | exact Nat.le_refl _ | (simp [setL, cellsL]; fail_if_success focus skip) | (simp; omega)) rfl (.tmp rfl .nil)) ?_
      exact ⟨c.pd s.D s.A, rfl⟩
    by_cases q2 : s.n = 0
    case neg =>
      simp only [if_pos (show c.k = 1 ∨ s.n ≠ 0 ∨ tz.length = 0 from .inr (.inl q2))] at hp
      rw [hp]
      (refine Go.run (g:=?_))
      refine Go.fin (.inr rfl) (.cellN (b := h.n + 1) (off := 0) rfl inferInstance (by (first | assumption | exact AHeap.get_push_same _ _ | ((repeat first | exact AHeap.get_push_same _ _ | assumption | refine get_push_lt ?_ | exact AHeap.get_put_same _ (by first | omega | (simp only [AHeap.n_push, AHeap.n_put]; omega)) _ | exact get_put_self (by assumption) | apply get_put_self | refine get_put_other (by first | omega | (simp only [AHeap.n_push, AHeap.n_put]; omega)) ?_ | refine Same.get (by assumption) ?_ | refine Keeps.get (by assumption) ?_ (fun hi => by have hx := Own.out (by assumption) hi; omega)) ; fail_if_success focus skip) | fail)) (by first | exact Nat.le_refl _ | (simp [setL, cellsL]; fail_if_success focus skip) | (simp; omega)) rfl (.tmp rfl .nil)) ?_
      exact ⟨c.pd s.D s.A, rfl⟩
    by_cases q3 : tz.length = 0
    case pos =>
      simp only [if_pos (show c.k = 1 ∨ s.n ≠ 0 ∨ tz.length = 0 from .inr (.inr q3))] at hp
      rw [hp]
      (refine Go.run (g:=?_))
      refine Go.fin (.inr rfl) (.cellN (b := h.n + 1) (off := 0) rfl inferInstance (by (first | assumption | exact AHeap.get_push_same _ _ | ((repeat first | exact AHeap.get_push_same _ _ | assumption | refine get_push_lt ?_ | exact AHeap.get_put_same _ (by first | omega | (simp only [AHeap.n_push, AHeap.n_put]; omega)) _ | exact get_put_self (by assumption) | apply get_put_self | refine get_put_other (by first | omega | (simp only [AHeap.n_push, AHeap.n_put]; omega)) ?_ | refine Same.get (by assumption) ?_ | refine Keeps.get (by assumption) ?_ (fun hi => by have hx := Own.out (by assumption) hi; omega)) ; fail_if_success focus skip) | fail)) (by first | exact Nat.le_refl _ | (simp [setL, cellsL]; fail_if_success focus skip) | (simp; omega)) rfl (.tmp rfl .nil)) ?_
      exact ⟨c.pd s.D s.A, rfl⟩
    simp only [if_neg (show ¬ (c.k = 1 ∨ s.n ≠ 0 ∨ tz.length = 0) by omega)] at hp
    (refine Go.run (g:=?_))
    refine Go.name ?_
    intro h10 e10
    have hlt := hok.lt
    have s5 : Same h4 ((h4.push (.cells [.int .u16 (0 : Nat), .int .u8 (0 : Nat), .slice none 0 0] 25)).put h4.n (some (.cells [.int .u16 tk, .int .u8 tf, .slice ta tz.length tcap] 25))) := ((Same.refl h4).push _).put (Nat.le_refl _) _
    have I5 := I4.to s5
    have g10 : h10.get h.n = some (.cells (c.pd ⟨ta, tz.length, tcap⟩ s.A).cs 57) := by subst e10; exact get_put_self (s5.get gB4)
    have nbA : h.n ∉ blk s.A.a := fun hm => by have := I.oA _ hm; omega
    have nbT : h.n ∉ blk ta := fun hm => by have := hto _ hm; omega
    have I10 : RInv h c ⟨⟨ta, tz.length, tcap⟩, s.A, s.addrs, tz, s.n + 1, false⟩ h10 :=
      ⟨by subst e10; exact I5.same.put (Nat.le_refl _) _, by subst e10; simp only [AHeap.n_put, AHeap.n_push]; omega, g10, by subst e10; exact get_put_other (by omega) (s5.get gR4), by subst e10; exact I5.sv.put nbA _, I.al, I.ab, rfl, by subst e10; exact (hok.same s5).put nbT _, I.oA, (fun j hj => by have := hto j hj; omega), fun j hj hm => by have := hto j hj; have := I.sv.lt j hm; omega⟩
    exact Go.again (at_ + u, h10, ⟨⟨ta, tz.length, tcap⟩, s.A, s.addrs, tz, s.n + 1, false⟩) ⟨by simp only; omega, I10, l3, by simp only; omega, hp⟩ (by simp only; omega) ⟨rfl, rfl, rfl, rfl, rfl, trivial⟩ rfl rfl
  simp only [if_neg k7] at hp
  by_cases kb : tk < 32768
  · simp only [if_pos kb] at hp
    rw [hp]
    have s5 : Same h4 ((h4.push (.cells [.int .u16 (0 : Nat), .int .u8 (0 : Nat), .slice none 0 0] 25)).put h4.n (some (.cells [.int .u16 tk, .int .u8 tf, .slice ta tz.length tcap] 25))) := ((Same.refl h4).push _).put (Nat.le_refl _) _
    have I5 := I4.to s5
    (refine Go.run (g:=?_))
    refine Go.fin (.inr rfl) (.cellN (b := h.n + 1) (off := 0) rfl inferInstance (by (first | assumption | exact AHeap.get_push_same _ _ | ((repeat first | exact AHeap.get_push_same _ _ | assumption | refine get_push_lt ?_ | exact AHeap.get_put_same _ (by first | omega | (simp only [AHeap.n_push, AHeap.n_put]; omega)) _ | exact get_put_self (by assumption) | apply get_put_self | refine get_put_other (by first | omega | (simp only [AHeap.n_push, AHeap.n_put]; omega)) ?_ | refine Same.get (by assumption) ?_ | refine Keeps.get (by assumption) ?_ (fun hi => by have hx := Own.out (by assumption) hi; omega)) ; fail_if_success focus skip) | fail)) (by first | exact Nat.le_refl _ | (simp [setL, cellsL]; fail_if_success focus skip) | (simp; omega)) rfl (.tmp rfl .nil)) ?_
    exact ⟨s.D, s.A, rfl, I5.sv.put (fun hm => by have := I.oA _ hm; omega) _, I.al, I.ab, I.dl, I5.dv.put (fun hm => by have := I.oD _ hm; omega) _, I.oA.mono (by omega), I.oD.mono (by omega)⟩
  · simp only [if_neg kb] at hp
    (refine Go.run (g:=?_))
    refine Go.name ?_
    intro h10 e10
    have s5 : Same h4 h10 := by subst e10; exact ((Same.refl h4).push _).put (Nat.le_refl _) _
    exact Go.again (at_ + u, h10, s) ⟨by simp only; omega, I4.to s5, l3, by simp only; omega, hp⟩ (by simp only; omega) ⟨rfl, rfl, rfl, rfl, rfl, trivial⟩ rfl rfl
end Go.Proofs.Ytmelgnpogdilgaa
namespace Go.Proofs.Ytmelgnpogdilgaa
set_option maxRecDepth 100000
attribute [local irreducible] Go GoR GoL
structure RT (h H : AHeap) (c : Ck) : Prop where
  same : Same h H
  n : h.n + 3 ≤ H.n
  res : H.get (h.n + 1) = some (.cells (Ck.none 0).cs 57)
  chk : H.get (h.n + 2) = some (.cells c.cs 57)
theorem RT.to {h H H' : AHeap} {c : Ck} (T : RT h H c) (s : Same H H') : RT h H' c := ⟨T.same.trans s, Nat.le_trans T.n s.1, s.get T.res, s.get T.chk⟩
theorem RT.put_eq {h H H' : AHeap} {c : Ck} (c' : Ck) (T : RT h H c) (e : H' = H.put (h.n + 2) (some (.cells c'.cs 57))) : RT h H' c' := by
  subst e
  have hn := T.n
  exact ⟨T.same.put (by omega) _, by simp; omega, get_put_other (by omega) T.res, get_put_self T.chk⟩
theorem RT.app {h H H' : AHeap} {c : Ck} {b : Option Addr} (T : RT h H c) (k : Keeps (blk b) H H') (o : Own (h.n + 3) b) : RT h H' c := by
  have q : ∀ i, i < h.n + 3 → i ∉ blk b := fun i hi hm => by have := o _ hm; omega
  exact ⟨T.same.ownO k o (by omega), Nat.le_trans T.n k.1, k.get T.res (q _ (by omega)), k.get T.chk (q _ (by omega))⟩
theorem may_D {c : Ck} {gs : List (Nat × Nat)} (hk : c.k = 0) (h : c.D.n = 0) : may c gs = false := by
  unfold may
  rw [decide_eq_false (fun hm => hm.2.2.2.2 ⟨.inl hk, h⟩), Bool.false_and]
set_option maxHeartbeats 16000000 in
theorem rtake_spec (k f : Nat) (a : Option Addr) (cap : Nat) (zs : List UInt8) (hk : k < 65536) (hf : f < 256) (hl : zs.length ≤ 1000000) (h : AHeap) (hz : Rv Try.prog h 1 a zs.length cap (zs.map bv)) : CallS Try.prog [] 35 [tlvV k f a zs.length cap] h fun v h' => TakeR h' v (tkP k f zs) := by
  unfold tkP
  rcases Nat.lt_or_ge 255 k with hk1 | hk1
  · rw [if_pos hk1]
    (refine CallS.of1 Try.func35 rfl Try.ntmps35 Try.results35 rfl ?_)
    (refine Go.run (g:=?_))
    refine Go.fin (.inr rfl) (.cellN (b := h.n + 1) (off := 0) rfl inferInstance (by (first | assumption | exact AHeap.get_push_same _ _ | ((repeat first | exact AHeap.get_push_same _ _ | assumption | refine get_push_lt ?_ | exact AHeap.get_put_same _ (by first | omega | (simp only [AHeap.n_push, AHeap.n_put]; omega)) _ | exact get_put_self (by assumption) | apply get_put_self | refine get_put_other (by first | omega | (simp only [AHeap.n_push, AHeap.n_put]; omega)) ?_ | refine Same.get (by assumption) ?_ | refine Keeps.get (by assumption) ?_ (fun hi => by have hx := Own.out (by assumption) hi; omega)) ; fail_if_success focus skip) | fail)) (by first | exact Nat.le_refl _ | (simp [setL, cellsL]; fail_if_success focus skip) | (simp; omega)) rfl (.tmp rfl .nil)) ?_
    rfl
  rw [if_neg (by omega)]
  have hk8 : k < 256 := by omega
  have hkm : k % 256 = k := Nat.mod_eq_of_lt hk8
  (refine CallS.of1 Try.func35 rfl Try.ntmps35 Try.results35 rfl ?_)
  (iterate 26 (first|refine GoR.end ?_|(refine GoR.gd rfl ?_;first|refine GoR.wanted' rfl rfl rfl rfl (g:=?_)|refine GoR.unwanted' rfl rfl rfl rfl (hd:=rfl) (hN:=rfl) (g:=?_)|refine GoR.unwantedU rfl rfl rfl rfl rfl rfl ?_)|(refine GoR.kk 0 rfl ?_;first|refine GoR.move rfl rfl rfl rfl rfl ?_|refine GoR.assign rfl rfl rfl rfl rfl ?_)|(refine GoR.kk 1 rfl ?_;first|refine GoR.load' rfl rfl rfl rfl rfl (g:=?_)|refine GoR.loadA' rfl rfl rfl rfl rfl (hv:=rfl) (g:=?_)|refine GoR.loadV' rfl rfl rfl rfl rfl (g:=?_)|refine GoR.loadVN' rfl rfl rfl rfl rfl (g:=?_))|(refine GoR.kk 2 rfl ?_;first|refine GoR.store' rfl rfl rfl rfl rfl (hl:=rfl) (h1:=rfl) (h3:=rfl) (g:=?_))|(refine GoR.kk 3 rfl ?_;first|refine GoR.fieldAddr rfl rfl rfl rfl rfl ?_|refine GoR.indexN' rfl rfl rfl rfl rfl rfl (g:=?_)|refine GoR.indexNs' rfl rfl rfl rfl rfl rfl (g:=?_)|refine GoR.indexV' rfl rfl rfl rfl rfl rfl (g:=?_)|refine GoR.indexA' rfl rfl rfl rfl rfl rfl (g:=?_)|refine GoR.fieldV' rfl rfl rfl rfl rfl (g:=?_))|(refine GoR.kk 4 rfl ?_;first|refine GoR.eq rfl rfl rfl rfl rfl rfl ?_|refine GoR.ne rfl rfl rfl rfl rfl rfl ?_|refine GoR.lt rfl rfl rfl rfl rfl rfl ?_|refine GoR.le rfl rfl rfl rfl rfl rfl ?_|refine GoR.gt rfl rfl rfl rfl rfl rfl ?_|refine GoR.ge rfl rfl rfl rfl rfl rfl ?_|refine GoR.addN' rfl rfl rfl rfl rfl rfl (g:=?_)|refine GoR.subN' rfl rfl rfl rfl rfl rfl (g:=?_)|refine GoR.add' rfl rfl rfl rfl rfl rfl (g:=?_)|refine GoR.sub' rfl rfl rfl rfl rfl rfl (g:=?_)|refine GoR.addM' rfl rfl rfl rfl rfl rfl (g:=?_)|refine GoR.subM' rfl rfl rfl rfl rfl rfl (g:=?_)|refine GoR.mulM' rfl rfl rfl rfl rfl rfl (g:=?_)|refine GoR.shrN rfl rfl rfl rfl rfl rfl rfl ?_|refine GoR.structEq rfl rfl rfl rfl rfl rfl (by rfl) (by rfl) ?_|refine GoR.structNe rfl rfl rfl rfl rfl rfl (by rfl) (by rfl) ?_|refine GoR.strEq rfl rfl rfl rfl rfl rfl ?_|refine GoR.strNe rfl rfl rfl rfl rfl rfl ?_|refine GoR.remN' rfl rfl rfl rfl rfl rfl (g:=?_)|refine GoR.quoN' rfl rfl rfl rfl rfl rfl (g:=?_)|refine GoR.shlN' rfl rfl rfl rfl rfl rfl rfl (g:=?_)|refine GoR.orN' rfl rfl rfl rfl rfl rfl (g:=?_))|(refine GoR.kk 5 rfl ?_;first|refine GoR.len rfl rfl rfl rfl rfl ?_|refine GoR.lenStr rfl rfl rfl rfl rfl ?_|refine GoR.capB rfl rfl rfl rfl rfl ?_)|(refine GoR.kk 7 rfl ?_;first|refine GoR.pickE' rfl rfl rfl rfl rfl (hx:=rfl) (hy:=rfl) (g:=?_)|refine GoR.pickN' rfl rfl rfl rfl rfl (hx:=rfl) (hy:=rfl) (g:=?_)|refine GoR.pickB rfl rfl rfl rfl rfl rfl rfl ?_)|(refine GoR.kk 8 rfl ?_;first|refine GoR.boxA rfl rfl rfl rfl rfl ?_|refine GoR.boxS rfl rfl rfl rfl rfl rfl ?_|refine GoR.alloc rfl rfl rfl rfl ?_)|(refine GoR.kk 9 rfl ?_;first|refine GoR.strV' rfl rfl rfl rfl rfl (g:=?_)|refine GoR.conv_u8 rfl rfl rfl rfl rfl ?_|refine GoR.convW' rfl rfl rfl rfl rfl (g:=?_)|refine GoR.conv_u16 rfl rfl rfl rfl rfl ?_|refine GoR.conv_u32 rfl rfl rfl rfl rfl ?_)|(refine GoR.kk 10 rfl ?_;first|refine GoR.build' rfl rfl rfl rfl rfl rfl (g:=?_))|(refine GoR.kk 11 rfl ?_;first|refine GoR.extract rfl rfl rfl rfl rfl rfl ?_|refine GoR.not rfl rfl rfl rfl rfl ?_|refine GoR.nilCheck rfl rfl rfl rfl rfl ?_|refine GoR.nilCheckF rfl rfl rfl rfl rfl ?_|refine GoR.makeFunc rfl rfl rfl rfl rfl rfl ?_)|(refine Go.kk 0 rfl ?_;refine Go.seq ?_)|(refine Go.kk 1 rfl ?_;refine Go.region (by kernel_rfl) rfl ?_)|(refine Go.kk 2 rfl ?_;refine Go.drawnQ rfl (by kernel_rfl) rfl ?_)|(refine Go.kk 3 rfl ?_;first|refine Go.cond_t' rfl (g:=?_)|refine Go.cond_f' rfl (g:=?_))|(refine Go.kk 4 rfl ?_;refine Go.block ?_)|(refine Go.kk 5 rfl ?_;first|refine Go.skip ?_|refine Go.ret ?_|refine Go.exit ?_|refine Go.scope ?_)|refine Go.leave_normal ?_|refine Go.leave_same ?_|refine Go.leave_ret ?_|refine Go.ret_code ?_|refine Go.exit_code ?_|refine Go.leave_other rfl ?_|refine Go.sc_normal ?_|refine Go.sc_ret ?_|refine Go.sc_exit ?_|refine Go.exit_back ?_|refine Go.ret_back ?_))
  simp only [hkm, AHeap.n_push, AHeap.n_put]
  refine Go.name ?_
  intro h5 e5
  have T5 : RT h h5 (⟨k, f, 0, 0, 0, 0, 0, 0, 0, 0, ⟨none, 0, 0⟩, ⟨none, 0, 0⟩, ⟨none, 0, 0⟩, ⟨none, 0, 0⟩, ⟨none, 0, 0⟩⟩ : Ck) := by
    refine ⟨by subst e5; exact ((((Same.refl h).push _).push _).push _).put (by omega) _, by subst e5; exact Nat.le_refl _, ?_, ?_⟩
    all_goals
      subst e5
      (first | assumption | exact AHeap.get_push_same _ _ | ((repeat first | exact AHeap.get_push_same _ _ | assumption | refine get_push_lt ?_ | exact AHeap.get_put_same _ (by first | omega | (simp only [AHeap.n_push, AHeap.n_put]; omega)) _ | exact get_put_self (by assumption) | apply get_put_self | refine get_put_other (by first | omega | (simp only [AHeap.n_push, AHeap.n_put]; omega)) ?_ | refine Same.get (by assumption) ?_ | refine Keeps.get (by assumption) ?_ (fun hi => by have hx := Own.out (by assumption) hi; omega)) ; fail_if_success focus skip) | fail)
  have gT5 : h5.get h.n = some (.cells [.int .u16 k, .int .u8 f, .slice a zs.length cap] 25) := by subst e5; (first | assumption | exact AHeap.get_push_same _ _ | ((repeat first | exact AHeap.get_push_same _ _ | assumption | refine get_push_lt ?_ | exact AHeap.get_put_same _ (by first | omega | (simp only [AHeap.n_push, AHeap.n_put]; omega)) _ | exact get_put_self (by assumption) | apply get_put_self | refine get_put_other (by first | omega | (simp only [AHeap.n_push, AHeap.n_put]; omega)) ?_ | refine Same.get (by assumption) ?_ | refine Keeps.get (by assumption) ?_ (fun hi => by have hx := Own.out (by assumption) hi; omega)) ; fail_if_success focus skip) | fail)
  clear e5
  have gC5 := T5.chk
  unfold Ck.cs at gC5
  have m5 := T5.n
  have hz5 := hz.same T5.same
  (iterate 17 (first|refine GoR.end ?_|(refine GoR.gd rfl ?_;first|refine GoR.wanted' rfl rfl rfl rfl (g:=?_)|refine GoR.unwanted' rfl rfl rfl rfl (hd:=rfl) (hN:=rfl) (g:=?_)|refine GoR.unwantedU rfl rfl rfl rfl rfl rfl ?_)|(refine GoR.kk 0 rfl ?_;first|refine GoR.move rfl rfl rfl rfl rfl ?_|refine GoR.assign rfl rfl rfl rfl rfl ?_)|(refine GoR.kk 1 rfl ?_;first|refine GoR.load' rfl rfl rfl rfl rfl (g:=?_)|refine GoR.loadA' rfl rfl rfl rfl rfl (hv:=rfl) (g:=?_)|refine GoR.loadV' rfl rfl rfl rfl rfl (g:=?_)|refine GoR.loadVN' rfl rfl rfl rfl rfl (g:=?_))|(refine GoR.kk 2 rfl ?_;first|refine GoR.store' rfl rfl rfl rfl rfl (hl:=rfl) (h1:=rfl) (h3:=rfl) (g:=?_))|(refine GoR.kk 3 rfl ?_;first|refine GoR.fieldAddr rfl rfl rfl rfl rfl ?_|refine GoR.indexN' rfl rfl rfl rfl rfl rfl (g:=?_)|refine GoR.indexNs' rfl rfl rfl rfl rfl rfl (g:=?_)|refine GoR.indexV' rfl rfl rfl rfl rfl rfl (g:=?_)|refine GoR.indexA' rfl rfl rfl rfl rfl rfl (g:=?_)|refine GoR.fieldV' rfl rfl rfl rfl rfl (g:=?_))|(refine GoR.kk 4 rfl ?_;first|refine GoR.eq rfl rfl rfl rfl rfl rfl ?_|refine GoR.ne rfl rfl rfl rfl rfl rfl ?_|refine GoR.lt rfl rfl rfl rfl rfl rfl ?_|refine GoR.le rfl rfl rfl rfl rfl rfl ?_|refine GoR.gt rfl rfl rfl rfl rfl rfl ?_|refine GoR.ge rfl rfl rfl rfl rfl rfl ?_|refine GoR.addN' rfl rfl rfl rfl rfl rfl (g:=?_)|refine GoR.subN' rfl rfl rfl rfl rfl rfl (g:=?_)|refine GoR.add' rfl rfl rfl rfl rfl rfl (g:=?_)|refine GoR.sub' rfl rfl rfl rfl rfl rfl (g:=?_)|refine GoR.addM' rfl rfl rfl rfl rfl rfl (g:=?_)|refine GoR.subM' rfl rfl rfl rfl rfl rfl (g:=?_)|refine GoR.mulM' rfl rfl rfl rfl rfl rfl (g:=?_)|refine GoR.shrN rfl rfl rfl rfl rfl rfl rfl ?_|refine GoR.structEq rfl rfl rfl rfl rfl rfl (by rfl) (by rfl) ?_|refine GoR.structNe rfl rfl rfl rfl rfl rfl (by rfl) (by rfl) ?_|refine GoR.strEq rfl rfl rfl rfl rfl rfl ?_|refine GoR.strNe rfl rfl rfl rfl rfl rfl ?_|refine GoR.remN' rfl rfl rfl rfl rfl rfl (g:=?_)|refine GoR.quoN' rfl rfl rfl rfl rfl rfl (g:=?_)|refine GoR.shlN' rfl rfl rfl rfl rfl rfl rfl (g:=?_)|refine GoR.orN' rfl rfl rfl rfl rfl rfl (g:=?_))|(refine GoR.kk 5 rfl ?_;first|refine GoR.len rfl rfl rfl rfl rfl ?_|refine GoR.lenStr rfl rfl rfl rfl rfl ?_|refine GoR.capB rfl rfl rfl rfl rfl ?_)|(refine GoR.kk 7 rfl ?_;first|refine GoR.pickE' rfl rfl rfl rfl rfl (hx:=rfl) (hy:=rfl) (g:=?_)|refine GoR.pickN' rfl rfl rfl rfl rfl (hx:=rfl) (hy:=rfl) (g:=?_)|refine GoR.pickB rfl rfl rfl rfl rfl rfl rfl ?_)|(refine GoR.kk 8 rfl ?_;first|refine GoR.boxA rfl rfl rfl rfl rfl ?_|refine GoR.boxS rfl rfl rfl rfl rfl rfl ?_|refine GoR.alloc rfl rfl rfl rfl ?_)|(refine GoR.kk 9 rfl ?_;first|refine GoR.strV' rfl rfl rfl rfl rfl (g:=?_)|refine GoR.conv_u8 rfl rfl rfl rfl rfl ?_|refine GoR.convW' rfl rfl rfl rfl rfl (g:=?_)|refine GoR.conv_u16 rfl rfl rfl rfl rfl ?_|refine GoR.conv_u32 rfl rfl rfl rfl rfl ?_)|(refine GoR.kk 10 rfl ?_;first|refine GoR.build' rfl rfl rfl rfl rfl rfl (g:=?_))|(refine GoR.kk 11 rfl ?_;first|refine GoR.extract rfl rfl rfl rfl rfl rfl ?_|refine GoR.not rfl rfl rfl rfl rfl ?_|refine GoR.nilCheck rfl rfl rfl rfl rfl ?_|refine GoR.nilCheckF rfl rfl rfl rfl rfl ?_|refine GoR.makeFunc rfl rfl rfl rfl rfl rfl ?_)|(refine Go.kk 0 rfl ?_;refine Go.seq ?_)|(refine Go.kk 1 rfl ?_;refine Go.region (by kernel_rfl) rfl ?_)|(refine Go.kk 2 rfl ?_;refine Go.drawnQ rfl (by kernel_rfl) rfl ?_)|(refine Go.kk 3 rfl ?_;first|refine Go.cond_t' rfl (g:=?_)|refine Go.cond_f' rfl (g:=?_))|(refine Go.kk 4 rfl ?_;refine Go.block ?_)|(refine Go.kk 5 rfl ?_;first|refine Go.skip ?_|refine Go.ret ?_|refine Go.exit ?_|refine Go.scope ?_)|refine Go.leave_normal ?_|refine Go.leave_same ?_|refine Go.leave_ret ?_|refine Go.ret_code ?_|refine Go.exit_code ?_|refine Go.leave_other rfl ?_|refine Go.sc_normal ?_|refine Go.sc_ret ?_|refine Go.sc_exit ?_|refine Go.exit_back ?_|refine Go.ret_back ?_))
  refine Go.join1 (α := AHeap × Ck × CD × Bool) (fun x => [(2, .pointer (some ⟨h.n + 1, 0, none⟩)), (4, .pointer (some ⟨h.n + 2, 0, none⟩)), (6, .bool x.2.2.2)]) (fun _ => []) (fun x => x.1)
    (fun x => RT h x.1 x.2.1 ∧ (x.2.2.2 = true → COk x.1 x.2.1 x.2.2.1 ∧ CApart (h.n + 3) x.2.1 x.2.2.1) ∧ finR x.2.1 x.2.2.1 (!x.2.2.2) [] = (rawP k f zs).filter mayP) ?_ ?_
  · rcases (show k = 0 ∨ k = 1 ∨ k = 2 ∨ k = 3 ∨ k = 6 ∨ k = 9 ∨ k = 7 ∨ k = 8 ∨ k = 11 ∨ k = 14 ∨ (k ≠ 0 ∧ k ≠ 1 ∧ k ≠ 2 ∧ k ≠ 3 ∧ k ≠ 6 ∧ k ≠ 9 ∧ k ≠ 7 ∧ k ≠ 8 ∧ k ≠ 11 ∧ k ≠ 14) by omega) with hk0 | hk0 | hk0 | hk0 | hk0 | hk0 | hk0 | hk0 | hk0 | hk0 | ⟨k0, k1, k2, k3, k6, k9, k7, k8, k11, k14⟩
    · rcases Nat.lt_or_ge 12 zs.length with g | g
      · (refine Go.run (g:=?_))
        refine GoR.call rfl rfl rfl rfl rfl rfl rfl (((rn_spec a cap zs 0 4 (by decide) (by decide) hl _ (hz.same T5.same)).args (by first | rfl | (simp; fail_if_success focus skip) | (simp; omega) | (congr 2; omega))).mono ?_)
        rintro _ h6a rfl s6a
        have x6 := rn_lt4 zs 0
        have T6a := T5.to s6a
        have gC6a := T6a.chk
        unfold Ck.cs at gC6a
        try dsimp only at gC6a
        have m6a := T6a.n
        (refine Go.run (g:=?_))
        refine GoR.name ?_
        intro h6 e6
        have T6 := T6a.put_eq (⟨k, f, 0, 0, rn zs 0 4, 0, 0, 0, 0, 0, ⟨none, 0, 0⟩, ⟨none, 0, 0⟩, ⟨none, 0, 0⟩, ⟨none, 0, 0⟩, ⟨none, 0, 0⟩⟩ : Ck) e6
        clear e6
        have gC6 := T6.chk
        unfold Ck.cs at gC6
        try dsimp only at gC6
        have m6 := T6.n
        (refine Go.run (g:=?_))
        refine GoR.call rfl rfl rfl rfl rfl rfl rfl (((rn_spec a cap zs 4 2 (by decide) (by decide) hl _ (hz.same T6.same)).args (by first | rfl | (simp; fail_if_success focus skip) | (simp; omega) | (congr 2; omega))).mono ?_)
        rintro _ h7a rfl s7a
        have x7 := rn_lt2 zs 4
        have T7a := T6.to s7a
        have gC7a := T7a.chk
        unfold Ck.cs at gC7a
        try dsimp only at gC7a
        have m7a := T7a.n
        (refine Go.run (g:=?_))
        refine GoR.name ?_
        intro h7 e7
        have T7 := T7a.put_eq (⟨k, f, 0, 0, rn zs 0 4, 0, 0, rn zs 4 2, 0, 0, ⟨none, 0, 0⟩, ⟨none, 0, 0⟩, ⟨none, 0, 0⟩, ⟨none, 0, 0⟩, ⟨none, 0, 0⟩⟩ : Ck) e7
        clear e7
        have gC7 := T7.chk
        unfold Ck.cs at gC7
        try dsimp only at gC7
        have m7 := T7.n
        (refine Go.run (g:=?_))
        refine GoR.call rfl rfl rfl rfl rfl rfl rfl (((rn_spec a cap zs 6 2 (by decide) (by decide) hl _ (hz.same T7.same)).args (by first | rfl | (simp; fail_if_success focus skip) | (simp; omega) | (congr 2; omega))).mono ?_)
        rintro _ h8a rfl s8a
        have x8 := rn_lt2 zs 6
        have T8a := T7.to s8a
        have gC8a := T8a.chk
        unfold Ck.cs at gC8a
        try dsimp only at gC8a
        have m8a := T8a.n
        (refine Go.run (g:=?_))
        refine GoR.name ?_
        intro h8 e8
        have T8 := T8a.put_eq (⟨k, f, 0, 0, rn zs 0 4, 0, 0, rn zs 4 2, rn zs 6 2, 0, ⟨none, 0, 0⟩, ⟨none, 0, 0⟩, ⟨none, 0, 0⟩, ⟨none, 0, 0⟩, ⟨none, 0, 0⟩⟩ : Ck) e8
        clear e8
        have gC8 := T8.chk
        unfold Ck.cs at gC8
        try dsimp only at gC8
        have m8 := T8.n
        (refine Go.run (g:=?_))
        refine GoR.call rfl rfl rfl rfl rfl rfl rfl (((rn_spec a cap zs 8 4 (by decide) (by decide) hl _ (hz.same T8.same)).args (by first | rfl | (simp; fail_if_success focus skip) | (simp; omega) | (congr 2; omega))).mono ?_)
        rintro _ h9a rfl s9a
        have x9 := rn_lt4 zs 8
        have T9a := T8.to s9a
        have gC9a := T9a.chk
        unfold Ck.cs at gC9a
        try dsimp only at gC9a
        have m9a := T9a.n
        (refine Go.run (g:=?_))
        refine GoR.name ?_
        intro h9 e9
        have T9 := T9a.put_eq (⟨k, f, 0, 0, rn zs 0 4, 0, 0, rn zs 4 2, rn zs 6 2, rn zs 8 4, ⟨none, 0, 0⟩, ⟨none, 0, 0⟩, ⟨none, 0, 0⟩, ⟨none, 0, 0⟩, ⟨none, 0, 0⟩⟩ : Ck) e9
        clear e9
        have gC9 := T9.chk
        unfold Ck.cs at gC9
        try dsimp only at gC9
        have m9 := T9.n
        refine GoR.buildO (c := []) rfl rfl rfl rfl rfl (by decide) (by rfl) (by rfl) ?_
        intro bb hb vb ob sb nb
        have Tb := T9.to sb
        have mb := Tb.n
        (refine Go.run (g:=?_))
        refine GoR.bLo (l := 12) rfl rfl rfl rfl rfl rfl (hz.same Tb.same) (by omega) ?_
        intro as_ hzs hbs
        rw [List.take_of_length_le (by simp)] at hzs
        (refine Go.run (g:=?_))
        refine GoR.appendV rfl rfl rfl rfl rfl rfl vb hzs (fun j hj => .inr (by have := ob j hj; omega)) (by omega) (by omega) (List.all_eq_true.2 fun x hx => by obtain ⟨y, -, rfl⟩ := List.mem_map.1 hx; rfl) ?_
        intro bd cdd hd_ vd kd od
        rw [Nat.zero_add, List.nil_append] at vd
        have Td := Tb.app kd (ob.mono (by omega))
        have gCd := Td.chk
        unfold Ck.cs at gCd
        try dsimp only at gCd
        have md := Td.n
        have nd := kd.1
        have oD : Own (h.n + 3) bd := (ob.mono (n' := h.n + 3) (by omega)).app (by omega) od
        (refine Go.run (g:=?_))
        refine Go.name ?_
        intro he ee
        have Te := Td.put_eq (⟨k, f, 0, 0, rn zs 0 4, 0, 0, rn zs 4 2, rn zs 6 2, rn zs 8 4, ⟨bd, zs.length - 12, cdd⟩, ⟨none, 0, 0⟩, ⟨none, 0, 0⟩, ⟨none, 0, 0⟩, ⟨none, 0, 0⟩⟩ : Ck) ee
        have ve := vd.put_eq ee (fun hm => by have := oD _ hm; omega)
        clear ee
        have oke : COk he (⟨k, f, 0, 0, rn zs 0 4, 0, 0, rn zs 4 2, rn zs 6 2, rn zs 8 4, ⟨bd, zs.length - 12, cdd⟩, ⟨none, 0, 0⟩, ⟨none, 0, 0⟩, ⟨none, 0, 0⟩, ⟨none, 0, 0⟩⟩ : Ck) ⟨zs.drop 12, [], [], [], []⟩ := { COk.base he k f hk8 hf with tsn := x6, sid := x7, ssn := x8, ppid := x9, dl := by simp, dv := ve.rv }
        refine Go.joined (he, _, _, true) ⟨Te, fun _ => ⟨oke, ⟨oD, Own.nil _, Own.nil _, Own.nil _, Own.nil _, fun x hx => by cases hx⟩⟩, ?_⟩ ⟨rfl, rfl, by simp only; exact congrArg (fun t => some (Value.bool t)) (decide_eq_true (by omega)), trivial⟩ rfl rfl
        simp only [Bool.not_true]
        rw [finR_good oke]
        subst hk0
        simp only [rawP, if_pos (show 12 ≤ zs.length by omega), pcOf, PC.z, List.map_nil, rn_le (show 0 + 4 ≤ zs.length by omega), rn_le (show 4 + 2 ≤ zs.length by omega), rn_le (show 6 + 2 ≤ zs.length by omega), rn_le (show 8 + 4 ≤ zs.length by omega)]
      · (refine Go.run (g:=?_))
        refine GoR.call rfl rfl rfl rfl rfl rfl rfl (((rn_spec a cap zs 0 4 (by decide) (by decide) hl _ (hz.same T5.same)).args (by first | rfl | (simp; fail_if_success focus skip) | (simp; omega) | (congr 2; omega))).mono ?_)
        rintro _ h6a rfl s6a
        have x6 := rn_lt4 zs 0
        have T6a := T5.to s6a
        have gC6a := T6a.chk
        unfold Ck.cs at gC6a
        try dsimp only at gC6a
        have m6a := T6a.n
        (refine Go.run (g:=?_))
        refine GoR.name ?_
        intro h6 e6
        have T6 := T6a.put_eq (⟨k, f, 0, 0, rn zs 0 4, 0, 0, 0, 0, 0, ⟨none, 0, 0⟩, ⟨none, 0, 0⟩, ⟨none, 0, 0⟩, ⟨none, 0, 0⟩, ⟨none, 0, 0⟩⟩ : Ck) e6
        clear e6
        have gC6 := T6.chk
        unfold Ck.cs at gC6
        try dsimp only at gC6
        have m6 := T6.n
        (refine Go.run (g:=?_))
        refine GoR.call rfl rfl rfl rfl rfl rfl rfl (((rn_spec a cap zs 4 2 (by decide) (by decide) hl _ (hz.same T6.same)).args (by first | rfl | (simp; fail_if_success focus skip) | (simp; omega) | (congr 2; omega))).mono ?_)
        rintro _ h7a rfl s7a
        have x7 := rn_lt2 zs 4
        have T7a := T6.to s7a
        have gC7a := T7a.chk
        unfold Ck.cs at gC7a
        try dsimp only at gC7a
        have m7a := T7a.n
        (refine Go.run (g:=?_))
        refine GoR.name ?_
        intro h7 e7
        have T7 := T7a.put_eq (⟨k, f, 0, 0, rn zs 0 4, 0, 0, rn zs 4 2, 0, 0, ⟨none, 0, 0⟩, ⟨none, 0, 0⟩, ⟨none, 0, 0⟩, ⟨none, 0, 0⟩, ⟨none, 0, 0⟩⟩ : Ck) e7
        clear e7
        have gC7 := T7.chk
        unfold Ck.cs at gC7
        try dsimp only at gC7
        have m7 := T7.n
        (refine Go.run (g:=?_))
        refine GoR.call rfl rfl rfl rfl rfl rfl rfl (((rn_spec a cap zs 6 2 (by decide) (by decide) hl _ (hz.same T7.same)).args (by first | rfl | (simp; fail_if_success focus skip) | (simp; omega) | (congr 2; omega))).mono ?_)
        rintro _ h8a rfl s8a
        have x8 := rn_lt2 zs 6
        have T8a := T7.to s8a
        have gC8a := T8a.chk
        unfold Ck.cs at gC8a
        try dsimp only at gC8a
        have m8a := T8a.n
        (refine Go.run (g:=?_))
        refine GoR.name ?_
        intro h8 e8
        have T8 := T8a.put_eq (⟨k, f, 0, 0, rn zs 0 4, 0, 0, rn zs 4 2, rn zs 6 2, 0, ⟨none, 0, 0⟩, ⟨none, 0, 0⟩, ⟨none, 0, 0⟩, ⟨none, 0, 0⟩, ⟨none, 0, 0⟩⟩ : Ck) e8
        clear e8
        have gC8 := T8.chk
        unfold Ck.cs at gC8
        try dsimp only at gC8
        have m8 := T8.n
        (refine Go.run (g:=?_))
        refine GoR.call rfl rfl rfl rfl rfl rfl rfl (((rn_spec a cap zs 8 4 (by decide) (by decide) hl _ (hz.same T8.same)).args (by first | rfl | (simp; fail_if_success focus skip) | (simp; omega) | (congr 2; omega))).mono ?_)
        rintro _ h9a rfl s9a
        have x9 := rn_lt4 zs 8
        have T9a := T8.to s9a
        have gC9a := T9a.chk
        unfold Ck.cs at gC9a
        try dsimp only at gC9a
        have m9a := T9a.n
        (refine Go.run (g:=?_))
        refine Go.name ?_
        intro h9 e9
        have T9 := T9a.put_eq (⟨k, f, 0, 0, rn zs 0 4, 0, 0, rn zs 4 2, rn zs 6 2, rn zs 8 4, ⟨none, 0, 0⟩, ⟨none, 0, 0⟩, ⟨none, 0, 0⟩, ⟨none, 0, 0⟩, ⟨none, 0, 0⟩⟩ : Ck) e9
        clear e9
        have gC9 := T9.chk
        unfold Ck.cs at gC9
        try dsimp only at gC9
        have m9 := T9.n
        have oke : COk h9 (⟨k, f, 0, 0, rn zs 0 4, 0, 0, rn zs 4 2, rn zs 6 2, rn zs 8 4, ⟨none, 0, 0⟩, ⟨none, 0, 0⟩, ⟨none, 0, 0⟩, ⟨none, 0, 0⟩, ⟨none, 0, 0⟩⟩ : Ck) ⟨[], [], [], [], []⟩ := { COk.base h9 k f hk8 hf with tsn := x6, sid := x7, ssn := x8, ppid := x9 }
        refine Go.joined (h9, _, _, false) ⟨T9, fun _ => ⟨oke, ⟨Own.nil _, Own.nil _, Own.nil _, Own.nil _, Own.nil _, fun x hx => by cases hx⟩⟩, ?_⟩ ⟨rfl, rfl, by simp only; exact congrArg (fun t => some (Value.bool t)) (decide_eq_false (by omega)), trivial⟩ rfl rfl
        simp only [Bool.not_false]
        rw [finR_bad]
        subst hk0
        by_cases g12 : 12 ≤ zs.length
        · simp only [rawP, if_pos g12]
          refine (Option.filter_eq_none_iff.2 fun p hp hm => ?_).symm
          cases hp
          rw [show mayP _ = false from may_D rfl (by simp [ckOf]; omega)] at hm
          cases hm
        · simp [rawP, g12]
    · have hkk : k = 1 ∨ k = 2 := by omega
      have hraw : rawP k f zs = if 16 ≤ zs.length then (pgo k (parse false (zs.drop 16)).2 (parse false (zs.drop 16)).1 [] [] 0).map fun x => { PC.z k f with tag := nAt zs 0 4, rwnd := nAt zs 4 4, out := nAt zs 8 2, inn := nAt zs 10 2, tsn := nAt zs 12 4, addrs := x.1, data := x.2 } else none := by
        rcases hkk with rfl | rfl <;> rfl
      rcases Nat.lt_or_ge zs.length 16 with g | g
      · (refine Go.run (g:=?_))
        refine GoR.call rfl rfl rfl rfl rfl rfl rfl (((rn_spec a cap zs 0 4 (by decide) (by decide) hl _ (hz.same T5.same)).args (by first | rfl | (simp; fail_if_success focus skip) | (simp; omega) | (congr 2; omega))).mono ?_)
        rintro _ h6a rfl s6a
        have x6 := rn_lt4 zs 0
        have T6a := T5.to s6a
        have gC6a := T6a.chk
        unfold Ck.cs at gC6a
        try dsimp only at gC6a
        have m6a := T6a.n
        (refine Go.run (g:=?_))
        refine GoR.name ?_
        intro h6 e6
        have T6 := T6a.put_eq (⟨k, f, rn zs 0 4, 0, 0, 0, 0, 0, 0, 0, ⟨none, 0, 0⟩, ⟨none, 0, 0⟩, ⟨none, 0, 0⟩, ⟨none, 0, 0⟩, ⟨none, 0, 0⟩⟩ : Ck) e6
        clear e6
        have gC6 := T6.chk
        unfold Ck.cs at gC6
        try dsimp only at gC6
        have m6 := T6.n
        (refine Go.run (g:=?_))
        refine GoR.call rfl rfl rfl rfl rfl rfl rfl (((rn_spec a cap zs 4 4 (by decide) (by decide) hl _ (hz.same T6.same)).args (by first | rfl | (simp; fail_if_success focus skip) | (simp; omega) | (congr 2; omega))).mono ?_)
        rintro _ h7a rfl s7a
        have x7 := rn_lt4 zs 4
        have T7a := T6.to s7a
        have gC7a := T7a.chk
        unfold Ck.cs at gC7a
        try dsimp only at gC7a
        have m7a := T7a.n
        (refine Go.run (g:=?_))
        refine GoR.name ?_
        intro h7 e7
        have T7 := T7a.put_eq (⟨k, f, rn zs 0 4, rn zs 4 4, 0, 0, 0, 0, 0, 0, ⟨none, 0, 0⟩, ⟨none, 0, 0⟩, ⟨none, 0, 0⟩, ⟨none, 0, 0⟩, ⟨none, 0, 0⟩⟩ : Ck) e7
        clear e7
        have gC7 := T7.chk
        unfold Ck.cs at gC7
        try dsimp only at gC7
        have m7 := T7.n
        (refine Go.run (g:=?_))
        refine GoR.call rfl rfl rfl rfl rfl rfl rfl (((rn_spec a cap zs 8 2 (by decide) (by decide) hl _ (hz.same T7.same)).args (by first | rfl | (simp; fail_if_success focus skip) | (simp; omega) | (congr 2; omega))).mono ?_)
        rintro _ h8a rfl s8a
        have x8 := rn_lt2 zs 8
        have T8a := T7.to s8a
        have gC8a := T8a.chk
        unfold Ck.cs at gC8a
        try dsimp only at gC8a
        have m8a := T8a.n
        (refine Go.run (g:=?_))
        refine GoR.name ?_
        intro h8 e8
        have T8 := T8a.put_eq (⟨k, f, rn zs 0 4, rn zs 4 4, 0, rn zs 8 2, 0, 0, 0, 0, ⟨none, 0, 0⟩, ⟨none, 0, 0⟩, ⟨none, 0, 0⟩, ⟨none, 0, 0⟩, ⟨none, 0, 0⟩⟩ : Ck) e8
        clear e8
        have gC8 := T8.chk
        unfold Ck.cs at gC8
        try dsimp only at gC8
        have m8 := T8.n
        (refine Go.run (g:=?_))
        refine GoR.call rfl rfl rfl rfl rfl rfl rfl (((rn_spec a cap zs 10 2 (by decide) (by decide) hl _ (hz.same T8.same)).args (by first | rfl | (simp; fail_if_success focus skip) | (simp; omega) | (congr 2; omega))).mono ?_)
        rintro _ h9a rfl s9a
        have x9 := rn_lt2 zs 10
        have T9a := T8.to s9a
        have gC9a := T9a.chk
        unfold Ck.cs at gC9a
        try dsimp only at gC9a
        have m9a := T9a.n
        (refine Go.run (g:=?_))
        refine GoR.name ?_
        intro h9 e9
        have T9 := T9a.put_eq (⟨k, f, rn zs 0 4, rn zs 4 4, 0, rn zs 8 2, rn zs 10 2, 0, 0, 0, ⟨none, 0, 0⟩, ⟨none, 0, 0⟩, ⟨none, 0, 0⟩, ⟨none, 0, 0⟩, ⟨none, 0, 0⟩⟩ : Ck) e9
        clear e9
        have gC9 := T9.chk
        unfold Ck.cs at gC9
        try dsimp only at gC9
        have m9 := T9.n
        (refine Go.run (g:=?_))
        refine GoR.call rfl rfl rfl rfl rfl rfl rfl (((rn_spec a cap zs 12 4 (by decide) (by decide) hl _ (hz.same T9.same)).args (by first | rfl | (simp; fail_if_success focus skip) | (simp; omega) | (congr 2; omega))).mono ?_)
        rintro _ h10a rfl s10a
        have x10 := rn_lt4 zs 12
        have T10a := T9.to s10a
        have gC10a := T10a.chk
        unfold Ck.cs at gC10a
        try dsimp only at gC10a
        have m10a := T10a.n
        (refine Go.run (g:=?_))
        refine Go.name ?_
        intro h10 e10
        have T10 := T10a.put_eq (⟨k, f, rn zs 0 4, rn zs 4 4, rn zs 12 4, rn zs 8 2, rn zs 10 2, 0, 0, 0, ⟨none, 0, 0⟩, ⟨none, 0, 0⟩, ⟨none, 0, 0⟩, ⟨none, 0, 0⟩, ⟨none, 0, 0⟩⟩ : Ck) e10
        clear e10
        have gC10 := T10.chk
        unfold Ck.cs at gC10
        try dsimp only at gC10
        have m10 := T10.n
        refine Go.joined (h10, _, ⟨[], [], [], [], []⟩, false) ⟨T10, (fun e => by cases e), ?_⟩ ⟨rfl, rfl, by simp only; exact congrArg (fun t => some (Value.bool t)) (decide_eq_false (by omega)), trivial⟩ rfl rfl
        simp only [Bool.not_false]
        rw [finR_bad, hraw, if_neg (by omega)]
        rfl
      · (refine Go.run (g:=?_))
        refine GoR.call rfl rfl rfl rfl rfl rfl rfl (((rn_spec a cap zs 0 4 (by decide) (by decide) hl _ (hz.same T5.same)).args (by first | rfl | (simp; fail_if_success focus skip) | (simp; omega) | (congr 2; omega))).mono ?_)
        rintro _ h6a rfl s6a
        have x6 := rn_lt4 zs 0
        have T6a := T5.to s6a
        have gC6a := T6a.chk
        unfold Ck.cs at gC6a
        try dsimp only at gC6a
        have m6a := T6a.n
        (refine Go.run (g:=?_))
        refine GoR.name ?_
        intro h6 e6
        have T6 := T6a.put_eq (⟨k, f, rn zs 0 4, 0, 0, 0, 0, 0, 0, 0, ⟨none, 0, 0⟩, ⟨none, 0, 0⟩, ⟨none, 0, 0⟩, ⟨none, 0, 0⟩, ⟨none, 0, 0⟩⟩ : Ck) e6
        clear e6
        have gC6 := T6.chk
        unfold Ck.cs at gC6
        try dsimp only at gC6
        have m6 := T6.n
        (refine Go.run (g:=?_))
        refine GoR.call rfl rfl rfl rfl rfl rfl rfl (((rn_spec a cap zs 4 4 (by decide) (by decide) hl _ (hz.same T6.same)).args (by first | rfl | (simp; fail_if_success focus skip) | (simp; omega) | (congr 2; omega))).mono ?_)
        rintro _ h7a rfl s7a
        have x7 := rn_lt4 zs 4
        have T7a := T6.to s7a
        have gC7a := T7a.chk
        unfold Ck.cs at gC7a
        try dsimp only at gC7a
        have m7a := T7a.n
        (refine Go.run (g:=?_))
        refine GoR.name ?_
        intro h7 e7
        have T7 := T7a.put_eq (⟨k, f, rn zs 0 4, rn zs 4 4, 0, 0, 0, 0, 0, 0, ⟨none, 0, 0⟩, ⟨none, 0, 0⟩, ⟨none, 0, 0⟩, ⟨none, 0, 0⟩, ⟨none, 0, 0⟩⟩ : Ck) e7
        clear e7
        have gC7 := T7.chk
        unfold Ck.cs at gC7
        try dsimp only at gC7
        have m7 := T7.n
        (refine Go.run (g:=?_))
        refine GoR.call rfl rfl rfl rfl rfl rfl rfl (((rn_spec a cap zs 8 2 (by decide) (by decide) hl _ (hz.same T7.same)).args (by first | rfl | (simp; fail_if_success focus skip) | (simp; omega) | (congr 2; omega))).mono ?_)
        rintro _ h8a rfl s8a
        have x8 := rn_lt2 zs 8
        have T8a := T7.to s8a
        have gC8a := T8a.chk
        unfold Ck.cs at gC8a
        try dsimp only at gC8a
        have m8a := T8a.n
        (refine Go.run (g:=?_))
        refine GoR.name ?_
        intro h8 e8
        have T8 := T8a.put_eq (⟨k, f, rn zs 0 4, rn zs 4 4, 0, rn zs 8 2, 0, 0, 0, 0, ⟨none, 0, 0⟩, ⟨none, 0, 0⟩, ⟨none, 0, 0⟩, ⟨none, 0, 0⟩, ⟨none, 0, 0⟩⟩ : Ck) e8
        clear e8
        have gC8 := T8.chk
        unfold Ck.cs at gC8
        try dsimp only at gC8
        have m8 := T8.n
        (refine Go.run (g:=?_))
        refine GoR.call rfl rfl rfl rfl rfl rfl rfl (((rn_spec a cap zs 10 2 (by decide) (by decide) hl _ (hz.same T8.same)).args (by first | rfl | (simp; fail_if_success focus skip) | (simp; omega) | (congr 2; omega))).mono ?_)
        rintro _ h9a rfl s9a
        have x9 := rn_lt2 zs 10
        have T9a := T8.to s9a
        have gC9a := T9a.chk
        unfold Ck.cs at gC9a
        try dsimp only at gC9a
        have m9a := T9a.n
        (refine Go.run (g:=?_))
        refine GoR.name ?_
        intro h9 e9
        have T9 := T9a.put_eq (⟨k, f, rn zs 0 4, rn zs 4 4, 0, rn zs 8 2, rn zs 10 2, 0, 0, 0, ⟨none, 0, 0⟩, ⟨none, 0, 0⟩, ⟨none, 0, 0⟩, ⟨none, 0, 0⟩, ⟨none, 0, 0⟩⟩ : Ck) e9
        clear e9
        have gC9 := T9.chk
        unfold Ck.cs at gC9
        try dsimp only at gC9
        have m9 := T9.n
        (refine Go.run (g:=?_))
        refine GoR.call rfl rfl rfl rfl rfl rfl rfl (((rn_spec a cap zs 12 4 (by decide) (by decide) hl _ (hz.same T9.same)).args (by first | rfl | (simp; fail_if_success focus skip) | (simp; omega) | (congr 2; omega))).mono ?_)
        rintro _ h10a rfl s10a
        have x10 := rn_lt4 zs 12
        have T10a := T9.to s10a
        have gC10a := T10a.chk
        unfold Ck.cs at gC10a
        try dsimp only at gC10a
        have m10a := T10a.n
        (refine Go.run (g:=?_))
        refine Go.name ?_
        intro h10 e10
        have T10 := T10a.put_eq (⟨k, f, rn zs 0 4, rn zs 4 4, rn zs 12 4, rn zs 8 2, rn zs 10 2, 0, 0, 0, ⟨none, 0, 0⟩, ⟨none, 0, 0⟩, ⟨none, 0, 0⟩, ⟨none, 0, 0⟩, ⟨none, 0, 0⟩⟩ : Ck) e10
        clear e10
        have gC10 := T10.chk
        unfold Ck.cs at gC10
        try dsimp only at gC10
        have m10 := T10.n
        refine Go.loud (by kernel_rfl) rfl ?_
        (refine Go.runL (g:=?_))
        refine GoL.bLo (l := 16) rfl rfl rfl rfl rfl rfl (hz.same T10.same) (by omega) ?_
        intro as_ hzs hbs
        rw [List.take_of_length_le (by simp)] at hzs
        (refine Go.runL (g:=?_))
        refine GoL.callS rfl rfl rfl rfl rfl rfl rfl (((rpar_spec (⟨k, f, rn zs 0 4, rn zs 4 4, rn zs 12 4, rn zs 8 2, rn zs 10 2, 0, 0, 0, ⟨none, 0, 0⟩, ⟨none, 0, 0⟩, ⟨none, 0, 0⟩, ⟨none, 0, 0⟩, ⟨none, 0, 0⟩⟩ : Ck) rfl rfl as_ (cap - 16) (zs.drop 16) (by rw [List.length_drop]; omega) _ (by rw [List.length_drop]; exact hzs)).args (by first | rfl | (simp; fail_if_success focus skip) | (simp; omega) | (congr 2; omega))).mono ?_)
        rintro v11 h11 hpar s11
        have T11 := T10.to s11
        have gC11 := T11.chk
        unfold Ck.cs at gC11
        try dsimp only at gC11
        have m11 := T11.n
        simp only at hpar
        cases hgo : pgo k (parse false (zs.drop 16)).2 (parse false (zs.drop 16)).1 [] [] 0 with
        | none =>
          rw [hgo] at hpar
          obtain ⟨x, rfl⟩ := hpar
          (refine Go.runL (g:=?_))
          refine GoL.store' rfl rfl rfl rfl rfl (hl:=rfl) (h1:=rfl) (h3:=rfl) (g:=?_)
          (refine Go.runL (g:=?_))
          refine GoL.end_ (hl := by (try simp only [List.nil_append, List.cons_append]); repeat (first | exact loudP.nil | refine loudP.none ?_ | refine loudP.new (fun _ hb => absurd hb List.not_mem_nil) ?_ | refine loudP.row (by repeat (first | exact loudRowP.nil | refine loudRowP.none ?_ | refine loudRowP.bef (by decide +kernel) ?_)) ?_)) ?_
          (refine Go.run (g:=?_))
          refine Go.name ?_
          intro h12 e12
          have T12 := T11.put_eq x e12
          refine Go.joined (h12, x, ⟨[], [], [], [], []⟩, false) ⟨T12, (fun e => by cases e), ?_⟩ ⟨rfl, rfl, rfl, trivial⟩ rfl rfl
          simp only [Bool.not_false]
          rw [finR_bad, hraw, if_pos g, hgo]
          rfl
        | some AD =>
          rw [hgo] at hpar
          obtain ⟨pA, pD⟩ := AD
          obtain ⟨sD, sA, rfl, vA, lA, aA, lD, vD, oA, oD⟩ := hpar
          (refine Go.runL (g:=?_))
          refine GoL.store' rfl rfl rfl rfl rfl (hl:=rfl) (h1:=rfl) (h3:=rfl) (g:=?_)
          (refine Go.runL (g:=?_))
          refine GoL.end_ (hl := by (try simp only [List.nil_append, List.cons_append]); repeat (first | exact loudP.nil | refine loudP.none ?_ | refine loudP.new (fun _ hb => absurd hb List.not_mem_nil) ?_ | refine loudP.row (by repeat (first | exact loudRowP.nil | refine loudRowP.none ?_ | refine loudRowP.bef (by decide +kernel) ?_)) ?_)) ?_
          (refine Go.run (g:=?_))
          refine Go.name ?_
          intro h12 e12
          have T12 := T11.put_eq (⟨k, f, rn zs 0 4, rn zs 4 4, rn zs 12 4, rn zs 8 2, rn zs 10 2, 0, 0, 0, sD, sA, ⟨none, 0, 0⟩, ⟨none, 0, 0⟩, ⟨none, 0, 0⟩⟩ : Ck) e12
          have vA12 := vA.put_eq e12 (fun hm => by have := oA _ hm; omega)
          have vD12 : Rv Try.prog h12 1 sD.a sD.n sD.cap (pD.map bv) := by subst e12; exact vD.put (fun hm => by have := oD _ hm; omega) _
          have ok12 : COk h12 (⟨k, f, rn zs 0 4, rn zs 4 4, rn zs 12 4, rn zs 8 2, rn zs 10 2, 0, 0, 0, sD, sA, ⟨none, 0, 0⟩, ⟨none, 0, 0⟩, ⟨none, 0, 0⟩⟩ : Ck) ⟨pD, pA, [], [], []⟩ := { COk.base h12 k f hk8 hf with tag := x6, rwnd := x7, out := x8, inn := x9, tsn := x10, dl := lD, dv := vD12, al := lA, av := vA12.rv, ab := aA }
          refine Go.joined (h12, _, _, true) ⟨T12, fun _ => ⟨ok12, oD.mono (by omega), oA.mono (by omega), Own.nil _, Own.nil _, Own.nil _, fun x hx => by cases hx⟩, ?_⟩ ⟨rfl, rfl, rfl, trivial⟩ rfl rfl
          simp only [Bool.not_true]
          rw [finR_good ok12, hraw, if_pos g, hgo]
          simp only [Option.map_some, pcOf, PC.z, List.map_nil, rn_le (show 0 + 4 ≤ zs.length by omega), rn_le (show 4 + 4 ≤ zs.length by omega), rn_le (show 8 + 2 ≤ zs.length by omega), rn_le (show 10 + 2 ≤ zs.length by omega), rn_le (show 12 + 4 ≤ zs.length by omega)]
    · have hkk : k = 1 ∨ k = 2 := by omega
      have hraw : rawP k f zs = if 16 ≤ zs.length then (pgo k (parse false (zs.drop 16)).2 (parse false (zs.drop 16)).1 [] [] 0).map fun x => { PC.z k f with tag := nAt zs 0 4, rwnd := nAt zs 4 4, out := nAt zs 8 2, inn := nAt zs 10 2, tsn := nAt zs 12 4, addrs := x.1, data := x.2 } else none := by
        rcases hkk with rfl | rfl <;> rfl
      rcases Nat.lt_or_ge zs.length 16 with g | g
      · (refine Go.run (g:=?_))
        refine GoR.call rfl rfl rfl rfl rfl rfl rfl (((rn_spec a cap zs 0 4 (by decide) (by decide) hl _ (hz.same T5.same)).args (by first | rfl | (simp; fail_if_success focus skip) | (simp; omega) | (congr 2; omega))).mono ?_)
        rintro _ h6a rfl s6a
        have x6 := rn_lt4 zs 0
        have T6a := T5.to s6a
        have gC6a := T6a.chk
        unfold Ck.cs at gC6a
        try dsimp only at gC6a
        have m6a := T6a.n
        (refine Go.run (g:=?_))
        refine GoR.name ?_
        intro h6 e6
        have T6 := T6a.put_eq (⟨k, f, rn zs 0 4, 0, 0, 0, 0, 0, 0, 0, ⟨none, 0, 0⟩, ⟨none, 0, 0⟩, ⟨none, 0, 0⟩, ⟨none, 0, 0⟩, ⟨none, 0, 0⟩⟩ : Ck) e6
        clear e6
        have gC6 := T6.chk
        unfold Ck.cs at gC6
        try dsimp only at gC6
        have m6 := T6.n
        (refine Go.run (g:=?_))
        refine GoR.call rfl rfl rfl rfl rfl rfl rfl (((rn_spec a cap zs 4 4 (by decide) (by decide) hl _ (hz.same T6.same)).args (by first | rfl | (simp; fail_if_success focus skip) | (simp; omega) | (congr 2; omega))).mono ?_)
        rintro _ h7a rfl s7a
        have x7 := rn_lt4 zs 4
        have T7a := T6.to s7a
        have gC7a := T7a.chk
        unfold Ck.cs at gC7a
        try dsimp only at gC7a
        have m7a := T7a.n
        (refine Go.run (g:=?_))
        refine GoR.name ?_
        intro h7 e7
        have T7 := T7a.put_eq (⟨k, f, rn zs 0 4, rn zs 4 4, 0, 0, 0, 0, 0, 0, ⟨none, 0, 0⟩, ⟨none, 0, 0⟩, ⟨none, 0, 0⟩, ⟨none, 0, 0⟩, ⟨none, 0, 0⟩⟩ : Ck) e7
        clear e7
        have gC7 := T7.chk
        unfold Ck.cs at gC7
        try dsimp only at gC7
        have m7 := T7.n
        (refine Go.run (g:=?_))
        refine GoR.call rfl rfl rfl rfl rfl rfl rfl (((rn_spec a cap zs 8 2 (by decide) (by decide) hl _ (hz.same T7.same)).args (by first | rfl | (simp; fail_if_success focus skip) | (simp; omega) | (congr 2; omega))).mono ?_)
        rintro _ h8a rfl s8a
        have x8 := rn_lt2 zs 8
        have T8a := T7.to s8a
        have gC8a := T8a.chk
        unfold Ck.cs at gC8a
        try dsimp only at gC8a
        have m8a := T8a.n
        (refine Go.run (g:=?_))
        refine GoR.name ?_
        intro h8 e8
        have T8 := T8a.put_eq (⟨k, f, rn zs 0 4, rn zs 4 4, 0, rn zs 8 2, 0, 0, 0, 0, ⟨none, 0, 0⟩, ⟨none, 0, 0⟩, ⟨none, 0, 0⟩, ⟨none, 0, 0⟩, ⟨none, 0, 0⟩⟩ : Ck) e8
        clear e8
        have gC8 := T8.chk
        unfold Ck.cs at gC8
        try dsimp only at gC8
        have m8 := T8.n
        (refine Go.run (g:=?_))
        refine GoR.call rfl rfl rfl rfl rfl rfl rfl (((rn_spec a cap zs 10 2 (by decide) (by decide) hl _ (hz.same T8.same)).args (by first | rfl | (simp; fail_if_success focus skip) | (simp; omega) | (congr 2; omega))).mono ?_)
        rintro _ h9a rfl s9a
        have x9 := rn_lt2 zs 10
        have T9a := T8.to s9a
        have gC9a := T9a.chk
        unfold Ck.cs at gC9a
        try dsimp only at gC9a
        have m9a := T9a.n
        (refine Go.run (g:=?_))
        refine GoR.name ?_
        intro h9 e9
        have T9 := T9a.put_eq (⟨k, f, rn zs 0 4, rn zs 4 4, 0, rn zs 8 2, rn zs 10 2, 0, 0, 0, ⟨none, 0, 0⟩, ⟨none, 0, 0⟩, ⟨none, 0, 0⟩, ⟨none, 0, 0⟩, ⟨none, 0, 0⟩⟩ : Ck) e9
        clear e9
        have gC9 := T9.chk
        unfold Ck.cs at gC9
        try dsimp only at gC9
        have m9 := T9.n
        (refine Go.run (g:=?_))
        refine GoR.call rfl rfl rfl rfl rfl rfl rfl (((rn_spec a cap zs 12 4 (by decide) (by decide) hl _ (hz.same T9.same)).args (by first | rfl | (simp; fail_if_success focus skip) | (simp; omega) | (congr 2; omega))).mono ?_)
        rintro _ h10a rfl s10a
        have x10 := rn_lt4 zs 12
        have T10a := T9.to s10a
        have gC10a := T10a.chk
        unfold Ck.cs at gC10a
        try dsimp only at gC10a
        have m10a := T10a.n
        (refine Go.run (g:=?_))
        refine Go.name ?_
        intro h10 e10
        have T10 := T10a.put_eq (⟨k, f, rn zs 0 4, rn zs 4 4, rn zs 12 4, rn zs 8 2, rn zs 10 2, 0, 0, 0, ⟨none, 0, 0⟩, ⟨none, 0, 0⟩, ⟨none, 0, 0⟩, ⟨none, 0, 0⟩, ⟨none, 0, 0⟩⟩ : Ck) e10
        clear e10
        have gC10 := T10.chk
        unfold Ck.cs at gC10
        try dsimp only at gC10
        have m10 := T10.n
        refine Go.joined (h10, _, ⟨[], [], [], [], []⟩, false) ⟨T10, (fun e => by cases e), ?_⟩ ⟨rfl, rfl, by simp only; exact congrArg (fun t => some (Value.bool t)) (decide_eq_false (by omega)), trivial⟩ rfl rfl
        simp only [Bool.not_false]
        rw [finR_bad, hraw, if_neg (by omega)]
        rfl
      · (refine Go.run (g:=?_))
        refine GoR.call rfl rfl rfl rfl rfl rfl rfl (((rn_spec a cap zs 0 4 (by decide) (by decide) hl _ (hz.same T5.same)).args (by first | rfl | (simp; fail_if_success focus skip) | (simp; omega) | (congr 2; omega))).mono ?_)
        rintro _ h6a rfl s6a
        have x6 := rn_lt4 zs 0
        have T6a := T5.to s6a
        have gC6a := T6a.chk
        unfold Ck.cs at gC6a
        try dsimp only at gC6a
        have m6a := T6a.n
        (refine Go.run (g:=?_))
        refine GoR.name ?_
        intro h6 e6
        have T6 := T6a.put_eq (⟨k, f, rn zs 0 4, 0, 0, 0, 0, 0, 0, 0, ⟨none, 0, 0⟩, ⟨none, 0, 0⟩, ⟨none, 0, 0⟩, ⟨none, 0, 0⟩, ⟨none, 0, 0⟩⟩ : Ck) e6
        clear e6
        have gC6 := T6.chk
        unfold Ck.cs at gC6
        try dsimp only at gC6
        have m6 := T6.n
        (refine Go.run (g:=?_))
        refine GoR.call rfl rfl rfl rfl rfl rfl rfl (((rn_spec a cap zs 4 4 (by decide) (by decide) hl _ (hz.same T6.same)).args (by first | rfl | (simp; fail_if_success focus skip) | (simp; omega) | (congr 2; omega))).mono ?_)
        rintro _ h7a rfl s7a
        have x7 := rn_lt4 zs 4
        have T7a := T6.to s7a
        have gC7a := T7a.chk
        unfold Ck.cs at gC7a
        try dsimp only at gC7a
        have m7a := T7a.n
        (refine Go.run (g:=?_))
        refine GoR.name ?_
        intro h7 e7
        have T7 := T7a.put_eq (⟨k, f, rn zs 0 4, rn zs 4 4, 0, 0, 0, 0, 0, 0, ⟨none, 0, 0⟩, ⟨none, 0, 0⟩, ⟨none, 0, 0⟩, ⟨none, 0, 0⟩, ⟨none, 0, 0⟩⟩ : Ck) e7
        clear e7
        have gC7 := T7.chk
        unfold Ck.cs at gC7
        try dsimp only at gC7
        have m7 := T7.n
        (refine Go.run (g:=?_))
        refine GoR.call rfl rfl rfl rfl rfl rfl rfl (((rn_spec a cap zs 8 2 (by decide) (by decide) hl _ (hz.same T7.same)).args (by first | rfl | (simp; fail_if_success focus skip) | (simp; omega) | (congr 2; omega))).mono ?_)
        rintro _ h8a rfl s8a
        have x8 := rn_lt2 zs 8
        have T8a := T7.to s8a
        have gC8a := T8a.chk
        unfold Ck.cs at gC8a
        try dsimp only at gC8a
        have m8a := T8a.n
        (refine Go.run (g:=?_))
        refine GoR.name ?_
        intro h8 e8
        have T8 := T8a.put_eq (⟨k, f, rn zs 0 4, rn zs 4 4, 0, rn zs 8 2, 0, 0, 0, 0, ⟨none, 0, 0⟩, ⟨none, 0, 0⟩, ⟨none, 0, 0⟩, ⟨none, 0, 0⟩, ⟨none, 0, 0⟩⟩ : Ck) e8
        clear e8
        have gC8 := T8.chk
        unfold Ck.cs at gC8
        try dsimp only at gC8
        have m8 := T8.n
        (refine Go.run (g:=?_))
        refine GoR.call rfl rfl rfl rfl rfl rfl rfl (((rn_spec a cap zs 10 2 (by decide) (by decide) hl _ (hz.same T8.same)).args (by first | rfl | (simp; fail_if_success focus skip) | (simp; omega) | (congr 2; omega))).mono ?_)
        rintro _ h9a rfl s9a
        have x9 := rn_lt2 zs 10
        have T9a := T8.to s9a
        have gC9a := T9a.chk
        unfold Ck.cs at gC9a
        try dsimp only at gC9a
        have m9a := T9a.n
        (refine Go.run (g:=?_))
        refine GoR.name ?_
        intro h9 e9
        have T9 := T9a.put_eq (⟨k, f, rn zs 0 4, rn zs 4 4, 0, rn zs 8 2, rn zs 10 2, 0, 0, 0, ⟨none, 0, 0⟩, ⟨none, 0, 0⟩, ⟨none, 0, 0⟩, ⟨none, 0, 0⟩, ⟨none, 0, 0⟩⟩ : Ck) e9
        clear e9
        have gC9 := T9.chk
        unfold Ck.cs at gC9
        try dsimp only at gC9
        have m9 := T9.n
        (refine Go.run (g:=?_))
        refine GoR.call rfl rfl rfl rfl rfl rfl rfl (((rn_spec a cap zs 12 4 (by decide) (by decide) hl _ (hz.same T9.same)).args (by first | rfl | (simp; fail_if_success focus skip) | (simp; omega) | (congr 2; omega))).mono ?_)
        rintro _ h10a rfl s10a
        have x10 := rn_lt4 zs 12
        have T10a := T9.to s10a
        have gC10a := T10a.chk
        unfold Ck.cs at gC10a
        try dsimp only at gC10a
        have m10a := T10a.n
        (refine Go.run (g:=?_))
        refine Go.name ?_
        intro h10 e10
        have T10 := T10a.put_eq (⟨k, f, rn zs 0 4, rn zs 4 4, rn zs 12 4, rn zs 8 2, rn zs 10 2, 0, 0, 0, ⟨none, 0, 0⟩, ⟨none, 0, 0⟩, ⟨none, 0, 0⟩, ⟨none, 0, 0⟩, ⟨none, 0, 0⟩⟩ : Ck) e10
        clear e10
        have gC10 := T10.chk
        unfold Ck.cs at gC10
        try dsimp only at gC10
        have m10 := T10.n
        refine Go.loud (by kernel_rfl) rfl ?_
        (refine Go.runL (g:=?_))
        refine GoL.bLo (l := 16) rfl rfl rfl rfl rfl rfl (hz.same T10.same) (by omega) ?_
        intro as_ hzs hbs
        rw [List.take_of_length_le (by simp)] at hzs
        (refine Go.runL (g:=?_))
        refine GoL.callS rfl rfl rfl rfl rfl rfl rfl (((rpar_spec (⟨k, f, rn zs 0 4, rn zs 4 4, rn zs 12 4, rn zs 8 2, rn zs 10 2, 0, 0, 0, ⟨none, 0, 0⟩, ⟨none, 0, 0⟩, ⟨none, 0, 0⟩, ⟨none, 0, 0⟩, ⟨none, 0, 0⟩⟩ : Ck) rfl rfl as_ (cap - 16) (zs.drop 16) (by rw [List.length_drop]; omega) _ (by rw [List.length_drop]; exact hzs)).args (by first | rfl | (simp; fail_if_success focus skip) | (simp; omega) | (congr 2; omega))).mono ?_)
        rintro v11 h11 hpar s11
        have T11 := T10.to s11
        have gC11 := T11.chk
        unfold Ck.cs at gC11
        try dsimp only at gC11
        have m11 := T11.n
        simp only at hpar
        cases hgo : pgo k (parse false (zs.drop 16)).2 (parse false (zs.drop 16)).1 [] [] 0 with
        | none =>
          rw [hgo] at hpar
          obtain ⟨x, rfl⟩ := hpar
          (refine Go.runL (g:=?_))
          refine GoL.store' rfl rfl rfl rfl rfl (hl:=rfl) (h1:=rfl) (h3:=rfl) (g:=?_)
          (refine Go.runL (g:=?_))
          refine GoL.end_ (hl := by (try simp only [List.nil_append, List.cons_append]); repeat (first | exact loudP.nil | refine loudP.none ?_ | refine loudP.new (fun _ hb => absurd hb List.not_mem_nil) ?_ | refine loudP.row (by repeat (first | exact loudRowP.nil | refine loudRowP.none ?_ | refine loudRowP.bef (by decide +kernel) ?_)) ?_)) ?_
          (refine Go.run (g:=?_))
          refine Go.name ?_
          intro h12 e12
          have T12 := T11.put_eq x e12
          refine Go.joined (h12, x, ⟨[], [], [], [], []⟩, false) ⟨T12, (fun e => by cases e), ?_⟩ ⟨rfl, rfl, rfl, trivial⟩ rfl rfl
          simp only [Bool.not_false]
          rw [finR_bad, hraw, if_pos g, hgo]
          rfl
        | some AD =>
          rw [hgo] at hpar
          obtain ⟨pA, pD⟩ := AD
          obtain ⟨sD, sA, rfl, vA, lA, aA, lD, vD, oA, oD⟩ := hpar
          (refine Go.runL (g:=?_))
          refine GoL.store' rfl rfl rfl rfl rfl (hl:=rfl) (h1:=rfl) (h3:=rfl) (g:=?_)
          (refine Go.runL (g:=?_))
          refine GoL.end_ (hl := by (try simp only [List.nil_append, List.cons_append]); repeat (first | exact loudP.nil | refine loudP.none ?_ | refine loudP.new (fun _ hb => absurd hb List.not_mem_nil) ?_ | refine loudP.row (by repeat (first | exact loudRowP.nil | refine loudRowP.none ?_ | refine loudRowP.bef (by decide +kernel) ?_)) ?_)) ?_
          (refine Go.run (g:=?_))
          refine Go.name ?_
          intro h12 e12
          have T12 := T11.put_eq (⟨k, f, rn zs 0 4, rn zs 4 4, rn zs 12 4, rn zs 8 2, rn zs 10 2, 0, 0, 0, sD, sA, ⟨none, 0, 0⟩, ⟨none, 0, 0⟩, ⟨none, 0, 0⟩⟩ : Ck) e12
          have vA12 := vA.put_eq e12 (fun hm => by have := oA _ hm; omega)
          have vD12 : Rv Try.prog h12 1 sD.a sD.n sD.cap (pD.map bv) := by subst e12; exact vD.put (fun hm => by have := oD _ hm; omega) _
          have ok12 : COk h12 (⟨k, f, rn zs 0 4, rn zs 4 4, rn zs 12 4, rn zs 8 2, rn zs 10 2, 0, 0, 0, sD, sA, ⟨none, 0, 0⟩, ⟨none, 0, 0⟩, ⟨none, 0, 0⟩⟩ : Ck) ⟨pD, pA, [], [], []⟩ := { COk.base h12 k f hk8 hf with tag := x6, rwnd := x7, out := x8, inn := x9, tsn := x10, dl := lD, dv := vD12, al := lA, av := vA12.rv, ab := aA }
          refine Go.joined (h12, _, _, true) ⟨T12, fun _ => ⟨ok12, oD.mono (by omega), oA.mono (by omega), Own.nil _, Own.nil _, Own.nil _, fun x hx => by cases hx⟩, ?_⟩ ⟨rfl, rfl, rfl, trivial⟩ rfl rfl
          simp only [Bool.not_true]
          rw [finR_good ok12, hraw, if_pos g, hgo]
          simp only [Option.map_some, pcOf, PC.z, List.map_nil, rn_le (show 0 + 4 ≤ zs.length by omega), rn_le (show 4 + 4 ≤ zs.length by omega), rn_le (show 8 + 2 ≤ zs.length by omega), rn_le (show 10 + 2 ≤ zs.length by omega), rn_le (show 12 + 4 ≤ zs.length by omega)]
    · (refine Go.run (g:=?_))
      refine GoR.call rfl rfl rfl rfl rfl rfl rfl (((rsack_spec (⟨k, f, 0, 0, 0, 0, 0, 0, 0, 0, ⟨none, 0, 0⟩, ⟨none, 0, 0⟩, ⟨none, 0, 0⟩, ⟨none, 0, 0⟩, ⟨none, 0, 0⟩⟩ : Ck) rfl rfl a cap zs hl _ hz5).args (by first | rfl | (simp; fail_if_success focus skip) | (simp; omega) | (congr 2; omega))).mono ?_)
      rintro v6 h6 hs s6
      have T6 := T5.to s6
      have gC6 := T6.chk
      unfold Ck.cs at gC6
      have m6 := T6.n
      have x8 := rn_lt2 zs 8
      have x10 := rn_lt2 zs 10
      rcases hs with ⟨hq, rfl⟩ | ⟨hq, b, cb, b', cb', rfl, vG, vU, oG, oU⟩
      · (refine Go.run (g:=?_))
        refine Go.name ?_
        intro h7 e7
        have T7 := T6.put_eq (⟨k, f, 0, 0, 0, 0, 0, 0, 0, 0, ⟨none, 0, 0⟩, ⟨none, 0, 0⟩, ⟨none, 0, 0⟩, ⟨none, 0, 0⟩, ⟨none, 0, 0⟩⟩ : Ck) e7
        clear e7
        refine Go.joined (h7, _, ⟨[], [], [], [], []⟩, false) ⟨T7, (fun e => by cases e), ?_⟩ ⟨rfl, rfl, rfl, trivial⟩ rfl rfl
        simp only [Bool.not_false]
        rw [finR_bad]
        subst hk0
        by_cases g12 : 12 ≤ zs.length
        · rw [rn_le (by omega), rn_le (by omega)] at hq
          simp [rawP, hq]
        · simp [rawP, g12]
      · have g12 : 12 ≤ zs.length := by omega
        rw [rn_le (by omega), rn_le (by omega)] at hq
        (refine Go.run (g:=?_))
        refine Go.name ?_
        intro h7 e7
        have T7 := T6.put_eq (⟨k, f, 0, nAt zs 4 4, nAt zs 0 4, 0, 0, 0, 0, 0, ⟨none, 0, 0⟩, ⟨none, 0, 0⟩, ⟨b, nAt zs 8 2, cb⟩, ⟨b', nAt zs 10 2, cb'⟩, ⟨none, 0, 0⟩⟩ : Ck) e7
        have vG7 := vG.put_eq e7 (fun hm => by have := oG _ hm; omega)
        have vU7 := vU.put_eq e7 (fun hm => by have := oU _ hm; omega)
        clear e7
        have ok7 : COk h7 (⟨k, f, 0, nAt zs 4 4, nAt zs 0 4, 0, 0, 0, 0, 0, ⟨none, 0, 0⟩, ⟨none, 0, 0⟩, ⟨b, nAt zs 8 2, cb⟩, ⟨b', nAt zs 10 2, cb'⟩, ⟨none, 0, 0⟩⟩ : Ck) ⟨[], [], gapsAt (zs.drop 12) (nAt zs 8 2), dupsAt (zs.drop (12 + 4 * nAt zs 8 2)) (nAt zs 10 2), []⟩ := { COk.base h7 k f hk8 hf with tsn := nAt_lt4 _ _, rwnd := nAt_lt4 _ _, gl := by simp [gapsAt], gv := vG7.rv, gb := (fun x hx => by obtain ⟨i, -, rfl⟩ := List.mem_map.1 hx; exact ⟨nAt_lt2 _ _, nAt_lt2 _ _⟩), ul := by simp [dupsAt], uv := vU7.rv, ub := (fun x hx => by obtain ⟨i, -, rfl⟩ := List.mem_map.1 hx; exact nAt_lt4 _ _) }
        refine Go.joined (h7, _, _, true) ⟨T7, fun _ => ⟨ok7, Own.nil _, Own.nil _, oG.mono (by omega), oU.mono (by omega), Own.nil _, fun x hx => by cases hx⟩, ?_⟩ ⟨rfl, rfl, rfl, trivial⟩ rfl rfl
        simp only [Bool.not_true]
        rw [finR_good ok7]
        subst hk0
        simp only [rawP, if_pos (And.intro g12 hq), pcOf, PC.z, List.map_nil]
    · (refine Go.run (g:=?_))
      refine GoR.call rfl rfl rfl rfl rfl rfl rfl (((refAll_spec false a zs.length cap zs rfl hl _ hz5).args (by first | rfl | (simp; fail_if_success focus skip) | (simp; omega) | (congr 2; omega))).mono ?_)
      rintro _ h6 ⟨b, cb, ts, rfl, hts, row⟩ s6
      have T6 := T5.to s6
      have gC6 := T6.chk
      unfold Ck.cs at gC6
      have m6 := T6.n
      have hpl := parse_len (chunk := false) zs
      have htl : ts.length = (parse false zs).1.length := by rw [← hts, List.length_map]
      have hblt : ∀ i ∈ blk b, i < h6.n := row.sv.lt
      have htlt : ∀ t ∈ ts, ∀ i ∈ blk t.a, i < h6.n := fun t ht => Rv.lt (row.tv t ht)
      (refine Go.run (g:=?_))
      refine Go.loop (α := Nat × AHeap × Option Addr × Nat) (fun x => [(9, .int .i64 x.1), (7, .slice b ts.length cb), (8, .bool (parse false zs).2), (2, .pointer (some ⟨h.n + 1, 0, none⟩)), (4, .pointer (some ⟨h.n + 2, 0, none⟩))]) (fun _ => []) (fun x => x.2.1)
        (fun x => x.1 ≤ ts.length ∧ RT h x.2.1 (⟨k, f, 0, 0, 0, 0, 0, 0, 0, 0, ⟨none, 0, 0⟩, ⟨none, 0, 0⟩, ⟨none, 0, 0⟩, ⟨none, 0, 0⟩, ⟨x.2.2.1, x.1, x.2.2.2⟩⟩ : Ck) ∧ h6.n ≤ x.2.1.n ∧ Rv Try.prog x.2.1 3 b ts.length cb (tcells ts) ∧ TVs x.2.1 ts ∧ Sv x.2.1 84 2 x.2.2.1 x.1 x.2.2.2 (ccs ((ts.take x.1).map fun t => ⟨t.k, t.a, t.cap, t.z⟩)) ∧ Own h6.n x.2.2.1) (fun x => ts.length - x.1) (0, h6, none, 0) ?_ ?_ rfl rfl ?_
      · exact ⟨Nat.zero_le _, T6, Nat.le_refl _, row.sv.rv, row.tv, .nil, Own.nil _⟩
      · exact ⟨rfl, rfl, rfl, rfl, rfl, trivial⟩
      clear T6 gC6
      rintro ⟨i, H, b2, c2⟩ ⟨hi, T, mH, hR, hTV, hsv, hob⟩
      simp only at hi T mH hR hTV hsv hob ⊢
      have gC := T.chk
      unfold Ck.cs at gC
      dsimp only at gC
      have mT := T.n
      rcases Nat.lt_or_ge i ts.length with i0 | i0
      · have hcell := tcells_get i0
        have c0 : (tcells ts)[i * 3 + 0]? = some (.int .u16 ts[i].k) := by rw [← List.getElem?_drop, ← List.getElem?_take_of_lt (show 0 < 3 by decide), hcell]; rfl
        have c2' : (tcells ts)[i * 3 + 2]? = some (.slice ts[i].a ts[i].z.length ts[i].cap) := by rw [← List.getElem?_drop, ← List.getElem?_take_of_lt (show 2 < 3 by decide), hcell]; rfl
        rw [Nat.add_zero] at c0
        have hbe : i * 3 < (tcells ts).length := by rw [tcells_len]; omega
        have hbe3 : i * 3 + 3 ≤ (tcells ts).length := by rw [tcells_len]; omega
        have e3 : (ts.take (i + 1)).map (fun t : TV => (⟨t.k, t.a, t.cap, t.z⟩ : CV)) = (ts.take i).map (fun t : TV => (⟨t.k, t.a, t.cap, t.z⟩ : CV)) ++ [⟨ts[i].k, ts[i].a, ts[i].cap, ts[i].z⟩] := by
          rw [← List.take_append_getElem i0, List.map_append]; rfl
        generalize ts[i].k = xk at *
        generalize ts[i].z = xz at *
        generalize ts[i].a = xa at *
        generalize ts[i].cap = xc at *
        (refine Go.run (g:=?_))
        refine Go.loud (by kernel_rfl) rfl ?_
        (refine Go.runL (g:=?_))
        refine GoL.buildRo (c := [.int .u16 xk, .slice xa xz.length xc]) rfl rfl rfl rfl rfl (by decide) (by rfl) (by rfl) ?_
        intro b8 h8 hb8 rb8 ob8 s8 n8
        have m8 := s8.1
        have T8 := T.to s8
        refine GoL.appendV rfl rfl rfl rfl rfl rfl (hsv.same s8) hb8 (fun j hj => .inr (by have := hob _ hj; omega)) (by omega) (by omega) (by rfl) ?_
        intro b9 c9 h9 rd wr hwr hrd hs9 k9 o9
        have m9 := k9.1
        have T9 := T8.app k9 (hob.mono (by omega))
        have gC9 := T9.chk
        unfold Ck.cs at gC9
        dsimp only at gC9
        have R9 := (hR.same s8).keeps k9 (fun j hj hm => by have := hblt j hj; have := hob _ hm; omega)
        have V9 : TVs h9 ts := fun t ht => Rv.keeps ((hTV.same s8) t ht) k9 (fun j hj hm => by have := htlt t ht j hj; have := hob _ hm; omega)
        (refine Go.runL (g:=?_))
        refine GoL.store' rfl rfl rfl rfl rfl (hl:=rfl) (h1:=rfl) (h3:=rfl) (g:=?_)
        refine GoL.end_ (hl := by (try simp only [List.nil_append, List.cons_append]); repeat (first | exact loudP.nil | refine loudP.none ?_ | refine loudP.new (fun _ hb => absurd hb List.not_mem_nil) ?_ | refine loudP.row (by repeat (first | exact loudRowP.nil | refine loudRowP.none ?_ | refine loudRowP.bef (by decide +kernel) ?_)) ?_)) ?_
        (refine Go.run (g:=?_))
        refine Go.name ?_
        intro h10 e10
        have T10 := T9.put_eq (⟨k, f, 0, 0, 0, 0, 0, 0, 0, 0, ⟨none, 0, 0⟩, ⟨none, 0, 0⟩, ⟨none, 0, 0⟩, ⟨none, 0, 0⟩, ⟨b9, i + 1, c9⟩⟩ : Ck) e10
        have ob9 : Own h6.n b9 := hob.app (by omega) o9
        have hs10 := hs9.put_eq e10 (fun hm => by have := ob9 _ hm; omega)
        have R10 : Rv Try.prog h10 3 b ts.length cb (tcells ts) := by subst e10; exact R9.put (fun hm => by have := row.own _ hm; have := T5.n; omega) _
        have V10 : TVs h10 ts := fun t ht => by subst e10; exact Rv.put (V9 t ht) (fun hm => by have := row.ownv t ht _ hm; omega) _
        have n10 : h6.n ≤ h10.n := by subst e10; simp only [AHeap.n_put]; omega
        refine Go.again (i + 1, h10, b9, c9) ⟨by simp only; omega, T10, n10, R10, V10, ?_, ob9⟩ (by simp only; omega) ⟨rfl, rfl, rfl, rfl, rfl, trivial⟩ rfl rfl
        simp only
        rw [e3]
        rw [show ∀ (l : List CV) (x : CV), ccs (l ++ [x]) = ccs l ++ cvC x from fun l x => by simp [ccs]]
        exact hs10
      have hie : i = ts.length := by omega
      subst hie
      rw [List.take_length] at hsv
      (refine Go.run (g:=?_))
      have okF : COk H (⟨k, f, 0, 0, 0, 0, 0, 0, 0, 0, ⟨none, 0, 0⟩, ⟨none, 0, 0⟩, ⟨none, 0, 0⟩, ⟨none, 0, 0⟩, ⟨b2, ts.length, c2⟩⟩ : Ck) ⟨[], [], [], [], ts.map fun t => ⟨t.k, t.a, t.cap, t.z⟩⟩ := { COk.base H k f hk8 hf with cl := by simp, cv := hsv.rv, cb := (fun x hx => by
          obtain ⟨t, ht, rfl⟩ := List.mem_map.1 hx
          have tb := parse_bd (chunk := false) zs t.thing (by rw [← hts]; exact List.mem_map.2 ⟨t, ht, rfl⟩)
          exact ⟨tb.1, by have := tb.2; show t.z.length ≤ _; simp only [TV.thing] at this; omega, hTV t ht⟩) }
      refine Go.joined (H, _, _, (parse false zs).2) ⟨T, fun _ => ⟨okF, Own.nil _, Own.nil _, Own.nil _, Own.nil _, hob.mono (by omega), fun x hx => by obtain ⟨t, ht, rfl⟩ := List.mem_map.1 hx; exact (row.ownv t ht).mono (by omega)⟩, ?_⟩ ⟨rfl, rfl, rfl, trivial⟩ rfl rfl
      simp only
      have hraw : rawP k f zs = if (parse false zs).2 = true then some { PC.z k f with causes := (parse false zs).1.map fun x => (x.1, x.2.2) } else none := by subst hk0; rfl
      rw [hraw]
      cases hw : (parse false zs).2
      · rw [Bool.not_false, finR_bad]; rfl
      · rw [Bool.not_true, finR_good okF, if_pos rfl]
        congr 1
        simp only [pcOf, PC.z, ← hts, List.map_map]
        rfl
    · (refine Go.run (g:=?_))
      refine GoR.call rfl rfl rfl rfl rfl rfl rfl (((refAll_spec false a zs.length cap zs rfl hl _ hz5).args (by first | rfl | (simp; fail_if_success focus skip) | (simp; omega) | (congr 2; omega))).mono ?_)
      rintro _ h6 ⟨b, cb, ts, rfl, hts, row⟩ s6
      have T6 := T5.to s6
      have gC6 := T6.chk
      unfold Ck.cs at gC6
      have m6 := T6.n
      have hpl := parse_len (chunk := false) zs
      have htl : ts.length = (parse false zs).1.length := by rw [← hts, List.length_map]
      have hblt : ∀ i ∈ blk b, i < h6.n := row.sv.lt
      have htlt : ∀ t ∈ ts, ∀ i ∈ blk t.a, i < h6.n := fun t ht => Rv.lt (row.tv t ht)
      (refine Go.run (g:=?_))
      refine Go.loop (α := Nat × AHeap × Option Addr × Nat) (fun x => [(9, .int .i64 x.1), (7, .slice b ts.length cb), (8, .bool (parse false zs).2), (2, .pointer (some ⟨h.n + 1, 0, none⟩)), (4, .pointer (some ⟨h.n + 2, 0, none⟩))]) (fun _ => []) (fun x => x.2.1)
        (fun x => x.1 ≤ ts.length ∧ RT h x.2.1 (⟨k, f, 0, 0, 0, 0, 0, 0, 0, 0, ⟨none, 0, 0⟩, ⟨none, 0, 0⟩, ⟨none, 0, 0⟩, ⟨none, 0, 0⟩, ⟨x.2.2.1, x.1, x.2.2.2⟩⟩ : Ck) ∧ h6.n ≤ x.2.1.n ∧ Rv Try.prog x.2.1 3 b ts.length cb (tcells ts) ∧ TVs x.2.1 ts ∧ Sv x.2.1 84 2 x.2.2.1 x.1 x.2.2.2 (ccs ((ts.take x.1).map fun t => ⟨t.k, t.a, t.cap, t.z⟩)) ∧ Own h6.n x.2.2.1) (fun x => ts.length - x.1) (0, h6, none, 0) ?_ ?_ rfl rfl ?_
      · exact ⟨Nat.zero_le _, T6, Nat.le_refl _, row.sv.rv, row.tv, .nil, Own.nil _⟩
      · exact ⟨rfl, rfl, rfl, rfl, rfl, trivial⟩
      clear T6 gC6
      rintro ⟨i, H, b2, c2⟩ ⟨hi, T, mH, hR, hTV, hsv, hob⟩
      simp only at hi T mH hR hTV hsv hob ⊢
      have gC := T.chk
      unfold Ck.cs at gC
      dsimp only at gC
      have mT := T.n
      rcases Nat.lt_or_ge i ts.length with i0 | i0
      · have hcell := tcells_get i0
        have c0 : (tcells ts)[i * 3 + 0]? = some (.int .u16 ts[i].k) := by rw [← List.getElem?_drop, ← List.getElem?_take_of_lt (show 0 < 3 by decide), hcell]; rfl
        have c2' : (tcells ts)[i * 3 + 2]? = some (.slice ts[i].a ts[i].z.length ts[i].cap) := by rw [← List.getElem?_drop, ← List.getElem?_take_of_lt (show 2 < 3 by decide), hcell]; rfl
        rw [Nat.add_zero] at c0
        have hbe : i * 3 < (tcells ts).length := by rw [tcells_len]; omega
        have hbe3 : i * 3 + 3 ≤ (tcells ts).length := by rw [tcells_len]; omega
        have e3 : (ts.take (i + 1)).map (fun t : TV => (⟨t.k, t.a, t.cap, t.z⟩ : CV)) = (ts.take i).map (fun t : TV => (⟨t.k, t.a, t.cap, t.z⟩ : CV)) ++ [⟨ts[i].k, ts[i].a, ts[i].cap, ts[i].z⟩] := by
          rw [← List.take_append_getElem i0, List.map_append]; rfl
        generalize ts[i].k = xk at *
        generalize ts[i].z = xz at *
        generalize ts[i].a = xa at *
        generalize ts[i].cap = xc at *
        (refine Go.run (g:=?_))
        refine Go.loud (by kernel_rfl) rfl ?_
        (refine Go.runL (g:=?_))
        refine GoL.buildRo (c := [.int .u16 xk, .slice xa xz.length xc]) rfl rfl rfl rfl rfl (by decide) (by rfl) (by rfl) ?_
        intro b8 h8 hb8 rb8 ob8 s8 n8
        have m8 := s8.1
        have T8 := T.to s8
        refine GoL.appendV rfl rfl rfl rfl rfl rfl (hsv.same s8) hb8 (fun j hj => .inr (by have := hob _ hj; omega)) (by omega) (by omega) (by rfl) ?_
        intro b9 c9 h9 rd wr hwr hrd hs9 k9 o9
        have m9 := k9.1
        have T9 := T8.app k9 (hob.mono (by omega))
        have gC9 := T9.chk
        unfold Ck.cs at gC9
        dsimp only at gC9
        have R9 := (hR.same s8).keeps k9 (fun j hj hm => by have := hblt j hj; have := hob _ hm; omega)
        have V9 : TVs h9 ts := fun t ht => Rv.keeps ((hTV.same s8) t ht) k9 (fun j hj hm => by have := htlt t ht j hj; have := hob _ hm; omega)
        (refine Go.runL (g:=?_))
        refine GoL.store' rfl rfl rfl rfl rfl (hl:=rfl) (h1:=rfl) (h3:=rfl) (g:=?_)
        refine GoL.end_ (hl := by (try simp only [List.nil_append, List.cons_append]); repeat (first | exact loudP.nil | refine loudP.none ?_ | refine loudP.new (fun _ hb => absurd hb List.not_mem_nil) ?_ | refine loudP.row (by repeat (first | exact loudRowP.nil | refine loudRowP.none ?_ | refine loudRowP.bef (by decide +kernel) ?_)) ?_)) ?_
        (refine Go.run (g:=?_))
        refine Go.name ?_
        intro h10 e10
        have T10 := T9.put_eq (⟨k, f, 0, 0, 0, 0, 0, 0, 0, 0, ⟨none, 0, 0⟩, ⟨none, 0, 0⟩, ⟨none, 0, 0⟩, ⟨none, 0, 0⟩, ⟨b9, i + 1, c9⟩⟩ : Ck) e10
        have ob9 : Own h6.n b9 := hob.app (by omega) o9
        have hs10 := hs9.put_eq e10 (fun hm => by have := ob9 _ hm; omega)
        have R10 : Rv Try.prog h10 3 b ts.length cb (tcells ts) := by subst e10; exact R9.put (fun hm => by have := row.own _ hm; have := T5.n; omega) _
        have V10 : TVs h10 ts := fun t ht => by subst e10; exact Rv.put (V9 t ht) (fun hm => by have := row.ownv t ht _ hm; omega) _
        have n10 : h6.n ≤ h10.n := by subst e10; simp only [AHeap.n_put]; omega
        refine Go.again (i + 1, h10, b9, c9) ⟨by simp only; omega, T10, n10, R10, V10, ?_, ob9⟩ (by simp only; omega) ⟨rfl, rfl, rfl, rfl, rfl, trivial⟩ rfl rfl
        simp only
        rw [e3]
        rw [show ∀ (l : List CV) (x : CV), ccs (l ++ [x]) = ccs l ++ cvC x from fun l x => by simp [ccs]]
        exact hs10
      have hie : i = ts.length := by omega
      subst hie
      rw [List.take_length] at hsv
      (refine Go.run (g:=?_))
      have okF : COk H (⟨k, f, 0, 0, 0, 0, 0, 0, 0, 0, ⟨none, 0, 0⟩, ⟨none, 0, 0⟩, ⟨none, 0, 0⟩, ⟨none, 0, 0⟩, ⟨b2, ts.length, c2⟩⟩ : Ck) ⟨[], [], [], [], ts.map fun t => ⟨t.k, t.a, t.cap, t.z⟩⟩ := { COk.base H k f hk8 hf with cl := by simp, cv := hsv.rv, cb := (fun x hx => by
          obtain ⟨t, ht, rfl⟩ := List.mem_map.1 hx
          have tb := parse_bd (chunk := false) zs t.thing (by rw [← hts]; exact List.mem_map.2 ⟨t, ht, rfl⟩)
          exact ⟨tb.1, by have := tb.2; show t.z.length ≤ _; simp only [TV.thing] at this; omega, hTV t ht⟩) }
      refine Go.joined (H, _, _, (parse false zs).2) ⟨T, fun _ => ⟨okF, Own.nil _, Own.nil _, Own.nil _, Own.nil _, hob.mono (by omega), fun x hx => by obtain ⟨t, ht, rfl⟩ := List.mem_map.1 hx; exact (row.ownv t ht).mono (by omega)⟩, ?_⟩ ⟨rfl, rfl, rfl, trivial⟩ rfl rfl
      simp only
      have hraw : rawP k f zs = if (parse false zs).2 = true then some { PC.z k f with causes := (parse false zs).1.map fun x => (x.1, x.2.2) } else none := by subst hk0; rfl
      rw [hraw]
      cases hw : (parse false zs).2
      · rw [Bool.not_false, finR_bad]; rfl
      · rw [Bool.not_true, finR_good okF, if_pos rfl]
        congr 1
        simp only [pcOf, PC.z, ← hts, List.map_map]
        rfl
    · (refine Go.run (g:=?_))
      refine GoR.call rfl rfl rfl rfl rfl rfl rfl (((rn_spec a cap zs 0 4 (by decide) (by decide) hl _ (hz.same T5.same)).args (by first | rfl | (simp; fail_if_success focus skip) | (simp; omega) | (congr 2; omega))).mono ?_)
      rintro _ h6a rfl s6a
      have x6 := rn_lt4 zs 0
      have T6a := T5.to s6a
      have gC6a := T6a.chk
      unfold Ck.cs at gC6a
      try dsimp only at gC6a
      have m6a := T6a.n
      (refine Go.run (g:=?_))
      refine Go.name ?_
      intro h6 e6
      have T6 := T6a.put_eq (⟨k, f, 0, 0, rn zs 0 4, 0, 0, 0, 0, 0, ⟨none, 0, 0⟩, ⟨none, 0, 0⟩, ⟨none, 0, 0⟩, ⟨none, 0, 0⟩, ⟨none, 0, 0⟩⟩ : Ck) e6
      clear e6
      have gC6 := T6.chk
      unfold Ck.cs at gC6
      try dsimp only at gC6
      have m6 := T6.n
      have ok6 : COk h6 (⟨k, f, 0, 0, rn zs 0 4, 0, 0, 0, 0, 0, ⟨none, 0, 0⟩, ⟨none, 0, 0⟩, ⟨none, 0, 0⟩, ⟨none, 0, 0⟩, ⟨none, 0, 0⟩⟩ : Ck) ⟨[], [], [], [], []⟩ := { COk.base h6 k f hk8 hf with tsn := x6 }
      refine Go.joined (h6, _, _, decide ((zs.length : Int) = 4)) ⟨T6, fun _ => ⟨ok6, ⟨Own.nil _, Own.nil _, Own.nil _, Own.nil _, Own.nil _, fun x hx => by cases hx⟩⟩, ?_⟩ ⟨rfl, rfl, rfl, trivial⟩ rfl rfl
      simp only
      subst hk0
      by_cases g : zs.length = 4
      · rw [show (!decide ((zs.length : Int) = 4)) = false from by simp; omega, finR_good ok6]
        simp only [rawP, if_pos g, pcOf, PC.z, List.map_nil, rn_le (show 0 + 4 ≤ zs.length by omega)]
      · rw [show (!decide ((zs.length : Int) = 4)) = true from by simp; omega, finR_bad]
        simp [rawP, g]
    · (refine Go.run (g:=?_))
      have ok5 : COk h5 (⟨k, f, 0, 0, 0, 0, 0, 0, 0, 0, ⟨none, 0, 0⟩, ⟨none, 0, 0⟩, ⟨none, 0, 0⟩, ⟨none, 0, 0⟩, ⟨none, 0, 0⟩⟩ : Ck) ⟨[], [], [], [], []⟩ := COk.base h5 k f hk8 hf
      refine Go.joined (h5, _, _, decide ((zs.length : Int) = 0)) ⟨T5, fun _ => ⟨ok5, ⟨Own.nil _, Own.nil _, Own.nil _, Own.nil _, Own.nil _, fun x hx => by cases hx⟩⟩, ?_⟩ ⟨rfl, rfl, rfl, trivial⟩ rfl rfl
      simp only
      subst hk0
      by_cases g : zs.length = 0
      · rw [decide_eq_true (show (zs.length : Int) = 0 by omega), Bool.not_true, finR_good ok5]
        simp only [rawP, if_pos g, pcOf, PC.z, List.map_nil]
      · rw [decide_eq_false (show ¬ (zs.length : Int) = 0 by omega), Bool.not_false, finR_bad]
        simp [rawP, g]
    · (refine Go.run (g:=?_))
      have ok5 : COk h5 (⟨k, f, 0, 0, 0, 0, 0, 0, 0, 0, ⟨none, 0, 0⟩, ⟨none, 0, 0⟩, ⟨none, 0, 0⟩, ⟨none, 0, 0⟩, ⟨none, 0, 0⟩⟩ : Ck) ⟨[], [], [], [], []⟩ := COk.base h5 k f hk8 hf
      refine Go.joined (h5, _, _, decide ((zs.length : Int) = 0)) ⟨T5, fun _ => ⟨ok5, ⟨Own.nil _, Own.nil _, Own.nil _, Own.nil _, Own.nil _, fun x hx => by cases hx⟩⟩, ?_⟩ ⟨rfl, rfl, rfl, trivial⟩ rfl rfl
      simp only
      subst hk0
      by_cases g : zs.length = 0
      · rw [decide_eq_true (show (zs.length : Int) = 0 by omega), Bool.not_true, finR_good ok5]
        simp only [rawP, if_pos g, pcOf, PC.z, List.map_nil]
      · rw [decide_eq_false (show ¬ (zs.length : Int) = 0 by omega), Bool.not_false, finR_bad]
        simp [rawP, g]
    · (refine Go.run (g:=?_))
      have ok5 : COk h5 (⟨k, f, 0, 0, 0, 0, 0, 0, 0, 0, ⟨none, 0, 0⟩, ⟨none, 0, 0⟩, ⟨none, 0, 0⟩, ⟨none, 0, 0⟩, ⟨none, 0, 0⟩⟩ : Ck) ⟨[], [], [], [], []⟩ := COk.base h5 k f hk8 hf
      refine Go.joined (h5, _, _, decide ((zs.length : Int) = 0)) ⟨T5, fun _ => ⟨ok5, ⟨Own.nil _, Own.nil _, Own.nil _, Own.nil _, Own.nil _, fun x hx => by cases hx⟩⟩, ?_⟩ ⟨rfl, rfl, rfl, trivial⟩ rfl rfl
      simp only
      subst hk0
      by_cases g : zs.length = 0
      · rw [decide_eq_true (show (zs.length : Int) = 0 by omega), Bool.not_true, finR_good ok5]
        simp only [rawP, if_pos g, pcOf, PC.z, List.map_nil]
      · rw [decide_eq_false (show ¬ (zs.length : Int) = 0 by omega), Bool.not_false, finR_bad]
        simp [rawP, g]
    · (refine Go.run (g:=?_))
      refine GoR.buildO (c := []) rfl rfl rfl rfl rfl (by decide) (by rfl) (by rfl) ?_
      intro bb hb vb ob sb nb
      have Tb := T5.to sb
      have mb := Tb.n
      (refine Go.run (g:=?_))
      refine GoR.appendV rfl rfl rfl rfl rfl rfl vb (hz.same Tb.same) (fun j hj => .inr (by have := ob j hj; omega)) (by omega) (by omega) (List.all_eq_true.2 fun x hx => by obtain ⟨y, -, rfl⟩ := List.mem_map.1 hx; rfl) ?_
      intro bd cdd hd_ vd kd od
      rw [Nat.zero_add, List.nil_append] at vd
      have Td := Tb.app kd (ob.mono (by omega))
      have gCd := Td.chk
      unfold Ck.cs at gCd
      try dsimp only at gCd
      have md := Td.n
      have nd := kd.1
      have oD : Own (h.n + 3) bd := (ob.mono (n' := h.n + 3) (by omega)).app (by omega) od
      (refine Go.run (g:=?_))
      refine Go.name ?_
      intro he ee
      have Te := Td.put_eq (⟨k, f, 0, 0, 0, 0, 0, 0, 0, 0, ⟨bd, zs.length, cdd⟩, ⟨none, 0, 0⟩, ⟨none, 0, 0⟩, ⟨none, 0, 0⟩, ⟨none, 0, 0⟩⟩ : Ck) ee
      have ve := vd.put_eq ee (fun hm => by have := oD _ hm; omega)
      clear ee
      have oke : COk he (⟨k, f, 0, 0, 0, 0, 0, 0, 0, 0, ⟨bd, zs.length, cdd⟩, ⟨none, 0, 0⟩, ⟨none, 0, 0⟩, ⟨none, 0, 0⟩, ⟨none, 0, 0⟩⟩ : Ck) ⟨zs, [], [], [], []⟩ := { COk.base he k f hk8 hf with dl := by simp, dv := ve.rv }
      refine Go.joined (he, _, _, true) ⟨Te, fun _ => ⟨oke, ⟨oD, Own.nil _, Own.nil _, Own.nil _, Own.nil _, fun x hx => by cases hx⟩⟩, ?_⟩ ⟨rfl, rfl, rfl, trivial⟩ rfl rfl
      simp only [Bool.not_true]
      rw [finR_good oke, show rawP k f zs = some { PC.z k f with data := zs } from by unfold rawP; split <;> first | rfl | omega | contradiction]
      rfl
  rintro ⟨H, c, d, okb⟩ ⟨T, hok, hfin⟩
  simp only at T hok hfin ⊢
  have gC := T.chk
  have gR := T.res
  have mH := T.n
  unfold Ck.cs Ck.none Sl.nil at gR
  unfold Ck.cs at gC
  rw [← hfin]
  cases okb
  case false =>
    rw [show finR c d (!false) [] = none from finR_bad _ _ _]
    (refine Go.run (g:=?_))
    refine Go.fin (.inr rfl) (.cellN (b := h.n + 1) (off := 0) rfl inferInstance (by (first | assumption | exact AHeap.get_push_same _ _ | ((repeat first | exact AHeap.get_push_same _ _ | assumption | refine get_push_lt ?_ | exact AHeap.get_put_same _ (by first | omega | (simp only [AHeap.n_push, AHeap.n_put]; omega)) _ | exact get_put_self (by assumption) | apply get_put_self | refine get_put_other (by first | omega | (simp only [AHeap.n_push, AHeap.n_put]; omega)) ?_ | refine Same.get (by assumption) ?_ | refine Keeps.get (by assumption) ?_ (fun hi => by have hx := Own.out (by assumption) hi; omega)) ; fail_if_success focus skip) | fail)) (by first | exact Nat.le_refl _ | (simp [setL, cellsL]; fail_if_success focus skip) | (simp; omega)) rfl (.tmp rfl .nil)) ?_
    rfl
  obtain ⟨ok, hap⟩ := hok rfl
  have hmy := rmay_head c ok.f d.gaps ok.gl ok.gb H ok.gv
  cases hm : may c d.gaps
  all_goals rw [hm] at hmy
  · rw [show finR c d (!true) [] = none from by simp [finR, hm]]
    (refine Go.run (g:=?_))
    refine GoR.call rfl rfl rfl rfl rfl rfl rfl (((hmy).args (by first | rfl | (simp; fail_if_success focus skip) | (simp; omega) | (congr 2; omega))).mono ?_)
    rintro _ h8 rfl s8
    (have nn := (s8).1; try simp only [AHeap.n_push, AHeap.n_put] at nn)
    have gR8 := s8.get gR
    (refine Go.run (g:=?_))
    refine Go.fin (.inr rfl) (.cellN (b := h.n + 1) (off := 0) rfl inferInstance (by (first | assumption | exact AHeap.get_push_same _ _ | ((repeat first | exact AHeap.get_push_same _ _ | assumption | refine get_push_lt ?_ | exact AHeap.get_put_same _ (by first | omega | (simp only [AHeap.n_push, AHeap.n_put]; omega)) _ | exact get_put_self (by assumption) | apply get_put_self | refine get_put_other (by first | omega | (simp only [AHeap.n_push, AHeap.n_put]; omega)) ?_ | refine Same.get (by assumption) ?_ | refine Keeps.get (by assumption) ?_ (fun hi => by have hx := Own.out (by assumption) hi; omega)) ; fail_if_success focus skip) | fail)) (by first | exact Nat.le_refl _ | (simp [setL, cellsL]; fail_if_success focus skip) | (simp; omega)) rfl (.tmp rfl .nil)) ?_
    rfl
  · rw [show finR c d (!true) [] = some (pcOf c d) from by simp [finR, hm]]
    (refine Go.run (g:=?_))
    refine GoR.call rfl rfl rfl rfl rfl rfl rfl (((hmy).args (by first | rfl | (simp; fail_if_success focus skip) | (simp; omega) | (congr 2; omega))).mono ?_)
    rintro _ h8 rfl s8
    (have nn := (s8).1; try simp only [AHeap.n_push, AHeap.n_put] at nn)
    have gR8 := s8.get gR
    have gC8 := s8.get gC
    (refine Go.run (g:=?_))
    refine Go.fin (.inr rfl) (.cellN (b := h.n + 1) (off := 0) rfl inferInstance (by (first | assumption | exact AHeap.get_push_same _ _ | ((repeat first | exact AHeap.get_push_same _ _ | assumption | refine get_push_lt ?_ | exact AHeap.get_put_same _ (by first | omega | (simp only [AHeap.n_push, AHeap.n_put]; omega)) _ | exact get_put_self (by assumption) | apply get_put_self | refine get_put_other (by first | omega | (simp only [AHeap.n_push, AHeap.n_put]; omega)) ?_ | refine Same.get (by assumption) ?_ | refine Keeps.get (by assumption) ?_ (fun hi => by have hx := Own.out (by assumption) hi; omega)) ; fail_if_success focus skip) | fail)) (by first | exact Nat.le_refl _ | (simp [setL, cellsL]; fail_if_success focus skip) | (simp; omega)) rfl (.tmp rfl .nil)) ?_
    exact ⟨c, d, rfl, (ok.same s8).put hap (by omega) _, rfl⟩
end Go.Proofs.Ytmelgnpogdilgaa
namespace Go.Proofs.Ytmelgnpogdilgaa
set_option maxRecDepth 100000
attribute [local irreducible] Go GoR GoL
theorem rawP_causes {k f : Nat} {zs : List UInt8} {p : PC} (h : rawP k f zs = some p) : p.causes.length ≤ zs.length := by
  have hpl := parse_len (chunk := false) zs
  unfold rawP at h
  split at h
  all_goals (try split at h)
  all_goals (try (simp only [Option.map_eq_some_iff] at h; obtain ⟨x, -, rfl⟩ := h; exact Nat.zero_le _))
  all_goals (first | (cases h; done) | (cases h; first | exact Nat.zero_le _ | (simp only [List.length_map]; omega)))
theorem tkP_small {k f : Nat} {zs : List UInt8} {p : PC} (h : tkP k f zs = some p) : p.addrs.length ≤ 3 ∧ p.gaps.length ≤ 64 ∧ p.dups.length ≤ 16 ∧ p.causes.length ≤ zs.length := by
  unfold tkP at h
  split at h
  · cases h
  obtain ⟨h1, h2⟩ := Option.filter_eq_some_iff.1 h
  unfold mayP may at h2
  rw [Bool.and_eq_true] at h2
  have hm := of_decide_eq_true h2.1
  exact ⟨hm.2.1, hm.2.2.1, hm.2.2.2.1, rawP_causes h1⟩
set_option maxHeartbeats 8000000 in
theorem chunkTakes_spec (k f : Nat) (a : Option Addr) (cap : Nat) (hk : k < 65536) (hf : f < 256) (zs : List UInt8) (h : AHeap) (hz : Rv Try.prog h 1 a zs.length cap (zs.map bv)) : CallS Try.prog [] 10 [tlvV k f a zs.length cap] h fun v h' => v = .bool true := by
  rcases Nat.lt_or_ge 5000 zs.length with g | g
  · (refine CallS.of1 Try.func10 rfl Try.ntmps10 Try.results10 rfl ?_)
    (refine Go.run (g:=?_))
    refine GoR.call rfl rfl rfl rfl rfl rfl rfl (((known05 _).args (by first | rfl | (simp; fail_if_success focus skip) | (simp; omega) | (congr 2; omega))).mono ?_)
    rintro _ h1 ⟨rfl, rfl⟩ -
    (refine Go.run (g:=?_))
    (first|refine Go.finT (by first|exact .inr rfl|exact .inl rfl) rfl ?_|refine Go.fin1 (by first|exact .inr rfl|exact .inl rfl) rfl (hq:=?_))
    rfl
  (refine CallS.of1 Try.func10 rfl Try.ntmps10 Try.results10 rfl ?_)
  (iterate 4 (first|refine GoR.end ?_|(refine GoR.gd rfl ?_;first|refine GoR.wanted' rfl rfl rfl rfl (g:=?_)|refine GoR.unwanted' rfl rfl rfl rfl (hd:=rfl) (hN:=rfl) (g:=?_)|refine GoR.unwantedU rfl rfl rfl rfl rfl rfl ?_)|(refine GoR.kk 0 rfl ?_;first|refine GoR.move rfl rfl rfl rfl rfl ?_|refine GoR.assign rfl rfl rfl rfl rfl ?_)|(refine GoR.kk 1 rfl ?_;first|refine GoR.load' rfl rfl rfl rfl rfl (g:=?_)|refine GoR.loadA' rfl rfl rfl rfl rfl (hv:=rfl) (g:=?_)|refine GoR.loadV' rfl rfl rfl rfl rfl (g:=?_)|refine GoR.loadVN' rfl rfl rfl rfl rfl (g:=?_))|(refine GoR.kk 2 rfl ?_;first|refine GoR.store' rfl rfl rfl rfl rfl (hl:=rfl) (h1:=rfl) (h3:=rfl) (g:=?_))|(refine GoR.kk 3 rfl ?_;first|refine GoR.fieldAddr rfl rfl rfl rfl rfl ?_|refine GoR.indexN' rfl rfl rfl rfl rfl rfl (g:=?_)|refine GoR.indexNs' rfl rfl rfl rfl rfl rfl (g:=?_)|refine GoR.indexV' rfl rfl rfl rfl rfl rfl (g:=?_)|refine GoR.indexA' rfl rfl rfl rfl rfl rfl (g:=?_)|refine GoR.fieldV' rfl rfl rfl rfl rfl (g:=?_))|(refine GoR.kk 4 rfl ?_;first|refine GoR.eq rfl rfl rfl rfl rfl rfl ?_|refine GoR.ne rfl rfl rfl rfl rfl rfl ?_|refine GoR.lt rfl rfl rfl rfl rfl rfl ?_|refine GoR.le rfl rfl rfl rfl rfl rfl ?_|refine GoR.gt rfl rfl rfl rfl rfl rfl ?_|refine GoR.ge rfl rfl rfl rfl rfl rfl ?_|refine GoR.addN' rfl rfl rfl rfl rfl rfl (g:=?_)|refine GoR.subN' rfl rfl rfl rfl rfl rfl (g:=?_)|refine GoR.add' rfl rfl rfl rfl rfl rfl (g:=?_)|refine GoR.sub' rfl rfl rfl rfl rfl rfl (g:=?_)|refine GoR.addM' rfl rfl rfl rfl rfl rfl (g:=?_)|refine GoR.subM' rfl rfl rfl rfl rfl rfl (g:=?_)|refine GoR.mulM' rfl rfl rfl rfl rfl rfl (g:=?_)|refine GoR.shrN rfl rfl rfl rfl rfl rfl rfl ?_|refine GoR.structEq rfl rfl rfl rfl rfl rfl (by rfl) (by rfl) ?_|refine GoR.structNe rfl rfl rfl rfl rfl rfl (by rfl) (by rfl) ?_|refine GoR.strEq rfl rfl rfl rfl rfl rfl ?_|refine GoR.strNe rfl rfl rfl rfl rfl rfl ?_|refine GoR.remN' rfl rfl rfl rfl rfl rfl (g:=?_)|refine GoR.quoN' rfl rfl rfl rfl rfl rfl (g:=?_)|refine GoR.shlN' rfl rfl rfl rfl rfl rfl rfl (g:=?_)|refine GoR.orN' rfl rfl rfl rfl rfl rfl (g:=?_))|(refine GoR.kk 5 rfl ?_;first|refine GoR.len rfl rfl rfl rfl rfl ?_|refine GoR.lenStr rfl rfl rfl rfl rfl ?_|refine GoR.capB rfl rfl rfl rfl rfl ?_)|(refine GoR.kk 7 rfl ?_;first|refine GoR.pickE' rfl rfl rfl rfl rfl (hx:=rfl) (hy:=rfl) (g:=?_)|refine GoR.pickN' rfl rfl rfl rfl rfl (hx:=rfl) (hy:=rfl) (g:=?_)|refine GoR.pickB rfl rfl rfl rfl rfl rfl rfl ?_)|(refine GoR.kk 8 rfl ?_;first|refine GoR.boxA rfl rfl rfl rfl rfl ?_|refine GoR.boxS rfl rfl rfl rfl rfl rfl ?_|refine GoR.alloc rfl rfl rfl rfl ?_)|(refine GoR.kk 9 rfl ?_;first|refine GoR.strV' rfl rfl rfl rfl rfl (g:=?_)|refine GoR.conv_u8 rfl rfl rfl rfl rfl ?_|refine GoR.convW' rfl rfl rfl rfl rfl (g:=?_)|refine GoR.conv_u16 rfl rfl rfl rfl rfl ?_|refine GoR.conv_u32 rfl rfl rfl rfl rfl ?_)|(refine GoR.kk 10 rfl ?_;first|refine GoR.build' rfl rfl rfl rfl rfl rfl (g:=?_))|(refine GoR.kk 11 rfl ?_;first|refine GoR.extract rfl rfl rfl rfl rfl rfl ?_|refine GoR.not rfl rfl rfl rfl rfl ?_|refine GoR.nilCheck rfl rfl rfl rfl rfl ?_|refine GoR.nilCheckF rfl rfl rfl rfl rfl ?_|refine GoR.makeFunc rfl rfl rfl rfl rfl rfl ?_)|(refine Go.kk 0 rfl ?_;refine Go.seq ?_)|(refine Go.kk 1 rfl ?_;refine Go.region (by kernel_rfl) rfl ?_)|(refine Go.kk 2 rfl ?_;refine Go.drawnQ rfl (by kernel_rfl) rfl ?_)|(refine Go.kk 3 rfl ?_;first|refine Go.cond_t' rfl (g:=?_)|refine Go.cond_f' rfl (g:=?_))|(refine Go.kk 4 rfl ?_;refine Go.block ?_)|(refine Go.kk 5 rfl ?_;first|refine Go.skip ?_|refine Go.ret ?_|refine Go.exit ?_|refine Go.scope ?_)|refine Go.leave_normal ?_|refine Go.leave_same ?_|refine Go.leave_ret ?_|refine Go.ret_code ?_|refine Go.exit_code ?_|refine Go.leave_other rfl ?_|refine Go.sc_normal ?_|refine Go.sc_ret ?_|refine Go.sc_exit ?_|refine Go.exit_back ?_|refine Go.ret_back ?_))
  refine GoR.name ?_
  intro h3 e3
  have G0 : h3.get h.n = some (.cells [.int .u16 k, .int .u8 f, .slice a zs.length cap] 25) := by
    subst e3
    exact AHeap.get_push_same h _
  have n3 : h3.n = h.n + 1 := by subst e3; rfl
  have S3 : Same h h3 := by subst e3; exact (Same.refl h).push _
  clear e3
  (refine Go.run (g:=?_))
  refine GoR.call rfl rfl rfl rfl rfl rfl rfl (((known05 _).args (by first | rfl | (simp; fail_if_success focus skip) | (simp; omega) | (congr 2; omega))).mono ?_)
  rintro _ h3' ⟨rfl, rfl⟩ -
  (refine Go.run (g:=?_))
  refine GoR.call rfl rfl rfl rfl rfl rfl rfl (((ctake_spec k f a cap zs hk hf (by omega) _ (hz.same S3)).args (by first | rfl | (simp; fail_if_success focus skip) | (simp; omega) | (congr 2; omega))).mono ?_)
  intro v4 h4 hv4 s4
  have S4 := S3.trans s4
  have hr := rtake_spec k f a cap zs hk hf (by omega)
  cases htk : tkP k f zs with
  | none =>
    rw [htk] at hv4 hr
    simp only [TakeR] at hv4 hr
    subst hv4
    (have nn := (s4).1; try simp only [AHeap.n_push, AHeap.n_put] at nn)
    have G4 := s4.get G0
    unfold Ck.none Sl.nil
    unfold Ck.none Sl.nil at hr
    (refine Go.run (g:=?_))
    refine GoR.name ?_
    intro h5 e5
    have s5 : Same h4 h5 := by subst e5; exact ((Same.refl h4).push _).put (Nat.le_refl _) _
    have n5 : h5.n = h4.n + 1 := by subst e5; rfl
    have g5 : h5.get h4.n = some (.cells (⟨0, 0, 0, 0, 0, 0, 0, 0, 0, 0, ⟨none, 0, 0⟩, ⟨none, 0, 0⟩, ⟨none, 0, 0⟩, ⟨none, 0, 0⟩, ⟨none, 0, 0⟩⟩ : Ck).cs 57) := by subst e5; exact AHeap.get_put_same _ (by simp) _
    clear e5
    unfold Ck.cs at g5
    refine GoR.call rfl rfl rfl rfl rfl rfl rfl (((hr _ (hz.same (S4.trans s5))).args (by first | rfl | (simp; fail_if_success focus skip) | (simp; omega) | (congr 2; omega))).mono ?_)
    rintro _ h6 rfl s6
    (have nn := (s6).1; try simp only [AHeap.n_push, AHeap.n_put] at nn)
    have g6 := s6.get g5
    (refine Go.run (g:=?_))
    refine GoR.call rfl rfl rfl rfl rfl rfl rfl (((same5_spec (⟨0, 0, 0, 0, 0, 0, 0, 0, 0, 0, ⟨none, 0, 0⟩, ⟨none, 0, 0⟩, ⟨none, 0, 0⟩, ⟨none, 0, 0⟩, ⟨none, 0, 0⟩⟩ : Ck) (⟨0, 0, 0, 0, 0, 0, 0, 0, 0, 0, ⟨none, 0, 0⟩, ⟨none, 0, 0⟩, ⟨none, 0, 0⟩, ⟨none, 0, 0⟩, ⟨none, 0, 0⟩⟩ : Ck) ⟨[], [], [], [], []⟩ ⟨[], [], [], [], []⟩ _ (COk.base _ 0 0 (by decide) (by decide)) (COk.base _ 0 0 (by decide) (by decide)) rfl (Nat.zero_le _) (Nat.zero_le _) (Nat.zero_le _) (Nat.zero_le _)).args (by first | rfl | (simp; fail_if_success focus skip) | (simp; omega) | (congr 2; omega))).mono ?_)
    rintro _ h7 rfl s7
    (refine Go.run (g:=?_))
    (first|refine Go.finT (by first|exact .inr rfl|exact .inl rfl) rfl ?_|refine Go.fin1 (by first|exact .inr rfl|exact .inl rfl) rfl (hq:=?_))
    rfl
  | some p =>
    obtain ⟨z1, z2, z3, z4⟩ := tkP_small htk
    rw [htk] at hv4 hr
    simp only [TakeR] at hv4 hr
    obtain ⟨c, d, rfl, ok, hp⟩ := hv4
    (have nn := (s4).1; try simp only [AHeap.n_push, AHeap.n_put] at nn)
    have G4 := s4.get G0
    (refine Go.run (g:=?_))
    refine GoR.name ?_
    intro h5 e5
    have s5 : Same h4 h5 := by subst e5; exact ((Same.refl h4).push _).put (Nat.le_refl _) _
    have n5 : h5.n = h4.n + 1 := by subst e5; rfl
    have g5 : h5.get h4.n = some (.cells c.cs 57) := by subst e5; exact AHeap.get_put_same _ (by simp) _
    clear e5
    unfold Ck.cs at g5
    refine GoR.call rfl rfl rfl rfl rfl rfl rfl (((hr _ (hz.same (S4.trans s5))).args (by first | rfl | (simp; fail_if_success focus skip) | (simp; omega) | (congr 2; omega))).mono ?_)
    rintro _ h6 ⟨c', d', rfl, ok', hp'⟩ s6
    (have nn := (s6).1; try simp only [AHeap.n_push, AHeap.n_put] at nn)
    have g6 := s6.get g5
    (refine Go.run (g:=?_))
    refine GoR.name ?_
    intro h7 e7
    have s7 : Same h6 h7 := by subst e7; exact ((Same.refl h6).push _).put (Nat.le_refl _) _
    clear e7
    have okA := ((ok.same s5).same s6).same s7
    have okB := ok'.same s7
    have w1 : c.A.n ≤ 3 := by rw [← ok.al]; rw [← hp] at z1; exact z1
    have w2 : c.G.n ≤ 64 := by rw [← ok.gl]; rw [← hp] at z2; exact z2
    have w3 : c.U.n ≤ 16 := by rw [← ok.ul]; rw [← hp] at z3; exact z3
    have w4 : c.C.n ≤ 5000 := by rw [← ok.cl]; rw [← hp] at z4; simp only [pcOf, List.length_map] at z4; omega
    refine GoR.call rfl rfl rfl rfl rfl rfl rfl (((same5_spec c c' d d' _ okA okB (hp.trans hp'.symm) (by omega) (by omega) (by omega) (by omega)).args (by first | rfl | (simp; fail_if_success focus skip) | (simp; omega) | (congr 2; omega))).mono ?_)
    rintro _ h8 rfl s8
    (refine Go.run (g:=?_))
    (first|refine Go.finT (by first|exact .inr rfl|exact .inl rfl) rfl ?_|refine Go.fin1 (by first|exact .inr rfl|exact .inl rfl) rfl (hq:=?_))
    rfl
end Go.Proofs.Ytmelgnpogdilgaa
namespace Go.Proofs.Ytmelgnpogdilgaa
theorem u8b : Try.prog.underlying 5 = some (.int .u8) := by kernel_rfl
theorem u16b : Try.prog.underlying 22 = some (.int .u16) := by kernel_rfl
theorem bytesB : Try.prog.underlying 23 = some (.slice 5) := by kernel_rfl
theorem tlv_of {h : AHeap} {H : Type} {cs : List Value} {d : DataW H} (r : ARd Try.prog h 25 cs d) : ∃ (kind flags : Nat) (a : Option Addr) (cap : Nat) (zs : List UInt8), cs = [.int .u16 kind, .int .u8 flags, .slice a zs.length cap] ∧ kind < 65536 ∧ flags < 256 ∧ Rv Try.prog h 1 a zs.length cap (zs.map bv) ∧ cap ≤ maxLen := by
  obtain ⟨hl, hf⟩ := r.field Try.underlying25
  rw [show Try.prog.cellsOf 25 = 3 from by kernel_rfl] at hl
  match cs, hl with
  | [c0, c1, c2], _ =>
    obtain ⟨d0, r0⟩ := hf 0 22 0 1 rfl (by kernel_rfl)
    obtain ⟨d1, r1⟩ := hf 1 5 1 1 rfl (by kernel_rfl)
    obtain ⟨d2, r2⟩ := hf 2 23 2 1 rfl (by kernel_rfl)
    obtain ⟨kind, e0, hk⟩ := r0.u_inv rfl u16b
    obtain ⟨flags, e1, hfl⟩ := r1.u_inv rfl u8b
    obtain ⟨a, cap, zs, e2, hR, hm⟩ := r2.bytes bytesB u8b (by kernel_rfl)
    simp at e0 e1 e2
    subst e0 e1 e2
    exact ⟨kind, flags, a, cap, zs, rfl, hk, hfl, hR, hm⟩
end Go.Proofs.Ytmelgnpogdilgaa
namespace Go.Proofs.Ytmelgnpogdilgaa
open Go.ChangeShapes Go.WideShapes Go.ChangeAt Go.RowKit
set_option maxRecDepth 100000
theorem plainTlv5 : plainB Try.prog 3 25 = true := by kernel_rfl
theorem chunkTakesWalk {H : Type} {enc : TypeId × Value → H} {base : Nat} {d0 : DataW H} {p0 : List MemPlace} (v0 : Value) (W : World) (o0 : Value.okWide Try.prog W .any base 25 v0) (h0 : DataW.Trod enc Try.prog W 0 (fun _ => true) true 25 v0 d0 p0) : Calls Try.prog 10 #[v0] W fun e w' => e = .returned (.bool true) ∧ Below W.heap.size W w' := by
  obtain ⟨c1, rfl, hsz⟩ := okWide_struct Try.underlying25 o0
  obtain ⟨m, h, cs, I, _, _, hA, hR, hl⟩ := imp_val plainTlv5 h0 (Im.empty Try.prog W)
  have hv := vrel_agg hA
  obtain ⟨kind, flags, a, cap, zs, rfl, hk, hf, hz, hm⟩ := tlv_of hR
  exact calls_imp noGlobals I rfl (chunkTakes_spec kind flags a cap hk hf zs h hz) (ARel.single hv)
end Go.Proofs.Ytmelgnpogdilgaa