/- What the law leans on, part 7. No conditions. -/
import Derived.Test.YtjpegoigipbmiaaRows
import Derived.JoinedCond
import Derived.ProofKit
import Derived.OpenShut
import Derived.ChangeOld
import Derived.Test.YtjpegoigipbmiaaPktSizesPart6
set_option linter.unusedVariables false
set_option linter.unusedSimpArgs false
namespace Go.Proofs.Ytjpegoigipbmiaa
set_option maxRecDepth 100000
attribute [local irreducible] Go GoR GoL
theorem allShort_take {l : List CV} {i : Nat} (h : allShort (l.take i) = false) : allShort l = false := by
  have e := List.take_append_drop i l
  rw [← e]
  unfold allShort at h ⊢
  rw [List.all_append, h, Bool.false_and]
set_option maxHeartbeats 8000000 in
theorem rvalue_spec (c : Ck) (d : CD) (h : AHeap) (ok : COk h c d) (hmf : MayF c) (hD : c.D.n ≤ 1000000000) (hC : c.C.n ≤ 2000000) : CallS Try.prog [] 39 [c.v] h fun v h' => ∃ b cap x e, v = .tuple #[.slice b x.length cap, .int .i64 (e : Nat)] ∧ Sv h' 5 1 b x.length cap (x.map bv) ∧ Own h.n b ∧ ((e = 0 ∧ cval c d = some x) ∨ (e = 3 ∧ cval c d = none)) ∧ x.length ≤ 140737488355328 := by
  obtain ⟨-, mA, mG, mU, -⟩ := hmf
  have tsn := ok.tsn
  have tag := ok.tag
  have rwnd := ok.rwnd
  have ppid := ok.ppid
  have hout := ok.out
  have hinn := ok.inn
  have hsid := ok.sid
  have hssn := ok.ssn
  unfold Ck.v
  (refine CallS.of1 Try.func39 rfl Try.ntmps39 Try.results39 rfl ?_)
  (iterate 5 (first|refine GoR.end ?_|(refine GoR.gd rfl ?_;first|refine GoR.wanted' rfl rfl rfl rfl (g:=?_)|refine GoR.unwanted' rfl rfl rfl rfl (hd:=rfl) (hN:=rfl) (g:=?_)|refine GoR.unwantedU rfl rfl rfl rfl rfl rfl ?_)|(refine GoR.kk 0 rfl ?_;first|refine GoR.move rfl rfl rfl rfl rfl ?_|refine GoR.assign rfl rfl rfl rfl rfl ?_)|(refine GoR.kk 1 rfl ?_;first|refine GoR.load' rfl rfl rfl rfl rfl (g:=?_)|refine GoR.loadA' rfl rfl rfl rfl rfl (hv:=rfl) (g:=?_)|refine GoR.loadV' rfl rfl rfl rfl rfl (g:=?_)|refine GoR.loadVN' rfl rfl rfl rfl rfl (g:=?_))|(refine GoR.kk 2 rfl ?_;first|refine GoR.store' rfl rfl rfl rfl rfl (hl:=rfl) (h1:=rfl) (h3:=rfl) (g:=?_))|(refine GoR.kk 3 rfl ?_;first|refine GoR.fieldAddr rfl rfl rfl rfl rfl ?_|refine GoR.indexN' rfl rfl rfl rfl rfl rfl (g:=?_)|refine GoR.indexNs' rfl rfl rfl rfl rfl rfl (g:=?_)|refine GoR.indexV' rfl rfl rfl rfl rfl rfl (g:=?_)|refine GoR.indexA' rfl rfl rfl rfl rfl rfl (g:=?_)|refine GoR.fieldV' rfl rfl rfl rfl rfl (g:=?_))|(refine GoR.kk 4 rfl ?_;first|refine GoR.eq rfl rfl rfl rfl rfl rfl ?_|refine GoR.ne rfl rfl rfl rfl rfl rfl ?_|refine GoR.lt rfl rfl rfl rfl rfl rfl ?_|refine GoR.le rfl rfl rfl rfl rfl rfl ?_|refine GoR.gt rfl rfl rfl rfl rfl rfl ?_|refine GoR.ge rfl rfl rfl rfl rfl rfl ?_|refine GoR.addN' rfl rfl rfl rfl rfl rfl (g:=?_)|refine GoR.subN' rfl rfl rfl rfl rfl rfl (g:=?_)|refine GoR.add' rfl rfl rfl rfl rfl rfl (g:=?_)|refine GoR.sub' rfl rfl rfl rfl rfl rfl (g:=?_)|refine GoR.addM' rfl rfl rfl rfl rfl rfl (g:=?_)|refine GoR.subM' rfl rfl rfl rfl rfl rfl (g:=?_)|refine GoR.mulM' rfl rfl rfl rfl rfl rfl (g:=?_)|refine GoR.shrN rfl rfl rfl rfl rfl rfl rfl ?_|refine GoR.structEq rfl rfl rfl rfl rfl rfl (by rfl) (by rfl) ?_|refine GoR.structNe rfl rfl rfl rfl rfl rfl (by rfl) (by rfl) ?_|refine GoR.strEq rfl rfl rfl rfl rfl rfl ?_|refine GoR.strNe rfl rfl rfl rfl rfl rfl ?_|refine GoR.remN' rfl rfl rfl rfl rfl rfl (g:=?_)|refine GoR.quoN' rfl rfl rfl rfl rfl rfl (g:=?_)|refine GoR.shlN' rfl rfl rfl rfl rfl rfl rfl (g:=?_)|refine GoR.orN' rfl rfl rfl rfl rfl rfl (g:=?_))|(refine GoR.kk 5 rfl ?_;first|refine GoR.len rfl rfl rfl rfl rfl ?_|refine GoR.lenStr rfl rfl rfl rfl rfl ?_|refine GoR.capB rfl rfl rfl rfl rfl ?_)|(refine GoR.kk 7 rfl ?_;first|refine GoR.pickE' rfl rfl rfl rfl rfl (hx:=rfl) (hy:=rfl) (g:=?_)|refine GoR.pickN' rfl rfl rfl rfl rfl (hx:=rfl) (hy:=rfl) (g:=?_)|refine GoR.pickB rfl rfl rfl rfl rfl rfl rfl ?_)|(refine GoR.kk 8 rfl ?_;first|refine GoR.boxA rfl rfl rfl rfl rfl ?_|refine GoR.boxS rfl rfl rfl rfl rfl rfl ?_|refine GoR.alloc rfl rfl rfl rfl ?_)|(refine GoR.kk 9 rfl ?_;first|refine GoR.strV' rfl rfl rfl rfl rfl (g:=?_)|refine GoR.conv_u8 rfl rfl rfl rfl rfl ?_|refine GoR.convW' rfl rfl rfl rfl rfl (g:=?_)|refine GoR.conv_u16 rfl rfl rfl rfl rfl ?_|refine GoR.conv_u32 rfl rfl rfl rfl rfl ?_)|(refine GoR.kk 10 rfl ?_;first|refine GoR.build' rfl rfl rfl rfl rfl rfl (g:=?_))|(refine GoR.kk 11 rfl ?_;first|refine GoR.extract rfl rfl rfl rfl rfl rfl ?_|refine GoR.not rfl rfl rfl rfl rfl ?_|refine GoR.nilCheck rfl rfl rfl rfl rfl ?_|refine GoR.nilCheckF rfl rfl rfl rfl rfl ?_|refine GoR.makeFunc rfl rfl rfl rfl rfl rfl ?_)|(refine Go.kk 0 rfl ?_;refine Go.seq ?_)|(refine Go.kk 1 rfl ?_;refine Go.region (by kernel_rfl) rfl ?_)|(refine Go.kk 2 rfl ?_;refine Go.drawnQ rfl (by kernel_rfl) rfl ?_)|(refine Go.kk 3 rfl ?_;first|refine Go.cond_t' rfl (g:=?_)|refine Go.cond_f' rfl (g:=?_))|(refine Go.kk 4 rfl ?_;refine Go.block ?_)|(refine Go.kk 5 rfl ?_;first|refine Go.skip ?_|refine Go.ret ?_|refine Go.exit ?_|refine Go.scope ?_)|refine Go.leave_normal ?_|refine Go.leave_same ?_|refine Go.leave_ret ?_|refine Go.ret_code ?_|refine Go.exit_code ?_|refine Go.leave_other rfl ?_|refine Go.sc_normal ?_|refine Go.sc_ret ?_|refine Go.sc_exit ?_|refine Go.exit_back ?_|refine Go.ret_back ?_))
  refine GoR.name ?_
  intro h3 e3
  have G3 : h3.get h.n = some (.cells c.cs 43) := by
    subst e3
    exact AHeap.get_push_same h _
  have n3 : h3.n = h.n + 1 := by subst e3; rfl
  have S3 : Same h h3 := by subst e3; exact (Same.refl h).push _
  clear e3
  unfold Ck.cs at G3
  have ok3 := ok.same S3
  have w0 : VS h3 h3 [] none 0 := ⟨Same.refl _, .nil, Own.nil _⟩
  rcases (show c.k = 0 ∨ c.k = 1 ∨ c.k = 2 ∨ c.k = 3 ∨ c.k = 6 ∨ c.k = 9 ∨ c.k = 7 ∨ (c.k ≠ 0 ∧ c.k ≠ 1 ∧ c.k ≠ 2 ∧ c.k ≠ 3 ∧ c.k ≠ 6 ∧ c.k ≠ 9 ∧ c.k ≠ 7) by omega) with hk | hk | hk | hk | hk | hk | hk | ⟨k0, k1, k2, k3, k6, k9, k7⟩
  · have hcv : cval c d = some (beB 4 c.tsn ++ beB 2 c.sid ++ beB 2 c.ssn ++ beB 4 c.ppid ++ d.data) := by unfold cval; rw [hk]; rfl
    (refine Go.run (g:=?_))
    refine Go.loud (by kernel_rfl) rfl ?_
    (refine Go.runL (g:=?_))
    refine GoL.callS rfl rfl rfl rfl rfl rfl rfl (((rb_spec c.tsn 4 (by omega) (by decide) _).args (by first | rfl | (simp; fail_if_success focus skip) | (simp; omega) | (congr 2; omega))).mono ?_)
    rintro _ ha1 va1 sa1
    obtain ⟨ba1, ca1, rfl, wa1⟩ := VS.of (Same.refl h3) va1 sa1
    have na1 := sa1.1
    have Ga1 := sa1.get G3
    (refine Go.runL (g:=?_))
    refine GoL.callS rfl rfl rfl rfl rfl rfl rfl (((rb_spec c.sid 2 (by omega) (by decide) _).args (by first | rfl | (simp; fail_if_success focus skip) | (simp; omega) | (congr 2; omega))).mono ?_)
    rintro _ hb1 ⟨bb1, cb1, rfl, vb1, ob1⟩ sb1
    have nb1 := sb1.1
    (refine Go.runL (g:=?_))
    refine GoL.appendV rfl rfl rfl rfl rfl rfl (wa1.sv.same sb1) (Sv.rv vb1) (wa1.wr (by omega)) (by simp [beB_length]) (by simp [beB_length]) (by simp [bv, Value.oneCell']) ?_
    intro bc1 cc1 hc1 rd1 wr1 hwr1 hrd1 vc1 kc1 oc1
    have nc1 := kc1.1
    have w1 := wa1.append sb1 vc1 kc1 oc1 rfl
    (refine Go.runL (g:=?_))
    refine GoL.end_ (hl := by (simp only [List.nil_append, List.cons_append]); repeat (first | exact loudP.nil | refine loudP.none ?_ | refine loudP.new (fun _ hb => absurd hb List.not_mem_nil) ?_ | refine loudP.row (by repeat (first | exact loudRowP.nil | refine loudRowP.none ?_ | refine loudRowP.bef (by decide +kernel) ?_)) ?_)) ?_
    rw [← List.length_append]
    have G1 := w1.same.get G3
    have nn1 := w1.same.1
    (refine Go.run (g:=?_))
    refine GoR.call rfl rfl rfl rfl rfl rfl rfl (((rb_spec c.ssn 2 (by omega) (by decide) _).args (by first | rfl | (simp; fail_if_success focus skip) | (simp; omega) | (congr 2; omega))).mono ?_)
    rintro _ hb2 ⟨bb2, cb2, rfl, vb2, ob2⟩ sb2
    have nb2 := sb2.1
    (refine Go.run (g:=?_))
    refine GoR.appendV rfl rfl rfl rfl rfl rfl (w1.sv.same sb2) (Sv.rv vb2) (w1.wr (by omega)) (by simp [beB_length]) (by simp [beB_length]) (by simp [bv, Value.oneCell']) ?_
    intro bc2 cc2 hc2 vc2 kc2 oc2
    have nc2 := kc2.1
    have w2 := w1.append sb2 vc2 kc2 oc2 rfl
    rw [← List.length_append]
    have G2 := w2.same.get G3
    have nn2 := w2.same.1
    (refine Go.run (g:=?_))
    refine GoR.call rfl rfl rfl rfl rfl rfl rfl (((rb_spec c.ppid 4 (by omega) (by decide) _).args (by first | rfl | (simp; fail_if_success focus skip) | (simp; omega) | (congr 2; omega))).mono ?_)
    rintro _ hb3 ⟨bb3, cb3, rfl, vb3, ob3⟩ sb3
    have nb3 := sb3.1
    (refine Go.run (g:=?_))
    refine GoR.appendV rfl rfl rfl rfl rfl rfl (w2.sv.same sb3) (Sv.rv vb3) (w2.wr (by omega)) (by simp [beB_length]) (by simp [beB_length]) (by simp [bv, Value.oneCell']) ?_
    intro bc3 cc3 hc3 vc3 kc3 oc3
    have nc3 := kc3.1
    have w3 := w2.append sb3 vc3 kc3 oc3 rfl
    rw [← List.length_append]
    have Gq3 := w3.same.get G3
    have nn3 := w3.same.1
    (refine Go.run (g:=?_))
    refine GoR.appendV rfl rfl rfl rfl rfl rfl w3.sv (ok3.dv.same w3.same) (w3.wr (by omega)) (by simp [beB_length]; omega) (by simp [beB_length]; omega) (by simp [bv, Value.oneCell']) ?_
    intro bc4 cc4 hc4 vc4 kc4 oc4
    have nc4 := kc4.1
    have w4 := w3.append (Same.refl _) vc4 kc4 oc4 (by rw [ok.dl])
    (refine Go.run (g:=?_))
    (first|refine Go.finT (by first|exact .inr rfl|exact .inl rfl) rfl ?_|refine Go.fin1 (by first|exact .inr rfl|exact .inl rfl) rfl (hq:=?_))
    have hdl := ok.dl
    exact ⟨bc4, cc4, _, 0, by first | (simp only [List.length_append, ok.dl]; done) | (simp only [List.length_append, ok.dl]; rfl), w4.sv, w4.own.mono (by omega), .inl ⟨rfl, hcv⟩, by simp [beB_length]; omega⟩
  · (refine Go.run (g:=?_))
    refine Go.loud (by kernel_rfl) rfl ?_
    (refine Go.runL (g:=?_))
    refine GoL.callS rfl rfl rfl rfl rfl rfl rfl (((rb_spec c.tag 4 (by omega) (by decide) _).args (by first | rfl | (simp; fail_if_success focus skip) | (simp; omega) | (congr 2; omega))).mono ?_)
    rintro _ ha1 va1 sa1
    obtain ⟨ba1, ca1, rfl, wa1⟩ := VS.of (Same.refl h3) va1 sa1
    have na1 := sa1.1
    have Ga1 := sa1.get G3
    (refine Go.runL (g:=?_))
    refine GoL.callS rfl rfl rfl rfl rfl rfl rfl (((rb_spec c.rwnd 4 (by omega) (by decide) _).args (by first | rfl | (simp; fail_if_success focus skip) | (simp; omega) | (congr 2; omega))).mono ?_)
    rintro _ hb1 ⟨bb1, cb1, rfl, vb1, ob1⟩ sb1
    have nb1 := sb1.1
    (refine Go.runL (g:=?_))
    refine GoL.appendV rfl rfl rfl rfl rfl rfl (wa1.sv.same sb1) (Sv.rv vb1) (wa1.wr (by omega)) (by simp [beB_length]) (by simp [beB_length]) (by simp [bv, Value.oneCell']) ?_
    intro bc1 cc1 hc1 rd1 wr1 hwr1 hrd1 vc1 kc1 oc1
    have nc1 := kc1.1
    have w1 := wa1.append sb1 vc1 kc1 oc1 rfl
    (refine Go.runL (g:=?_))
    refine GoL.end_ (hl := by (simp only [List.nil_append, List.cons_append]); repeat (first | exact loudP.nil | refine loudP.none ?_ | refine loudP.new (fun _ hb => absurd hb List.not_mem_nil) ?_ | refine loudP.row (by repeat (first | exact loudRowP.nil | refine loudRowP.none ?_ | refine loudRowP.bef (by decide +kernel) ?_)) ?_)) ?_
    rw [← List.length_append]
    have G1 := w1.same.get G3
    have nn1 := w1.same.1
    (refine Go.run (g:=?_))
    refine GoR.call rfl rfl rfl rfl rfl rfl rfl (((rb_spec c.out 2 (by omega) (by decide) _).args (by first | rfl | (simp; fail_if_success focus skip) | (simp; omega) | (congr 2; omega))).mono ?_)
    rintro _ hb2 ⟨bb2, cb2, rfl, vb2, ob2⟩ sb2
    have nb2 := sb2.1
    (refine Go.run (g:=?_))
    refine GoR.appendV rfl rfl rfl rfl rfl rfl (w1.sv.same sb2) (Sv.rv vb2) (w1.wr (by omega)) (by simp [beB_length]) (by simp [beB_length]) (by simp [bv, Value.oneCell']) ?_
    intro bc2 cc2 hc2 vc2 kc2 oc2
    have nc2 := kc2.1
    have w2 := w1.append sb2 vc2 kc2 oc2 rfl
    rw [← List.length_append]
    have G2 := w2.same.get G3
    have nn2 := w2.same.1
    (refine Go.run (g:=?_))
    refine GoR.call rfl rfl rfl rfl rfl rfl rfl (((rb_spec c.inn 2 (by omega) (by decide) _).args (by first | rfl | (simp; fail_if_success focus skip) | (simp; omega) | (congr 2; omega))).mono ?_)
    rintro _ hb3 ⟨bb3, cb3, rfl, vb3, ob3⟩ sb3
    have nb3 := sb3.1
    (refine Go.run (g:=?_))
    refine GoR.appendV rfl rfl rfl rfl rfl rfl (w2.sv.same sb3) (Sv.rv vb3) (w2.wr (by omega)) (by simp [beB_length]) (by simp [beB_length]) (by simp [bv, Value.oneCell']) ?_
    intro bc3 cc3 hc3 vc3 kc3 oc3
    have nc3 := kc3.1
    have w3 := w2.append sb3 vc3 kc3 oc3 rfl
    rw [← List.length_append]
    have Gq3 := w3.same.get G3
    have nn3 := w3.same.1
    (refine Go.run (g:=?_))
    refine GoR.call rfl rfl rfl rfl rfl rfl rfl (((rb_spec c.tsn 4 (by omega) (by decide) _).args (by first | rfl | (simp; fail_if_success focus skip) | (simp; omega) | (congr 2; omega))).mono ?_)
    rintro _ hb4 ⟨bb4, cb4, rfl, vb4, ob4⟩ sb4
    have nb4 := sb4.1
    (refine Go.run (g:=?_))
    refine GoR.appendV rfl rfl rfl rfl rfl rfl (w3.sv.same sb4) (Sv.rv vb4) (w3.wr (by omega)) (by simp [beB_length]) (by simp [beB_length]) (by simp [bv, Value.oneCell']) ?_
    intro bc4 cc4 hc4 vc4 kc4 oc4
    have nc4 := kc4.1
    have w4 := w3.append sb4 vc4 kc4 oc4 rfl
    rw [← List.length_append]
    have G4 := w4.same.get G3
    have nn4 := w4.same.1
    have hz3l : (beB 4 c.tag ++ beB 4 c.rwnd ++ beB 2 c.out ++ beB 2 c.inn ++ beB 4 c.tsn).length = 16 := by simp [beB_length]
    have hib : initB c d = (beB 4 c.tag ++ beB 4 c.rwnd ++ beB 2 c.out ++ beB 2 c.inn ++ beB 4 c.tsn) ++ addrsB d.addrs := rfl
    generalize (beB 4 c.tag ++ beB 4 c.rwnd ++ beB 2 c.out ++ beB 2 c.inn ++ beB 4 c.tsn) = hdr at w4 hz3l hib ⊢
    (refine Go.run (g:=?_))
    refine Go.loop (α := Nat × Option Addr × Nat × AHeap) (fun x => [(6, .int .i64 x.1), (1, .pointer (some ⟨h.n, 0, none⟩)), (4, .slice x.2.1 (hdr ++ addrsB (d.addrs.take x.1)).length x.2.2.1), (5, .int .i64 0)]) (fun _ => []) (fun x => x.2.2.2)
      (fun x => x.1 ≤ c.A.n ∧ VS h3 x.2.2.2 (hdr ++ addrsB (d.addrs.take x.1)) x.2.1 x.2.2.1) (fun x => c.A.n - x.1) (0, bc4, cc4, hc4) ?_ ?_ rfl rfl ?_
    · exact ⟨Nat.zero_le _, by simpa [addrsB] using w4⟩
    · exact ⟨rfl, rfl, by simp [addrsB]; rfl, rfl, trivial⟩
    clear w0 w1 w2 w3 w4 G1 G2 G4
    rintro ⟨i, b6, c6, h6⟩ ⟨hi, w6⟩
    simp only at hi w6 ⊢
    have nn6 := w6.same.1
    have G6 := w6.same.get G3
    rcases Nat.lt_or_ge i c.A.n with i0 | i0
    · have i1 : i < d.addrs.length := by rw [ok.al]; exact i0
      have c0 := w32s_get i1
      have hx := ok.ab _ (List.getElem_mem i1)
      have hbe : i < (w32s d.addrs).length := by rw [w32s_len]; exact i1
      have hA6 := ok3.av.same w6.same
      have e1 : addrsB (d.addrs.take (i + 1)) = addrsB (d.addrs.take i) ++ pB 5 (beB 4 d.addrs[i]) := by
        unfold addrsB
        rw [flat_snoc _ i1, show pB 5 (beB 4 d.addrs[i]) = tlvB false 5 0 (beB 4 d.addrs[i]) from by unfold pB; rw [if_pos (by rw [beB_length]; decide)]]
      have hl6 : (hdr ++ addrsB (d.addrs.take i)).length ≤ 1000 := by rw [List.length_append, addrsB_len, hz3l, List.length_take]; omega
      generalize d.addrs[i] = x at *
      (refine Go.run (g:=?_))
      refine GoR.call rfl rfl rfl rfl rfl rfl rfl (((rb_spec x 4 (by omega) (by decide) _).args (by first | rfl | (simp; fail_if_success focus skip) | (simp; omega) | (congr 2; omega))).mono ?_)
      rintro _ hb7 ⟨bb7, cb7, rfl, vb7, ob7⟩ sb7
      have nb7 := sb7.1
      (refine Go.run (g:=?_))
      refine GoR.callW rfl rfl rfl rfl rfl rfl rfl (((rparam_spec _ _ _ _ _ (w6.to sb7) 5 (by decide) (beB 4 x) (by rw [beB_length]; decide) (by omega) _ _ (Sv.rv vb7)).args (by first | rfl | (simp; fail_if_success focus skip) | (simp; omega) | (congr 2; omega))).mono ?_)
      rintro _ hh9 ⟨bb9, cc9, rfl, w9⟩ -
      refine ⟨(w6.to sb7).wr (by omega), ?_⟩
      rw [if_pos (by rw [beB_length]; decide)]
      have nn9 := w9.same.1
      (refine Go.run (g:=?_))
      exact Go.again (i + 1, bb9, cc9, hh9) ⟨by simp only; omega, by simp only; rw [e1, ← List.append_assoc]; exact w9⟩ (by simp only; omega) ⟨rfl, rfl, by simp only; rw [e1, ← List.append_assoc]; rfl, rfl, trivial⟩ rfl rfl
    have hie : i = c.A.n := by omega
    subst hie
    rw [← ok.al, List.take_length, ← hib] at w6
    rw [show hdr ++ addrsB (d.addrs.take c.A.n) = initB c d by rw [← ok.al, List.take_length, hib]]
    have hil : (initB c d).length = 16 + c.A.n * 8 := by rw [hib, List.length_append, addrsB_len, hz3l, ok.al]
    have hcv : cval c d = some (initB c d) := by unfold cval; rw [hk]; rfl
    (refine Go.run (g:=?_))
    (first|refine Go.finT (by first|exact .inr rfl|exact .inl rfl) rfl ?_|refine Go.fin1 (by first|exact .inr rfl|exact .inl rfl) rfl (hq:=?_))
    exact ⟨b6, c6, _, 0, rfl, w6.sv, w6.own.mono (by omega), .inl ⟨rfl, hcv⟩, by show (initB c d).length ≤ _; omega⟩
  · (refine Go.run (g:=?_))
    refine Go.loud (by kernel_rfl) rfl ?_
    (refine Go.runL (g:=?_))
    refine GoL.callS rfl rfl rfl rfl rfl rfl rfl (((rb_spec c.tag 4 (by omega) (by decide) _).args (by first | rfl | (simp; fail_if_success focus skip) | (simp; omega) | (congr 2; omega))).mono ?_)
    rintro _ ha1 va1 sa1
    obtain ⟨ba1, ca1, rfl, wa1⟩ := VS.of (Same.refl h3) va1 sa1
    have na1 := sa1.1
    have Ga1 := sa1.get G3
    (refine Go.runL (g:=?_))
    refine GoL.callS rfl rfl rfl rfl rfl rfl rfl (((rb_spec c.rwnd 4 (by omega) (by decide) _).args (by first | rfl | (simp; fail_if_success focus skip) | (simp; omega) | (congr 2; omega))).mono ?_)
    rintro _ hb1 ⟨bb1, cb1, rfl, vb1, ob1⟩ sb1
    have nb1 := sb1.1
    (refine Go.runL (g:=?_))
    refine GoL.appendV rfl rfl rfl rfl rfl rfl (wa1.sv.same sb1) (Sv.rv vb1) (wa1.wr (by omega)) (by simp [beB_length]) (by simp [beB_length]) (by simp [bv, Value.oneCell']) ?_
    intro bc1 cc1 hc1 rd1 wr1 hwr1 hrd1 vc1 kc1 oc1
    have nc1 := kc1.1
    have w1 := wa1.append sb1 vc1 kc1 oc1 rfl
    (refine Go.runL (g:=?_))
    refine GoL.end_ (hl := by (simp only [List.nil_append, List.cons_append]); repeat (first | exact loudP.nil | refine loudP.none ?_ | refine loudP.new (fun _ hb => absurd hb List.not_mem_nil) ?_ | refine loudP.row (by repeat (first | exact loudRowP.nil | refine loudRowP.none ?_ | refine loudRowP.bef (by decide +kernel) ?_)) ?_)) ?_
    rw [← List.length_append]
    have G1 := w1.same.get G3
    have nn1 := w1.same.1
    (refine Go.run (g:=?_))
    refine GoR.call rfl rfl rfl rfl rfl rfl rfl (((rb_spec c.out 2 (by omega) (by decide) _).args (by first | rfl | (simp; fail_if_success focus skip) | (simp; omega) | (congr 2; omega))).mono ?_)
    rintro _ hb2 ⟨bb2, cb2, rfl, vb2, ob2⟩ sb2
    have nb2 := sb2.1
    (refine Go.run (g:=?_))
    refine GoR.appendV rfl rfl rfl rfl rfl rfl (w1.sv.same sb2) (Sv.rv vb2) (w1.wr (by omega)) (by simp [beB_length]) (by simp [beB_length]) (by simp [bv, Value.oneCell']) ?_
    intro bc2 cc2 hc2 vc2 kc2 oc2
    have nc2 := kc2.1
    have w2 := w1.append sb2 vc2 kc2 oc2 rfl
    rw [← List.length_append]
    have G2 := w2.same.get G3
    have nn2 := w2.same.1
    (refine Go.run (g:=?_))
    refine GoR.call rfl rfl rfl rfl rfl rfl rfl (((rb_spec c.inn 2 (by omega) (by decide) _).args (by first | rfl | (simp; fail_if_success focus skip) | (simp; omega) | (congr 2; omega))).mono ?_)
    rintro _ hb3 ⟨bb3, cb3, rfl, vb3, ob3⟩ sb3
    have nb3 := sb3.1
    (refine Go.run (g:=?_))
    refine GoR.appendV rfl rfl rfl rfl rfl rfl (w2.sv.same sb3) (Sv.rv vb3) (w2.wr (by omega)) (by simp [beB_length]) (by simp [beB_length]) (by simp [bv, Value.oneCell']) ?_
    intro bc3 cc3 hc3 vc3 kc3 oc3
    have nc3 := kc3.1
    have w3 := w2.append sb3 vc3 kc3 oc3 rfl
    rw [← List.length_append]
    have Gq3 := w3.same.get G3
    have nn3 := w3.same.1
    (refine Go.run (g:=?_))
    refine GoR.call rfl rfl rfl rfl rfl rfl rfl (((rb_spec c.tsn 4 (by omega) (by decide) _).args (by first | rfl | (simp; fail_if_success focus skip) | (simp; omega) | (congr 2; omega))).mono ?_)
    rintro _ hb4 ⟨bb4, cb4, rfl, vb4, ob4⟩ sb4
    have nb4 := sb4.1
    (refine Go.run (g:=?_))
    refine GoR.appendV rfl rfl rfl rfl rfl rfl (w3.sv.same sb4) (Sv.rv vb4) (w3.wr (by omega)) (by simp [beB_length]) (by simp [beB_length]) (by simp [bv, Value.oneCell']) ?_
    intro bc4 cc4 hc4 vc4 kc4 oc4
    have nc4 := kc4.1
    have w4 := w3.append sb4 vc4 kc4 oc4 rfl
    rw [← List.length_append]
    have G4 := w4.same.get G3
    have nn4 := w4.same.1
    have hz3l : (beB 4 c.tag ++ beB 4 c.rwnd ++ beB 2 c.out ++ beB 2 c.inn ++ beB 4 c.tsn).length = 16 := by simp [beB_length]
    have hib : initB c d = (beB 4 c.tag ++ beB 4 c.rwnd ++ beB 2 c.out ++ beB 2 c.inn ++ beB 4 c.tsn) ++ addrsB d.addrs := rfl
    generalize (beB 4 c.tag ++ beB 4 c.rwnd ++ beB 2 c.out ++ beB 2 c.inn ++ beB 4 c.tsn) = hdr at w4 hz3l hib ⊢
    (refine Go.run (g:=?_))
    refine Go.loop (α := Nat × Option Addr × Nat × AHeap) (fun x => [(6, .int .i64 x.1), (1, .pointer (some ⟨h.n, 0, none⟩)), (4, .slice x.2.1 (hdr ++ addrsB (d.addrs.take x.1)).length x.2.2.1), (5, .int .i64 0)]) (fun _ => []) (fun x => x.2.2.2)
      (fun x => x.1 ≤ c.A.n ∧ VS h3 x.2.2.2 (hdr ++ addrsB (d.addrs.take x.1)) x.2.1 x.2.2.1) (fun x => c.A.n - x.1) (0, bc4, cc4, hc4) ?_ ?_ rfl rfl ?_
    · exact ⟨Nat.zero_le _, by simpa [addrsB] using w4⟩
    · exact ⟨rfl, rfl, by simp [addrsB]; rfl, rfl, trivial⟩
    clear w0 w1 w2 w3 w4 G1 G2 G4
    rintro ⟨i, b6, c6, h6⟩ ⟨hi, w6⟩
    simp only at hi w6 ⊢
    have nn6 := w6.same.1
    have G6 := w6.same.get G3
    rcases Nat.lt_or_ge i c.A.n with i0 | i0
    · have i1 : i < d.addrs.length := by rw [ok.al]; exact i0
      have c0 := w32s_get i1
      have hx := ok.ab _ (List.getElem_mem i1)
      have hbe : i < (w32s d.addrs).length := by rw [w32s_len]; exact i1
      have hA6 := ok3.av.same w6.same
      have e1 : addrsB (d.addrs.take (i + 1)) = addrsB (d.addrs.take i) ++ pB 5 (beB 4 d.addrs[i]) := by
        unfold addrsB
        rw [flat_snoc _ i1, show pB 5 (beB 4 d.addrs[i]) = tlvB false 5 0 (beB 4 d.addrs[i]) from by unfold pB; rw [if_pos (by rw [beB_length]; decide)]]
      have hl6 : (hdr ++ addrsB (d.addrs.take i)).length ≤ 1000 := by rw [List.length_append, addrsB_len, hz3l, List.length_take]; omega
      generalize d.addrs[i] = x at *
      (refine Go.run (g:=?_))
      refine GoR.call rfl rfl rfl rfl rfl rfl rfl (((rb_spec x 4 (by omega) (by decide) _).args (by first | rfl | (simp; fail_if_success focus skip) | (simp; omega) | (congr 2; omega))).mono ?_)
      rintro _ hb7 ⟨bb7, cb7, rfl, vb7, ob7⟩ sb7
      have nb7 := sb7.1
      (refine Go.run (g:=?_))
      refine GoR.callW rfl rfl rfl rfl rfl rfl rfl (((rparam_spec _ _ _ _ _ (w6.to sb7) 5 (by decide) (beB 4 x) (by rw [beB_length]; decide) (by omega) _ _ (Sv.rv vb7)).args (by first | rfl | (simp; fail_if_success focus skip) | (simp; omega) | (congr 2; omega))).mono ?_)
      rintro _ hh9 ⟨bb9, cc9, rfl, w9⟩ -
      refine ⟨(w6.to sb7).wr (by omega), ?_⟩
      rw [if_pos (by rw [beB_length]; decide)]
      have nn9 := w9.same.1
      (refine Go.run (g:=?_))
      exact Go.again (i + 1, bb9, cc9, hh9) ⟨by simp only; omega, by simp only; rw [e1, ← List.append_assoc]; exact w9⟩ (by simp only; omega) ⟨rfl, rfl, by simp only; rw [e1, ← List.append_assoc]; rfl, rfl, trivial⟩ rfl rfl
    have hie : i = c.A.n := by omega
    subst hie
    rw [← ok.al, List.take_length, ← hib] at w6
    rw [show hdr ++ addrsB (d.addrs.take c.A.n) = initB c d by rw [← ok.al, List.take_length, hib]]
    have hil : (initB c d).length = 16 + c.A.n * 8 := by rw [hib, List.length_append, addrsB_len, hz3l, ok.al]
    (refine Go.run (g:=?_))
    refine GoR.callW rfl rfl rfl rfl rfl rfl rfl (((rparam_spec _ _ _ _ _ w6 7 (by decide) d.data (by rw [ok.dl]; omega) (by omega) c.D.a c.D.cap (by rw [ok.dl]; exact ok3.dv.same w6.same)).args (by first | (rw [ok.dl]; done) | (rw [ok.dl]; rfl))).mono ?_)
    rintro _ hh9 ⟨bb9, cc9, rfl, w9⟩ -
    refine ⟨w6.wr (by omega), ?_⟩
    have hpl := pB_le 7 d.data
    rcases Nat.lt_or_ge 65531 d.data.length with g | g
    · rw [if_neg (by omega)]
      have hcv : cval c d = none := by unfold cval; rw [hk]; exact if_neg (by omega)
      (refine Go.run (g:=?_))
      (first|refine Go.finT (by first|exact .inr rfl|exact .inl rfl) rfl ?_|refine Go.fin1 (by first|exact .inr rfl|exact .inl rfl) rfl (hq:=?_))
      exact ⟨bb9, cc9, _, 3, rfl, w9.sv, w9.own.mono (by omega), .inr ⟨rfl, hcv⟩, by simp only [List.length_append]; omega⟩
    · rw [if_pos g]
      have hcv : cval c d = some (initB c d ++ pB 7 d.data) := by unfold cval; rw [hk]; exact if_pos g
      (refine Go.run (g:=?_))
      (first|refine Go.finT (by first|exact .inr rfl|exact .inl rfl) rfl ?_|refine Go.fin1 (by first|exact .inr rfl|exact .inl rfl) rfl (hq:=?_))
      exact ⟨bb9, cc9, _, 0, rfl, w9.sv, w9.own.mono (by omega), .inl ⟨rfl, hcv⟩, by simp only [List.length_append]; omega⟩
  · (refine Go.run (g:=?_))
    refine Go.loud (by kernel_rfl) rfl ?_
    (refine Go.runL (g:=?_))
    refine GoL.callS rfl rfl rfl rfl rfl rfl rfl (((rb_spec c.tsn 4 (by omega) (by decide) _).args (by first | rfl | (simp; fail_if_success focus skip) | (simp; omega) | (congr 2; omega))).mono ?_)
    rintro _ ha1 va1 sa1
    obtain ⟨ba1, ca1, rfl, wa1⟩ := VS.of (Same.refl h3) va1 sa1
    have na1 := sa1.1
    have Ga1 := sa1.get G3
    (refine Go.runL (g:=?_))
    refine GoL.callS rfl rfl rfl rfl rfl rfl rfl (((rb_spec c.rwnd 4 (by omega) (by decide) _).args (by first | rfl | (simp; fail_if_success focus skip) | (simp; omega) | (congr 2; omega))).mono ?_)
    rintro _ hb1 ⟨bb1, cb1, rfl, vb1, ob1⟩ sb1
    have nb1 := sb1.1
    (refine Go.runL (g:=?_))
    refine GoL.appendV rfl rfl rfl rfl rfl rfl (wa1.sv.same sb1) (Sv.rv vb1) (wa1.wr (by omega)) (by simp [beB_length]) (by simp [beB_length]) (by simp [bv, Value.oneCell']) ?_
    intro bc1 cc1 hc1 rd1 wr1 hwr1 hrd1 vc1 kc1 oc1
    have nc1 := kc1.1
    have w1 := wa1.append sb1 vc1 kc1 oc1 rfl
    (refine Go.runL (g:=?_))
    refine GoL.end_ (hl := by (simp only [List.nil_append, List.cons_append]); repeat (first | exact loudP.nil | refine loudP.none ?_ | refine loudP.new (fun _ hb => absurd hb List.not_mem_nil) ?_ | refine loudP.row (by repeat (first | exact loudRowP.nil | refine loudRowP.none ?_ | refine loudRowP.bef (by decide +kernel) ?_)) ?_)) ?_
    rw [← List.length_append]
    have G1 := w1.same.get G3
    have nn1 := w1.same.1
    (refine Go.run (g:=?_))
    refine GoR.call rfl rfl rfl rfl rfl rfl rfl (((rb_spec c.G.n 2 (by omega) (by decide) _).args (by first | rfl | (simp; fail_if_success focus skip) | (simp; omega) | (congr 2; omega))).mono ?_)
    rintro _ hb2 ⟨bb2, cb2, rfl, vb2, ob2⟩ sb2
    have nb2 := sb2.1
    (refine Go.run (g:=?_))
    refine GoR.appendV rfl rfl rfl rfl rfl rfl (w1.sv.same sb2) (Sv.rv vb2) (w1.wr (by omega)) (by simp [beB_length]) (by simp [beB_length]) (by simp [bv, Value.oneCell']) ?_
    intro bc2 cc2 hc2 vc2 kc2 oc2
    have nc2 := kc2.1
    have w2 := w1.append sb2 vc2 kc2 oc2 rfl
    rw [← List.length_append]
    have G2 := w2.same.get G3
    have nn2 := w2.same.1
    (refine Go.run (g:=?_))
    refine GoR.call rfl rfl rfl rfl rfl rfl rfl (((rb_spec c.U.n 2 (by omega) (by decide) _).args (by first | rfl | (simp; fail_if_success focus skip) | (simp; omega) | (congr 2; omega))).mono ?_)
    rintro _ hb3 ⟨bb3, cb3, rfl, vb3, ob3⟩ sb3
    have nb3 := sb3.1
    (refine Go.run (g:=?_))
    refine GoR.appendV rfl rfl rfl rfl rfl rfl (w2.sv.same sb3) (Sv.rv vb3) (w2.wr (by omega)) (by simp [beB_length]) (by simp [beB_length]) (by simp [bv, Value.oneCell']) ?_
    intro bc3 cc3 hc3 vc3 kc3 oc3
    have nc3 := kc3.1
    have w3 := w2.append sb3 vc3 kc3 oc3 rfl
    rw [← List.length_append]
    have Gq3 := w3.same.get G3
    have nn3 := w3.same.1
    have hz2l : (beB 4 c.tsn ++ beB 4 c.rwnd ++ beB 2 c.G.n ++ beB 2 c.U.n).length = 12 := by simp [beB_length]
    have hcv : cval c d = some (beB 4 c.tsn ++ beB 4 c.rwnd ++ beB 2 c.G.n ++ beB 2 c.U.n ++ gapsBy d.gaps ++ be4s d.dups) := by unfold cval; rw [hk]; rfl
    generalize (beB 4 c.tsn ++ beB 4 c.rwnd ++ beB 2 c.G.n ++ beB 2 c.U.n) = hdr at w3 hz2l hcv ⊢
    (refine Go.run (g:=?_))
    refine Go.loop (α := Nat × Option Addr × Nat × AHeap) (fun x => [(7, .int .i64 x.1), (1, .pointer (some ⟨h.n, 0, none⟩)), (4, .slice x.2.1 (hdr ++ gapsBy (d.gaps.take x.1)).length x.2.2.1), (5, .int .i64 0)]) (fun _ => []) (fun x => x.2.2.2)
      (fun x => x.1 ≤ c.G.n ∧ VS h3 x.2.2.2 (hdr ++ gapsBy (d.gaps.take x.1)) x.2.1 x.2.2.1) (fun x => c.G.n - x.1) (0, bc3, cc3, hc3) ?_ ?_ rfl rfl ?_
    · exact ⟨Nat.zero_le _, by simpa [gapsBy] using w3⟩
    · exact ⟨rfl, rfl, by simp [gapsBy]; rfl, rfl, trivial⟩
    clear w0 w1 w2 w3 G1 G2
    rintro ⟨i, b6, c6, h6⟩ ⟨hi, w6⟩
    simp only at hi w6 ⊢
    have nn6 := w6.same.1
    have G6 := w6.same.get G3
    rcases Nat.lt_or_ge i c.G.n with i0 | i0
    · have i1 : i < d.gaps.length := by rw [ok.gl]; exact i0
      have c0 := gcs_0 i1
      have c1 := gcs_1 i1
      have hx := ok.gb _ (List.getElem_mem i1)
      have hbe : i * 2 + 2 ≤ (gcs d.gaps).length := by rw [gcs_len]; omega
      have hbe' : i * 2 < (gcs d.gaps).length := by rw [gcs_len]; omega
      have hA6 := ok3.gv.same w6.same
      have e1 : gapsBy (d.gaps.take (i + 1)) = gapsBy (d.gaps.take i) ++ (beB 2 d.gaps[i].1 ++ beB 2 d.gaps[i].2) := by
        unfold gapsBy
        rw [flat_snoc _ i1]
      have hl6 : hdr.length + (gapsBy (d.gaps.take i)).length ≤ 1000 := by rw [gapsBy_len, hz2l, List.length_take]; omega
      generalize d.gaps[i].1 = gs1 at *
      generalize d.gaps[i].2 = gs2 at *
      (refine Go.run (g:=?_))
      refine GoR.call rfl rfl rfl rfl rfl rfl rfl (((rb_spec gs1 2 (by omega) (by decide) _).args (by first | rfl | (simp; fail_if_success focus skip) | (simp; omega) | (congr 2; omega))).mono ?_)
      rintro _ hb7 ⟨bb7, cb7, rfl, vb7, ob7⟩ sb7
      have nb7 := sb7.1
      (refine Go.run (g:=?_))
      refine GoR.appendV rfl rfl rfl rfl rfl rfl (w6.sv.same sb7) (Sv.rv vb7) (w6.wr (by omega)) (by simp [beB_length]; omega) (by simp [beB_length]; omega) (by simp [bv, Value.oneCell']) ?_
      intro bc7 cc7 hc7 vc7 kc7 oc7
      have nc7 := kc7.1
      have w7 := w6.append sb7 vc7 kc7 oc7 rfl
      rw [← List.length_append]
      have G7 := w7.same.get G3
      have nn7 := w7.same.1
      have hA7 := ok3.gv.same w7.same
      (refine Go.run (g:=?_))
      refine GoR.call rfl rfl rfl rfl rfl rfl rfl (((rb_spec gs2 2 (by omega) (by decide) _).args (by first | rfl | (simp; fail_if_success focus skip) | (simp; omega) | (congr 2; omega))).mono ?_)
      rintro _ hb8 ⟨bb8, cb8, rfl, vb8, ob8⟩ sb8
      have nb8 := sb8.1
      (refine Go.run (g:=?_))
      refine GoR.appendV rfl rfl rfl rfl rfl rfl (w7.sv.same sb8) (Sv.rv vb8) (w7.wr (by omega)) (by simp [beB_length]; omega) (by simp [beB_length]; omega) (by simp [bv, Value.oneCell']) ?_
      intro bc8 cc8 hc8 vc8 kc8 oc8
      have nc8 := kc8.1
      have w8 := w7.append sb8 vc8 kc8 oc8 rfl
      rw [← List.length_append]
      have G8 := w8.same.get G3
      have nn8 := w8.same.1
      (refine Go.run (g:=?_))
      exact Go.again (i + 1, bc8, cc8, hc8) ⟨by simp only; omega, by simp only; rw [e1, ← List.append_assoc, ← List.append_assoc]; exact w8⟩ (by simp only; omega) ⟨rfl, rfl, by simp only; rw [e1, ← List.append_assoc, ← List.append_assoc]; rfl, rfl, trivial⟩ rfl rfl
    have hie : i = c.G.n := by omega
    subst hie
    rw [← ok.gl, List.take_length] at w6
    rw [show d.gaps.take c.G.n = d.gaps by rw [← ok.gl, List.take_length]]
    have hil : (hdr ++ gapsBy d.gaps).length = 12 + c.G.n * 4 := by rw [List.length_append, gapsBy_len, hz2l, ok.gl]
    generalize hdr ++ gapsBy d.gaps = hdr2 at w6 hil hcv ⊢
    (refine Go.run (g:=?_))
    refine Go.loop (α := Nat × Option Addr × Nat × AHeap) (fun x => [(8, .int .i64 x.1), (1, .pointer (some ⟨h.n, 0, none⟩)), (4, .slice x.2.1 (hdr2 ++ be4s (d.dups.take x.1)).length x.2.2.1), (5, .int .i64 0)]) (fun _ => []) (fun x => x.2.2.2)
      (fun x => x.1 ≤ c.U.n ∧ VS h3 x.2.2.2 (hdr2 ++ be4s (d.dups.take x.1)) x.2.1 x.2.2.1) (fun x => c.U.n - x.1) (0, b6, c6, h6) ?_ ?_ rfl rfl ?_
    · exact ⟨Nat.zero_le _, by simpa [be4s] using w6⟩
    · exact ⟨rfl, rfl, by simp [be4s]; rfl, rfl, trivial⟩
    clear w6 G6 nn6
    rintro ⟨i, b6, c6, h6⟩ ⟨hi, w6⟩
    simp only at hi w6 ⊢
    have nn6 := w6.same.1
    have G6 := w6.same.get G3
    rcases Nat.lt_or_ge i c.U.n with i0 | i0
    · have i1 : i < d.dups.length := by rw [ok.ul]; exact i0
      have c0 := w32s_get i1
      have hx := ok.ub _ (List.getElem_mem i1)
      have hbe : i < (w32s d.dups).length := by rw [w32s_len]; exact i1
      have hA6 := ok3.uv.same w6.same
      have e1 := be4s_take i1
      have hl6 : hdr2.length + (be4s (d.dups.take i)).length ≤ 1000 := by rw [be4s_len, hil, List.length_take]; omega
      generalize d.dups[i] = x at *
      (refine Go.run (g:=?_))
      refine GoR.call rfl rfl rfl rfl rfl rfl rfl (((rb_spec x 4 (by omega) (by decide) _).args (by first | rfl | (simp; fail_if_success focus skip) | (simp; omega) | (congr 2; omega))).mono ?_)
      rintro _ hb8 ⟨bb8, cb8, rfl, vb8, ob8⟩ sb8
      have nb8 := sb8.1
      (refine Go.run (g:=?_))
      refine GoR.appendV rfl rfl rfl rfl rfl rfl (w6.sv.same sb8) (Sv.rv vb8) (w6.wr (by omega)) (by simp [beB_length]; omega) (by simp [beB_length]; omega) (by simp [bv, Value.oneCell']) ?_
      intro bc8 cc8 hc8 vc8 kc8 oc8
      have nc8 := kc8.1
      have w8 := w6.append sb8 vc8 kc8 oc8 rfl
      rw [← List.length_append]
      have G8 := w8.same.get G3
      have nn8 := w8.same.1
      (refine Go.run (g:=?_))
      exact Go.again (i + 1, bc8, cc8, hc8) ⟨by simp only; omega, by simp only; rw [e1, ← List.append_assoc]; exact w8⟩ (by simp only; omega) ⟨rfl, rfl, by simp only; rw [e1, ← List.append_assoc]; rfl, rfl, trivial⟩ rfl rfl
    have hie : i = c.U.n := by omega
    subst hie
    rw [← ok.ul, List.take_length] at w6
    rw [show d.dups.take c.U.n = d.dups by rw [← ok.ul, List.take_length]]
    have hul := be4s_len d.dups
    have hull := ok.ul
    (refine Go.run (g:=?_))
    (first|refine Go.finT (by first|exact .inr rfl|exact .inl rfl) rfl ?_|refine Go.fin1 (by first|exact .inr rfl|exact .inl rfl) rfl (hq:=?_))
    exact ⟨b6, c6, _, 0, rfl, w6.sv, w6.own.mono (by omega), .inl ⟨rfl, hcv⟩, by simp only [List.length_append]; omega⟩
  · (refine Go.run (g:=?_))
    refine Go.loop (α := Nat × Option Addr × Nat × AHeap × Nat) (fun x => [(9, .int .i64 x.1), (1, .pointer (some ⟨h.n, 0, none⟩)), (4, .slice x.2.1 (causesB (d.causes.take x.1)).length x.2.2.1), (5, .int .i64 x.2.2.2.2)]) (fun _ => []) (fun x => x.2.2.2.1)
      (fun x => x.1 ≤ c.C.n ∧ VS h3 x.2.2.2.1 (causesB (d.causes.take x.1)) x.2.1 x.2.2.1 ∧ x.2.2.2.2 = if allShort (d.causes.take x.1) = true then 0 else 3) (fun x => c.C.n - x.1) (0, none, 0, h3, 0) ?_ ?_ rfl rfl ?_
    · exact ⟨Nat.zero_le _, by simpa [causesB] using w0, rfl⟩
    · exact ⟨rfl, rfl, rfl, rfl, trivial⟩
    clear w0
    rintro ⟨i, b6, c6, h6, e6⟩ ⟨hi, w6, he⟩
    simp only at hi w6 he ⊢
    have nn6 := w6.same.1
    have G6 := w6.same.get G3
    have hil := causesB_len (d.causes.take i)
    rw [List.length_take] at hil
    have hcl := ok.cl
    have hcv : cval c d = if allShort d.causes = true then some (causesB d.causes) else none := by unfold cval; rw [hk]; rfl
    by_cases sh : allShort (d.causes.take i) = true
    case neg =>
      rw [if_neg sh] at he
      subst he
      rw [allShort_take (by simpa using sh)] at hcv
      rcases Nat.lt_or_ge i c.C.n with i0 | i0
      all_goals
        (refine Go.run (g:=?_))
        (first|refine Go.finT (by first|exact .inr rfl|exact .inl rfl) rfl ?_|refine Go.fin1 (by first|exact .inr rfl|exact .inl rfl) rfl (hq:=?_))
        exact ⟨b6, c6, _, 3, rfl, w6.sv, w6.own.mono (by omega), .inr ⟨rfl, hcv⟩, by show (causesB (d.causes.take i)).length ≤ _; omega⟩
    rw [if_pos sh] at he
    subst he
    rcases Nat.lt_or_ge i c.C.n with i0 | i0
    · have i1 : i < d.causes.length := by rw [ok.cl]; exact i0
      have c0 := ccs_0 i1
      have c1 := ccs_1 i1
      obtain ⟨hx1, hx2, -⟩ := ok.cb _ (List.getElem_mem i1)
      obtain ⟨-, -, hx3⟩ := ok3.cb _ (List.getElem_mem i1)
      have hbe : i * 2 + 2 ≤ (ccs d.causes).length := by rw [ccs_len]; omega
      have hbe' : i * 2 < (ccs d.causes).length := by rw [ccs_len]; omega
      have hA6 := ok3.cv.same w6.same
      have e1 : causesB (d.causes.take (i + 1)) = causesB (d.causes.take i) ++ pB d.causes[i].k d.causes[i].z := by
        unfold causesB
        rw [flat_snoc _ i1]
      have e2 : (if d.causes[i].z.length ≤ 65531 then 0 else 3) = if allShort (d.causes.take (i + 1)) = true then 0 else 3 := by
        rw [allShort_snoc i1, sh, Bool.true_and]
        by_cases g2 : d.causes[i].z.length ≤ 65531
        · rw [if_pos g2, decide_eq_true g2, if_pos rfl]
        · rw [if_neg g2, decide_eq_false g2]; rfl
      generalize d.causes[i].k = xk at *
      generalize d.causes[i].z = xz at *
      generalize d.causes[i].a = xa at *
      generalize d.causes[i].cap = xc at *
      (iterate 19 (first|refine GoR.end ?_|(refine GoR.gd rfl ?_;first|refine GoR.wanted' rfl rfl rfl rfl (g:=?_)|refine GoR.unwanted' rfl rfl rfl rfl (hd:=rfl) (hN:=rfl) (g:=?_)|refine GoR.unwantedU rfl rfl rfl rfl rfl rfl ?_)|(refine GoR.kk 0 rfl ?_;first|refine GoR.move rfl rfl rfl rfl rfl ?_|refine GoR.assign rfl rfl rfl rfl rfl ?_)|(refine GoR.kk 1 rfl ?_;first|refine GoR.load' rfl rfl rfl rfl rfl (g:=?_)|refine GoR.loadA' rfl rfl rfl rfl rfl (hv:=rfl) (g:=?_)|refine GoR.loadV' rfl rfl rfl rfl rfl (g:=?_)|refine GoR.loadVN' rfl rfl rfl rfl rfl (g:=?_))|(refine GoR.kk 2 rfl ?_;first|refine GoR.store' rfl rfl rfl rfl rfl (hl:=rfl) (h1:=rfl) (h3:=rfl) (g:=?_))|(refine GoR.kk 3 rfl ?_;first|refine GoR.fieldAddr rfl rfl rfl rfl rfl ?_|refine GoR.indexN' rfl rfl rfl rfl rfl rfl (g:=?_)|refine GoR.indexNs' rfl rfl rfl rfl rfl rfl (g:=?_)|refine GoR.indexV' rfl rfl rfl rfl rfl rfl (g:=?_)|refine GoR.indexA' rfl rfl rfl rfl rfl rfl (g:=?_)|refine GoR.fieldV' rfl rfl rfl rfl rfl (g:=?_))|(refine GoR.kk 4 rfl ?_;first|refine GoR.eq rfl rfl rfl rfl rfl rfl ?_|refine GoR.ne rfl rfl rfl rfl rfl rfl ?_|refine GoR.lt rfl rfl rfl rfl rfl rfl ?_|refine GoR.le rfl rfl rfl rfl rfl rfl ?_|refine GoR.gt rfl rfl rfl rfl rfl rfl ?_|refine GoR.ge rfl rfl rfl rfl rfl rfl ?_|refine GoR.addN' rfl rfl rfl rfl rfl rfl (g:=?_)|refine GoR.subN' rfl rfl rfl rfl rfl rfl (g:=?_)|refine GoR.add' rfl rfl rfl rfl rfl rfl (g:=?_)|refine GoR.sub' rfl rfl rfl rfl rfl rfl (g:=?_)|refine GoR.addM' rfl rfl rfl rfl rfl rfl (g:=?_)|refine GoR.subM' rfl rfl rfl rfl rfl rfl (g:=?_)|refine GoR.mulM' rfl rfl rfl rfl rfl rfl (g:=?_)|refine GoR.shrN rfl rfl rfl rfl rfl rfl rfl ?_|refine GoR.structEq rfl rfl rfl rfl rfl rfl (by rfl) (by rfl) ?_|refine GoR.structNe rfl rfl rfl rfl rfl rfl (by rfl) (by rfl) ?_|refine GoR.strEq rfl rfl rfl rfl rfl rfl ?_|refine GoR.strNe rfl rfl rfl rfl rfl rfl ?_|refine GoR.remN' rfl rfl rfl rfl rfl rfl (g:=?_)|refine GoR.quoN' rfl rfl rfl rfl rfl rfl (g:=?_)|refine GoR.shlN' rfl rfl rfl rfl rfl rfl rfl (g:=?_)|refine GoR.orN' rfl rfl rfl rfl rfl rfl (g:=?_))|(refine GoR.kk 5 rfl ?_;first|refine GoR.len rfl rfl rfl rfl rfl ?_|refine GoR.lenStr rfl rfl rfl rfl rfl ?_|refine GoR.capB rfl rfl rfl rfl rfl ?_)|(refine GoR.kk 7 rfl ?_;first|refine GoR.pickE' rfl rfl rfl rfl rfl (hx:=rfl) (hy:=rfl) (g:=?_)|refine GoR.pickN' rfl rfl rfl rfl rfl (hx:=rfl) (hy:=rfl) (g:=?_)|refine GoR.pickB rfl rfl rfl rfl rfl rfl rfl ?_)|(refine GoR.kk 8 rfl ?_;first|refine GoR.boxA rfl rfl rfl rfl rfl ?_|refine GoR.boxS rfl rfl rfl rfl rfl rfl ?_|refine GoR.alloc rfl rfl rfl rfl ?_)|(refine GoR.kk 9 rfl ?_;first|refine GoR.strV' rfl rfl rfl rfl rfl (g:=?_)|refine GoR.conv_u8 rfl rfl rfl rfl rfl ?_|refine GoR.convW' rfl rfl rfl rfl rfl (g:=?_)|refine GoR.conv_u16 rfl rfl rfl rfl rfl ?_|refine GoR.conv_u32 rfl rfl rfl rfl rfl ?_)|(refine GoR.kk 10 rfl ?_;first|refine GoR.build' rfl rfl rfl rfl rfl rfl (g:=?_))|(refine GoR.kk 11 rfl ?_;first|refine GoR.extract rfl rfl rfl rfl rfl rfl ?_|refine GoR.not rfl rfl rfl rfl rfl ?_|refine GoR.nilCheck rfl rfl rfl rfl rfl ?_|refine GoR.nilCheckF rfl rfl rfl rfl rfl ?_|refine GoR.makeFunc rfl rfl rfl rfl rfl rfl ?_)|(refine Go.kk 0 rfl ?_;refine Go.seq ?_)|(refine Go.kk 1 rfl ?_;refine Go.region (by kernel_rfl) rfl ?_)|(refine Go.kk 2 rfl ?_;refine Go.drawnQ rfl (by kernel_rfl) rfl ?_)|(refine Go.kk 3 rfl ?_;first|refine Go.cond_t' rfl (g:=?_)|refine Go.cond_f' rfl (g:=?_))|(refine Go.kk 4 rfl ?_;refine Go.block ?_)|(refine Go.kk 5 rfl ?_;first|refine Go.skip ?_|refine Go.ret ?_|refine Go.exit ?_|refine Go.scope ?_)|refine Go.leave_normal ?_|refine Go.leave_same ?_|refine Go.leave_ret ?_|refine Go.ret_code ?_|refine Go.exit_code ?_|refine Go.leave_other rfl ?_|refine Go.sc_normal ?_|refine Go.sc_ret ?_|refine Go.sc_exit ?_|refine Go.exit_back ?_|refine Go.ret_back ?_))
      refine Go.loud (by kernel_rfl) rfl ?_
      (refine Go.runL (g:=?_))
      refine GoL.call rfl rfl rfl rfl rfl rfl rfl (((rparam_spec _ _ _ _ _ w6 xk hx1 xz hx2 (by omega) xa xc (hx3.same w6.same)).args (by first | rfl | (simp; fail_if_success focus skip) | (simp; omega) | (congr 2; omega))).mono ?_)
      rintro _ hh9 ⟨bb9, cc9, rfl, w9⟩ -
      refine ⟨w6.wr (by omega), ?_⟩
      have nn9 := w9.same.1
      (refine Go.runL (g:=?_))
      refine GoL.end_ (hl := by (simp only [List.nil_append, List.cons_append]); repeat (first | exact loudP.nil | refine loudP.none ?_ | refine loudP.new (fun _ hb => absurd hb List.not_mem_nil) ?_ | refine loudP.row (by repeat (first | exact loudRowP.nil | refine loudRowP.none ?_ | refine loudRowP.bef (by decide +kernel) ?_)) ?_)) ?_
      (refine Go.run (g:=?_))
      exact Go.again (i + 1, bb9, cc9, hh9, _) ⟨by simp only; omega, by simp only; rw [e1]; exact w9, e2⟩ (by simp only; omega) ⟨rfl, rfl, by simp only; rw [e1]; rfl, by show some (Value.int .i64 (if xz.length ≤ 65531 then (0 : Int) else 3)) = some (Value.int .i64 ((if xz.length ≤ 65531 then 0 else 3 : Nat) : Int)); split <;> rfl, trivial⟩ rfl rfl
    have hie : i = c.C.n := by omega
    subst hie
    rw [← ok.cl, List.take_length] at w6 sh hil
    rw [if_pos sh] at hcv
    rw [show d.causes.take c.C.n = d.causes by rw [← ok.cl, List.take_length]]
    (refine Go.run (g:=?_))
    (first|refine Go.finT (by first|exact .inr rfl|exact .inl rfl) rfl ?_|refine Go.fin1 (by first|exact .inr rfl|exact .inl rfl) rfl (hq:=?_))
    exact ⟨b6, c6, _, 0, rfl, w6.sv, w6.own.mono (by omega), .inl ⟨rfl, hcv⟩, by show (causesB d.causes).length ≤ _; omega⟩
  · (refine Go.run (g:=?_))
    refine Go.loop (α := Nat × Option Addr × Nat × AHeap × Nat) (fun x => [(9, .int .i64 x.1), (1, .pointer (some ⟨h.n, 0, none⟩)), (4, .slice x.2.1 (causesB (d.causes.take x.1)).length x.2.2.1), (5, .int .i64 x.2.2.2.2)]) (fun _ => []) (fun x => x.2.2.2.1)
      (fun x => x.1 ≤ c.C.n ∧ VS h3 x.2.2.2.1 (causesB (d.causes.take x.1)) x.2.1 x.2.2.1 ∧ x.2.2.2.2 = if allShort (d.causes.take x.1) = true then 0 else 3) (fun x => c.C.n - x.1) (0, none, 0, h3, 0) ?_ ?_ rfl rfl ?_
    · exact ⟨Nat.zero_le _, by simpa [causesB] using w0, rfl⟩
    · exact ⟨rfl, rfl, rfl, rfl, trivial⟩
    clear w0
    rintro ⟨i, b6, c6, h6, e6⟩ ⟨hi, w6, he⟩
    simp only at hi w6 he ⊢
    have nn6 := w6.same.1
    have G6 := w6.same.get G3
    have hil := causesB_len (d.causes.take i)
    rw [List.length_take] at hil
    have hcl := ok.cl
    have hcv : cval c d = if allShort d.causes = true then some (causesB d.causes) else none := by unfold cval; rw [hk]; rfl
    by_cases sh : allShort (d.causes.take i) = true
    case neg =>
      rw [if_neg sh] at he
      subst he
      rw [allShort_take (by simpa using sh)] at hcv
      rcases Nat.lt_or_ge i c.C.n with i0 | i0
      all_goals
        (refine Go.run (g:=?_))
        (first|refine Go.finT (by first|exact .inr rfl|exact .inl rfl) rfl ?_|refine Go.fin1 (by first|exact .inr rfl|exact .inl rfl) rfl (hq:=?_))
        exact ⟨b6, c6, _, 3, rfl, w6.sv, w6.own.mono (by omega), .inr ⟨rfl, hcv⟩, by show (causesB (d.causes.take i)).length ≤ _; omega⟩
    rw [if_pos sh] at he
    subst he
    rcases Nat.lt_or_ge i c.C.n with i0 | i0
    · have i1 : i < d.causes.length := by rw [ok.cl]; exact i0
      have c0 := ccs_0 i1
      have c1 := ccs_1 i1
      obtain ⟨hx1, hx2, -⟩ := ok.cb _ (List.getElem_mem i1)
      obtain ⟨-, -, hx3⟩ := ok3.cb _ (List.getElem_mem i1)
      have hbe : i * 2 + 2 ≤ (ccs d.causes).length := by rw [ccs_len]; omega
      have hbe' : i * 2 < (ccs d.causes).length := by rw [ccs_len]; omega
      have hA6 := ok3.cv.same w6.same
      have e1 : causesB (d.causes.take (i + 1)) = causesB (d.causes.take i) ++ pB d.causes[i].k d.causes[i].z := by
        unfold causesB
        rw [flat_snoc _ i1]
      have e2 : (if d.causes[i].z.length ≤ 65531 then 0 else 3) = if allShort (d.causes.take (i + 1)) = true then 0 else 3 := by
        rw [allShort_snoc i1, sh, Bool.true_and]
        by_cases g2 : d.causes[i].z.length ≤ 65531
        · rw [if_pos g2, decide_eq_true g2, if_pos rfl]
        · rw [if_neg g2, decide_eq_false g2]; rfl
      generalize d.causes[i].k = xk at *
      generalize d.causes[i].z = xz at *
      generalize d.causes[i].a = xa at *
      generalize d.causes[i].cap = xc at *
      (iterate 19 (first|refine GoR.end ?_|(refine GoR.gd rfl ?_;first|refine GoR.wanted' rfl rfl rfl rfl (g:=?_)|refine GoR.unwanted' rfl rfl rfl rfl (hd:=rfl) (hN:=rfl) (g:=?_)|refine GoR.unwantedU rfl rfl rfl rfl rfl rfl ?_)|(refine GoR.kk 0 rfl ?_;first|refine GoR.move rfl rfl rfl rfl rfl ?_|refine GoR.assign rfl rfl rfl rfl rfl ?_)|(refine GoR.kk 1 rfl ?_;first|refine GoR.load' rfl rfl rfl rfl rfl (g:=?_)|refine GoR.loadA' rfl rfl rfl rfl rfl (hv:=rfl) (g:=?_)|refine GoR.loadV' rfl rfl rfl rfl rfl (g:=?_)|refine GoR.loadVN' rfl rfl rfl rfl rfl (g:=?_))|(refine GoR.kk 2 rfl ?_;first|refine GoR.store' rfl rfl rfl rfl rfl (hl:=rfl) (h1:=rfl) (h3:=rfl) (g:=?_))|(refine GoR.kk 3 rfl ?_;first|refine GoR.fieldAddr rfl rfl rfl rfl rfl ?_|refine GoR.indexN' rfl rfl rfl rfl rfl rfl (g:=?_)|refine GoR.indexNs' rfl rfl rfl rfl rfl rfl (g:=?_)|refine GoR.indexV' rfl rfl rfl rfl rfl rfl (g:=?_)|refine GoR.indexA' rfl rfl rfl rfl rfl rfl (g:=?_)|refine GoR.fieldV' rfl rfl rfl rfl rfl (g:=?_))|(refine GoR.kk 4 rfl ?_;first|refine GoR.eq rfl rfl rfl rfl rfl rfl ?_|refine GoR.ne rfl rfl rfl rfl rfl rfl ?_|refine GoR.lt rfl rfl rfl rfl rfl rfl ?_|refine GoR.le rfl rfl rfl rfl rfl rfl ?_|refine GoR.gt rfl rfl rfl rfl rfl rfl ?_|refine GoR.ge rfl rfl rfl rfl rfl rfl ?_|refine GoR.addN' rfl rfl rfl rfl rfl rfl (g:=?_)|refine GoR.subN' rfl rfl rfl rfl rfl rfl (g:=?_)|refine GoR.add' rfl rfl rfl rfl rfl rfl (g:=?_)|refine GoR.sub' rfl rfl rfl rfl rfl rfl (g:=?_)|refine GoR.addM' rfl rfl rfl rfl rfl rfl (g:=?_)|refine GoR.subM' rfl rfl rfl rfl rfl rfl (g:=?_)|refine GoR.mulM' rfl rfl rfl rfl rfl rfl (g:=?_)|refine GoR.shrN rfl rfl rfl rfl rfl rfl rfl ?_|refine GoR.structEq rfl rfl rfl rfl rfl rfl (by rfl) (by rfl) ?_|refine GoR.structNe rfl rfl rfl rfl rfl rfl (by rfl) (by rfl) ?_|refine GoR.strEq rfl rfl rfl rfl rfl rfl ?_|refine GoR.strNe rfl rfl rfl rfl rfl rfl ?_|refine GoR.remN' rfl rfl rfl rfl rfl rfl (g:=?_)|refine GoR.quoN' rfl rfl rfl rfl rfl rfl (g:=?_)|refine GoR.shlN' rfl rfl rfl rfl rfl rfl rfl (g:=?_)|refine GoR.orN' rfl rfl rfl rfl rfl rfl (g:=?_))|(refine GoR.kk 5 rfl ?_;first|refine GoR.len rfl rfl rfl rfl rfl ?_|refine GoR.lenStr rfl rfl rfl rfl rfl ?_|refine GoR.capB rfl rfl rfl rfl rfl ?_)|(refine GoR.kk 7 rfl ?_;first|refine GoR.pickE' rfl rfl rfl rfl rfl (hx:=rfl) (hy:=rfl) (g:=?_)|refine GoR.pickN' rfl rfl rfl rfl rfl (hx:=rfl) (hy:=rfl) (g:=?_)|refine GoR.pickB rfl rfl rfl rfl rfl rfl rfl ?_)|(refine GoR.kk 8 rfl ?_;first|refine GoR.boxA rfl rfl rfl rfl rfl ?_|refine GoR.boxS rfl rfl rfl rfl rfl rfl ?_|refine GoR.alloc rfl rfl rfl rfl ?_)|(refine GoR.kk 9 rfl ?_;first|refine GoR.strV' rfl rfl rfl rfl rfl (g:=?_)|refine GoR.conv_u8 rfl rfl rfl rfl rfl ?_|refine GoR.convW' rfl rfl rfl rfl rfl (g:=?_)|refine GoR.conv_u16 rfl rfl rfl rfl rfl ?_|refine GoR.conv_u32 rfl rfl rfl rfl rfl ?_)|(refine GoR.kk 10 rfl ?_;first|refine GoR.build' rfl rfl rfl rfl rfl rfl (g:=?_))|(refine GoR.kk 11 rfl ?_;first|refine GoR.extract rfl rfl rfl rfl rfl rfl ?_|refine GoR.not rfl rfl rfl rfl rfl ?_|refine GoR.nilCheck rfl rfl rfl rfl rfl ?_|refine GoR.nilCheckF rfl rfl rfl rfl rfl ?_|refine GoR.makeFunc rfl rfl rfl rfl rfl rfl ?_)|(refine Go.kk 0 rfl ?_;refine Go.seq ?_)|(refine Go.kk 1 rfl ?_;refine Go.region (by kernel_rfl) rfl ?_)|(refine Go.kk 2 rfl ?_;refine Go.drawnQ rfl (by kernel_rfl) rfl ?_)|(refine Go.kk 3 rfl ?_;first|refine Go.cond_t' rfl (g:=?_)|refine Go.cond_f' rfl (g:=?_))|(refine Go.kk 4 rfl ?_;refine Go.block ?_)|(refine Go.kk 5 rfl ?_;first|refine Go.skip ?_|refine Go.ret ?_|refine Go.exit ?_|refine Go.scope ?_)|refine Go.leave_normal ?_|refine Go.leave_same ?_|refine Go.leave_ret ?_|refine Go.ret_code ?_|refine Go.exit_code ?_|refine Go.leave_other rfl ?_|refine Go.sc_normal ?_|refine Go.sc_ret ?_|refine Go.sc_exit ?_|refine Go.exit_back ?_|refine Go.ret_back ?_))
      refine Go.loud (by kernel_rfl) rfl ?_
      (refine Go.runL (g:=?_))
      refine GoL.call rfl rfl rfl rfl rfl rfl rfl (((rparam_spec _ _ _ _ _ w6 xk hx1 xz hx2 (by omega) xa xc (hx3.same w6.same)).args (by first | rfl | (simp; fail_if_success focus skip) | (simp; omega) | (congr 2; omega))).mono ?_)
      rintro _ hh9 ⟨bb9, cc9, rfl, w9⟩ -
      refine ⟨w6.wr (by omega), ?_⟩
      have nn9 := w9.same.1
      (refine Go.runL (g:=?_))
      refine GoL.end_ (hl := by (simp only [List.nil_append, List.cons_append]); repeat (first | exact loudP.nil | refine loudP.none ?_ | refine loudP.new (fun _ hb => absurd hb List.not_mem_nil) ?_ | refine loudP.row (by repeat (first | exact loudRowP.nil | refine loudRowP.none ?_ | refine loudRowP.bef (by decide +kernel) ?_)) ?_)) ?_
      (refine Go.run (g:=?_))
      exact Go.again (i + 1, bb9, cc9, hh9, _) ⟨by simp only; omega, by simp only; rw [e1]; exact w9, e2⟩ (by simp only; omega) ⟨rfl, rfl, by simp only; rw [e1]; rfl, by show some (Value.int .i64 (if xz.length ≤ 65531 then (0 : Int) else 3)) = some (Value.int .i64 ((if xz.length ≤ 65531 then 0 else 3 : Nat) : Int)); split <;> rfl, trivial⟩ rfl rfl
    have hie : i = c.C.n := by omega
    subst hie
    rw [← ok.cl, List.take_length] at w6 sh hil
    rw [if_pos sh] at hcv
    rw [show d.causes.take c.C.n = d.causes by rw [← ok.cl, List.take_length]]
    (refine Go.run (g:=?_))
    (first|refine Go.finT (by first|exact .inr rfl|exact .inl rfl) rfl ?_|refine Go.fin1 (by first|exact .inr rfl|exact .inl rfl) rfl (hq:=?_))
    exact ⟨b6, c6, _, 0, rfl, w6.sv, w6.own.mono (by omega), .inl ⟨rfl, hcv⟩, by show (causesB d.causes).length ≤ _; omega⟩
  · have hcv : cval c d = some (beB 4 c.tsn) := by unfold cval; rw [hk]; rfl
    (refine Go.run (g:=?_))
    refine GoR.call rfl rfl rfl rfl rfl rfl rfl (((rb_spec c.tsn 4 (by omega) (by decide) _).args (by first | rfl | (simp; fail_if_success focus skip) | (simp; omega) | (congr 2; omega))).mono ?_)
    rintro _ hb1 ⟨bb1, cb1, rfl, vb1, ob1⟩ sb1
    (refine Go.run (g:=?_))
    (first|refine Go.finT (by first|exact .inr rfl|exact .inl rfl) rfl ?_|refine Go.fin1 (by first|exact .inr rfl|exact .inl rfl) rfl (hq:=?_))
    exact ⟨bb1, cb1, _, 0, rfl, vb1, ob1.mono (by omega), .inl ⟨rfl, hcv⟩, by simp [beB_length]⟩
  · have hcv : cval c d = some d.data := by
      unfold cval
      split <;> first | rfl | omega
    (refine Go.run (g:=?_))
    refine GoR.appendV rfl rfl rfl rfl rfl rfl w0.sv (ok3.dv.same w0.same) (w0.wr (by omega)) (by simp; omega) (by simp; omega) (by simp [bv, Value.oneCell']) ?_
    intro bc1 cc1 hc1 vc1 kc1 oc1
    have nc1 := kc1.1
    simp only [List.length_nil, Nat.zero_add] at vc1
    have w1 := w0.append (Same.refl _) vc1 kc1 oc1 (by rw [ok.dl]; simp)
    (refine Go.run (g:=?_))
    (first|refine Go.finT (by first|exact .inr rfl|exact .inl rfl) rfl ?_|refine Go.fin1 (by first|exact .inr rfl|exact .inl rfl) rfl (hq:=?_))
    have hdl := ok.dl
    exact ⟨bc1, cc1, [] ++ d.data, 0, by simp only [List.nil_append, ok.dl, Nat.zero_add]; rfl, w1.sv, w1.own.mono (by omega), .inl ⟨rfl, hcv⟩, by simp; omega⟩
end Go.Proofs.Ytjpegoigipbmiaa
namespace Go.Proofs.Ytjpegoigipbmiaa
set_option maxRecDepth 100000
attribute [local irreducible] Go GoR GoL
set_option maxHeartbeats 8000000 in
theorem great_spec (c : Ck) (d : CD) (h : AHeap) (ok : COk h c d) (hD : c.D.n ≤ 140737488355328) (hA : c.A.n ≤ 140737488355328) (hG : c.G.n ≤ 140737488355328) (hU : c.U.n ≤ 140737488355328) (hC : c.C.n ≤ 140737488355328) : CallS Try.prog [] 18 [c.v] h fun v h' => ∃ t : Bool, v = .bool t ∧ (t = false → c.D.n ≤ 100000 ∧ c.C.n ≤ 5000) := by
  unfold Ck.v
  (refine CallS.of1 Try.func18 rfl Try.ntmps18 Try.results18 rfl ?_)
  (iterate 4 (first|refine GoR.end ?_|(refine GoR.gd rfl ?_;first|refine GoR.wanted' rfl rfl rfl rfl (g:=?_)|refine GoR.unwanted' rfl rfl rfl rfl (hd:=rfl) (hN:=rfl) (g:=?_)|refine GoR.unwantedU rfl rfl rfl rfl rfl rfl ?_)|(refine GoR.kk 0 rfl ?_;first|refine GoR.move rfl rfl rfl rfl rfl ?_|refine GoR.assign rfl rfl rfl rfl rfl ?_)|(refine GoR.kk 1 rfl ?_;first|refine GoR.load' rfl rfl rfl rfl rfl (g:=?_)|refine GoR.loadA' rfl rfl rfl rfl rfl (hv:=rfl) (g:=?_)|refine GoR.loadV' rfl rfl rfl rfl rfl (g:=?_)|refine GoR.loadVN' rfl rfl rfl rfl rfl (g:=?_))|(refine GoR.kk 2 rfl ?_;first|refine GoR.store' rfl rfl rfl rfl rfl (hl:=rfl) (h1:=rfl) (h3:=rfl) (g:=?_))|(refine GoR.kk 3 rfl ?_;first|refine GoR.fieldAddr rfl rfl rfl rfl rfl ?_|refine GoR.indexN' rfl rfl rfl rfl rfl rfl (g:=?_)|refine GoR.indexNs' rfl rfl rfl rfl rfl rfl (g:=?_)|refine GoR.indexV' rfl rfl rfl rfl rfl rfl (g:=?_)|refine GoR.indexA' rfl rfl rfl rfl rfl rfl (g:=?_)|refine GoR.fieldV' rfl rfl rfl rfl rfl (g:=?_))|(refine GoR.kk 4 rfl ?_;first|refine GoR.eq rfl rfl rfl rfl rfl rfl ?_|refine GoR.ne rfl rfl rfl rfl rfl rfl ?_|refine GoR.lt rfl rfl rfl rfl rfl rfl ?_|refine GoR.le rfl rfl rfl rfl rfl rfl ?_|refine GoR.gt rfl rfl rfl rfl rfl rfl ?_|refine GoR.ge rfl rfl rfl rfl rfl rfl ?_|refine GoR.addN' rfl rfl rfl rfl rfl rfl (g:=?_)|refine GoR.subN' rfl rfl rfl rfl rfl rfl (g:=?_)|refine GoR.add' rfl rfl rfl rfl rfl rfl (g:=?_)|refine GoR.sub' rfl rfl rfl rfl rfl rfl (g:=?_)|refine GoR.addM' rfl rfl rfl rfl rfl rfl (g:=?_)|refine GoR.subM' rfl rfl rfl rfl rfl rfl (g:=?_)|refine GoR.mulM' rfl rfl rfl rfl rfl rfl (g:=?_)|refine GoR.shrN rfl rfl rfl rfl rfl rfl rfl ?_|refine GoR.structEq rfl rfl rfl rfl rfl rfl (by rfl) (by rfl) ?_|refine GoR.structNe rfl rfl rfl rfl rfl rfl (by rfl) (by rfl) ?_|refine GoR.strEq rfl rfl rfl rfl rfl rfl ?_|refine GoR.strNe rfl rfl rfl rfl rfl rfl ?_|refine GoR.remN' rfl rfl rfl rfl rfl rfl (g:=?_)|refine GoR.quoN' rfl rfl rfl rfl rfl rfl (g:=?_)|refine GoR.shlN' rfl rfl rfl rfl rfl rfl rfl (g:=?_)|refine GoR.orN' rfl rfl rfl rfl rfl rfl (g:=?_))|(refine GoR.kk 5 rfl ?_;first|refine GoR.len rfl rfl rfl rfl rfl ?_|refine GoR.lenStr rfl rfl rfl rfl rfl ?_|refine GoR.capB rfl rfl rfl rfl rfl ?_)|(refine GoR.kk 7 rfl ?_;first|refine GoR.pickE' rfl rfl rfl rfl rfl (hx:=rfl) (hy:=rfl) (g:=?_)|refine GoR.pickN' rfl rfl rfl rfl rfl (hx:=rfl) (hy:=rfl) (g:=?_)|refine GoR.pickB rfl rfl rfl rfl rfl rfl rfl ?_)|(refine GoR.kk 8 rfl ?_;first|refine GoR.boxA rfl rfl rfl rfl rfl ?_|refine GoR.boxS rfl rfl rfl rfl rfl rfl ?_|refine GoR.alloc rfl rfl rfl rfl ?_)|(refine GoR.kk 9 rfl ?_;first|refine GoR.strV' rfl rfl rfl rfl rfl (g:=?_)|refine GoR.conv_u8 rfl rfl rfl rfl rfl ?_|refine GoR.convW' rfl rfl rfl rfl rfl (g:=?_)|refine GoR.conv_u16 rfl rfl rfl rfl rfl ?_|refine GoR.conv_u32 rfl rfl rfl rfl rfl ?_)|(refine GoR.kk 10 rfl ?_;first|refine GoR.build' rfl rfl rfl rfl rfl rfl (g:=?_))|(refine GoR.kk 11 rfl ?_;first|refine GoR.extract rfl rfl rfl rfl rfl rfl ?_|refine GoR.not rfl rfl rfl rfl rfl ?_|refine GoR.nilCheck rfl rfl rfl rfl rfl ?_|refine GoR.nilCheckF rfl rfl rfl rfl rfl ?_|refine GoR.makeFunc rfl rfl rfl rfl rfl rfl ?_)|(refine Go.kk 0 rfl ?_;refine Go.seq ?_)|(refine Go.kk 1 rfl ?_;refine Go.region (by kernel_rfl) rfl ?_)|(refine Go.kk 2 rfl ?_;refine Go.drawnQ rfl (by kernel_rfl) rfl ?_)|(refine Go.kk 3 rfl ?_;first|refine Go.cond_t' rfl (g:=?_)|refine Go.cond_f' rfl (g:=?_))|(refine Go.kk 4 rfl ?_;refine Go.block ?_)|(refine Go.kk 5 rfl ?_;first|refine Go.skip ?_|refine Go.ret ?_|refine Go.exit ?_|refine Go.scope ?_)|refine Go.leave_normal ?_|refine Go.leave_same ?_|refine Go.leave_ret ?_|refine Go.ret_code ?_|refine Go.exit_code ?_|refine Go.leave_other rfl ?_|refine Go.sc_normal ?_|refine Go.sc_ret ?_|refine Go.sc_exit ?_|refine Go.exit_back ?_|refine Go.ret_back ?_))
  refine GoR.name ?_
  intro h3 e3
  have G0 : h3.get h.n = some (.cells c.cs 43) := by
    subst e3
    exact AHeap.get_push_same h _
  have n3 : h3.n = h.n + 1 := by subst e3; rfl
  have S3 : Same h h3 := by subst e3; exact (Same.refl h).push _
  clear e3
  unfold Ck.cs at G0
  (refine Go.run (g:=?_))
  refine Go.loop (α := Nat × Nat) (fun x => [(4, .int .i64 x.1), (3, .int .i64 x.2), (1, .pointer (some ⟨h.n, 0, none⟩))]) (fun _ => []) (fun x => h3)
    (fun x => x.1 ≤ c.C.n ∧ c.D.n / 16 + c.C.n ≤ x.2 ∧ x.2 ≤ 1000000000000000) (fun x => c.C.n - x.1) (0, c.D.n / 16 + c.A.n + c.G.n + c.U.n + c.C.n) ?_ ?_ rfl rfl ?_
  · exact ⟨Nat.zero_le _, by simp only; omega, by simp only; omega⟩
  · exact ⟨rfl, rfl, rfl, trivial⟩
  rintro ⟨i, s⟩ ⟨hi, h1, h2⟩
  simp only at hi h1 h2 ⊢
  have ok3 := ok.same S3
  rcases Nat.lt_or_ge 5000 s with g | g
  · rcases Nat.lt_or_ge i c.C.n with i0 | i0
    all_goals
      (refine Go.run (g:=?_))
      (first|refine Go.finT (by first|exact .inr rfl|exact .inl rfl) rfl ?_|refine Go.fin1 (by first|exact .inr rfl|exact .inl rfl) rfl (hq:=?_))
      exact ⟨true, by simp [retV]; omega, fun e => by cases e⟩
  rcases Nat.lt_or_ge i c.C.n with i0 | i0
  · have i1 : i < d.causes.length := by rw [ok.cl]; exact i0
    have c1 := ccs_1 i1
    obtain ⟨hx1, hx2, -⟩ := ok.cb _ (List.getElem_mem i1)
    have hbe' : i * 2 < (ccs d.causes).length := by rw [ccs_len]; omega
    have hA6 := ok3.cv
    generalize d.causes[i].z.length = xz at *
    generalize d.causes[i].a = xa at *
    generalize d.causes[i].cap = xc at *
    (refine Go.run (g:=?_))
    exact Go.again (i + 1, s + xz / 16) ⟨by simp only; omega, by simp only; omega, by simp only; omega⟩ (by simp only; omega) ⟨rfl, rfl, rfl, trivial⟩ rfl rfl
  · (refine Go.run (g:=?_))
    (first|refine Go.finT (by first|exact .inr rfl|exact .inl rfl) rfl ?_|refine Go.fin1 (by first|exact .inr rfl|exact .inl rfl) rfl (hq:=?_))
    exact ⟨false, by simp [retV]; omega, fun _ => by omega⟩
end Go.Proofs.Ytjpegoigipbmiaa
namespace Go.Proofs.Ytjpegoigipbmiaa
set_option maxRecDepth 100000
attribute [local irreducible] Go GoR GoL
set_option maxHeartbeats 8000000 in
theorem crput_spec (c : Ck) (d : CD) (h : AHeap) (ok : COk h c d) (hD : c.D.n ≤ 1000000000) (hC : c.C.n ≤ 2000000) : CallS Try.prog [] 17 [c.v] h fun v h' => PutR h h' v c d := by
  have hmay := rmay_head c ok.f d.gaps ok.gl ok.gb
  have hkk := ok.k
  have hff := ok.f
  unfold PutR
  unfold Ck.v
  (refine CallS.of1 Try.func17 rfl Try.ntmps17 Try.results17 rfl ?_)
  (iterate 5 (first|refine GoR.end ?_|(refine GoR.gd rfl ?_;first|refine GoR.wanted' rfl rfl rfl rfl (g:=?_)|refine GoR.unwanted' rfl rfl rfl rfl (hd:=rfl) (hN:=rfl) (g:=?_)|refine GoR.unwantedU rfl rfl rfl rfl rfl rfl ?_)|(refine GoR.kk 0 rfl ?_;first|refine GoR.move rfl rfl rfl rfl rfl ?_|refine GoR.assign rfl rfl rfl rfl rfl ?_)|(refine GoR.kk 1 rfl ?_;first|refine GoR.load' rfl rfl rfl rfl rfl (g:=?_)|refine GoR.loadA' rfl rfl rfl rfl rfl (hv:=rfl) (g:=?_)|refine GoR.loadV' rfl rfl rfl rfl rfl (g:=?_)|refine GoR.loadVN' rfl rfl rfl rfl rfl (g:=?_))|(refine GoR.kk 2 rfl ?_;first|refine GoR.store' rfl rfl rfl rfl rfl (hl:=rfl) (h1:=rfl) (h3:=rfl) (g:=?_))|(refine GoR.kk 3 rfl ?_;first|refine GoR.fieldAddr rfl rfl rfl rfl rfl ?_|refine GoR.indexN' rfl rfl rfl rfl rfl rfl (g:=?_)|refine GoR.indexNs' rfl rfl rfl rfl rfl rfl (g:=?_)|refine GoR.indexV' rfl rfl rfl rfl rfl rfl (g:=?_)|refine GoR.indexA' rfl rfl rfl rfl rfl rfl (g:=?_)|refine GoR.fieldV' rfl rfl rfl rfl rfl (g:=?_))|(refine GoR.kk 4 rfl ?_;first|refine GoR.eq rfl rfl rfl rfl rfl rfl ?_|refine GoR.ne rfl rfl rfl rfl rfl rfl ?_|refine GoR.lt rfl rfl rfl rfl rfl rfl ?_|refine GoR.le rfl rfl rfl rfl rfl rfl ?_|refine GoR.gt rfl rfl rfl rfl rfl rfl ?_|refine GoR.ge rfl rfl rfl rfl rfl rfl ?_|refine GoR.addN' rfl rfl rfl rfl rfl rfl (g:=?_)|refine GoR.subN' rfl rfl rfl rfl rfl rfl (g:=?_)|refine GoR.add' rfl rfl rfl rfl rfl rfl (g:=?_)|refine GoR.sub' rfl rfl rfl rfl rfl rfl (g:=?_)|refine GoR.addM' rfl rfl rfl rfl rfl rfl (g:=?_)|refine GoR.subM' rfl rfl rfl rfl rfl rfl (g:=?_)|refine GoR.mulM' rfl rfl rfl rfl rfl rfl (g:=?_)|refine GoR.shrN rfl rfl rfl rfl rfl rfl rfl ?_|refine GoR.structEq rfl rfl rfl rfl rfl rfl (by rfl) (by rfl) ?_|refine GoR.structNe rfl rfl rfl rfl rfl rfl (by rfl) (by rfl) ?_|refine GoR.strEq rfl rfl rfl rfl rfl rfl ?_|refine GoR.strNe rfl rfl rfl rfl rfl rfl ?_|refine GoR.remN' rfl rfl rfl rfl rfl rfl (g:=?_)|refine GoR.quoN' rfl rfl rfl rfl rfl rfl (g:=?_)|refine GoR.shlN' rfl rfl rfl rfl rfl rfl rfl (g:=?_)|refine GoR.orN' rfl rfl rfl rfl rfl rfl (g:=?_))|(refine GoR.kk 5 rfl ?_;first|refine GoR.len rfl rfl rfl rfl rfl ?_|refine GoR.lenStr rfl rfl rfl rfl rfl ?_|refine GoR.capB rfl rfl rfl rfl rfl ?_)|(refine GoR.kk 7 rfl ?_;first|refine GoR.pickE' rfl rfl rfl rfl rfl (hx:=rfl) (hy:=rfl) (g:=?_)|refine GoR.pickN' rfl rfl rfl rfl rfl (hx:=rfl) (hy:=rfl) (g:=?_)|refine GoR.pickB rfl rfl rfl rfl rfl rfl rfl ?_)|(refine GoR.kk 8 rfl ?_;first|refine GoR.boxA rfl rfl rfl rfl rfl ?_|refine GoR.boxS rfl rfl rfl rfl rfl rfl ?_|refine GoR.alloc rfl rfl rfl rfl ?_)|(refine GoR.kk 9 rfl ?_;first|refine GoR.strV' rfl rfl rfl rfl rfl (g:=?_)|refine GoR.conv_u8 rfl rfl rfl rfl rfl ?_|refine GoR.convW' rfl rfl rfl rfl rfl (g:=?_)|refine GoR.conv_u16 rfl rfl rfl rfl rfl ?_|refine GoR.conv_u32 rfl rfl rfl rfl rfl ?_)|(refine GoR.kk 10 rfl ?_;first|refine GoR.build' rfl rfl rfl rfl rfl rfl (g:=?_))|(refine GoR.kk 11 rfl ?_;first|refine GoR.extract rfl rfl rfl rfl rfl rfl ?_|refine GoR.not rfl rfl rfl rfl rfl ?_|refine GoR.nilCheck rfl rfl rfl rfl rfl ?_|refine GoR.nilCheckF rfl rfl rfl rfl rfl ?_|refine GoR.makeFunc rfl rfl rfl rfl rfl rfl ?_)|(refine Go.kk 0 rfl ?_;refine Go.seq ?_)|(refine Go.kk 1 rfl ?_;refine Go.region (by kernel_rfl) rfl ?_)|(refine Go.kk 2 rfl ?_;refine Go.drawnQ rfl (by kernel_rfl) rfl ?_)|(refine Go.kk 3 rfl ?_;first|refine Go.cond_t' rfl (g:=?_)|refine Go.cond_f' rfl (g:=?_))|(refine Go.kk 4 rfl ?_;refine Go.block ?_)|(refine Go.kk 5 rfl ?_;first|refine Go.skip ?_|refine Go.ret ?_|refine Go.exit ?_|refine Go.scope ?_)|refine Go.leave_normal ?_|refine Go.leave_same ?_|refine Go.leave_ret ?_|refine Go.ret_code ?_|refine Go.exit_code ?_|refine Go.leave_other rfl ?_|refine Go.sc_normal ?_|refine Go.sc_ret ?_|refine Go.sc_exit ?_|refine Go.exit_back ?_|refine Go.ret_back ?_))
  refine GoR.name ?_
  intro h3 e3
  have G0 : h3.get h.n = some (.cells c.cs 43) := by
    subst e3
    exact AHeap.get_push_same h _
  have n3 : h3.n = h.n + 1 := by subst e3; rfl
  have S3 : Same h h3 := by subst e3; exact (Same.refl h).push _
  clear e3
  unfold Ck.cs at G0
  (refine Go.run (g:=?_))
  have hmay3 := hmay h3 (ok.gv.same S3)
  clear hmay
  cases hm : may c d.gaps
  · rw [hm] at hmay3
    simp only [Bool.false_eq_true, if_false]
    refine GoR.call rfl rfl rfl rfl rfl rfl rfl (((hmay3).args (by first | rfl | (simp; fail_if_success focus skip) | (simp; omega) | (congr 2; omega))).mono ?_)
    rintro _ h4 rfl s4
    (refine Go.run (g:=?_))
    (first|refine Go.finT (by first|exact .inr rfl|exact .inl rfl) rfl ?_|refine Go.fin1 (by first|exact .inr rfl|exact .inl rfl) rfl (hq:=?_))
    rfl
  rw [hm] at hmay3
  simp only [if_true]
  have hmf : MayF c := by
    unfold may at hm
    simp only [Bool.and_eq_true, decide_eq_true_eq] at hm
    exact hm.1
  refine GoR.call rfl rfl rfl rfl rfl rfl rfl (((hmay3).args (by first | rfl | (simp; fail_if_success focus skip) | (simp; omega) | (congr 2; omega))).mono ?_)
  rintro _ h4 rfl s4
  (have nn := (s4).1; try simp only [AHeap.n_push, AHeap.n_put] at nn)
  have ok4 := (ok.same S3).same s4
  have S4 := S3.trans s4
  have G4 := s4.get G0
  clear s4 S3 G0 hmay3
  (refine Go.run (g:=?_))
  refine GoR.call rfl rfl rfl rfl rfl rfl rfl (((rvalue_spec c d h4 ok4 hmf hD hC).args (by first | rfl | (simp; fail_if_success focus skip) | (simp; omega) | (congr 2; omega))).mono ?_)
  rintro _ h5 ⟨b5, c5, x, e, rfl, hb5, ob5, hv, hx⟩ s5
  (have nn := (s5).1; try simp only [AHeap.n_push, AHeap.n_put] at nn)
  have G5 := s5.get G4
  rcases hv with ⟨rfl, hcv⟩ | ⟨rfl, hcv⟩
  · rw [hcv]
    simp only [PutV]
    rcases Nat.lt_or_ge 65531 x.length with g | g
    · simp only [if_neg (show ¬ x.length ≤ 65531 by omega)]
      (refine Go.run (g:=?_))
      refine GoR.call rfl rfl rfl rfl rfl rfl rfl (((rput_err3' true c.k c.f b5 x.length c5 hx (fun _ => by omega) (by simp) g _).args (by first | rfl | (simp; fail_if_success focus skip) | (simp; omega) | (congr 2; omega))).mono ?_)
      rintro _ h7 rfl s7
      (refine Go.run (g:=?_))
      (first|refine Go.finT (by first|exact .inr rfl|exact .inl rfl) rfl ?_|refine Go.fin1 (by first|exact .inr rfl|exact .inl rfl) rfl (hq:=?_))
      rfl
    · simp only [if_pos g]
      (refine Go.run (g:=?_))
      refine GoR.call rfl rfl rfl rfl rfl rfl rfl (((rput_ok true c.k c.f b5 c5 (fun _ => by omega) (by simp) hff (by omega) x g _ (Sv.rv hb5)).args (by first | rfl | (simp; fail_if_success focus skip) | (simp; omega) | (congr 2; omega))).mono ?_)
      rintro _ h7 ⟨b7, c7, rfl, hb7, ob7⟩ s7
      (refine Go.run (g:=?_))
      (first|refine Go.finT (by first|exact .inr rfl|exact .inl rfl) rfl ?_|refine Go.fin1 (by first|exact .inr rfl|exact .inl rfl) rfl (hq:=?_))
      exact ⟨b7, _, rfl, hb7, ob7.mono (by omega)⟩
  · rw [hcv]
    simp only [PutV]
    (refine Go.run (g:=?_))
    (first|refine Go.finT (by first|exact .inr rfl|exact .inl rfl) rfl ?_|refine Go.fin1 (by first|exact .inr rfl|exact .inl rfl) rfl (hq:=?_))
    rfl
end Go.Proofs.Ytjpegoigipbmiaa
namespace Go.Proofs.Ytjpegoigipbmiaa
set_option maxRecDepth 100000
attribute [local irreducible] Go GoR GoL
set_option maxHeartbeats 8000000 in
theorem pktSizes_spec (c : Ck) (d : CD) (h : AHeap) (ok : COk h c d) (hD : c.D.n ≤ 1048576) (hA : c.A.n ≤ 140737488355328) (hG : c.G.n ≤ 140737488355328) (hU : c.U.n ≤ 140737488355328) (hC : c.C.n ≤ 1048576) : CallS Try.prog [] 5 [c.v] h fun v h' => v = .bool true := by
  unfold Ck.v
  (refine CallS.of1 Try.func5 rfl Try.ntmps5 Try.results5 rfl ?_)
  (iterate 4 (first|refine GoR.end ?_|(refine GoR.gd rfl ?_;first|refine GoR.wanted' rfl rfl rfl rfl (g:=?_)|refine GoR.unwanted' rfl rfl rfl rfl (hd:=rfl) (hN:=rfl) (g:=?_)|refine GoR.unwantedU rfl rfl rfl rfl rfl rfl ?_)|(refine GoR.kk 0 rfl ?_;first|refine GoR.move rfl rfl rfl rfl rfl ?_|refine GoR.assign rfl rfl rfl rfl rfl ?_)|(refine GoR.kk 1 rfl ?_;first|refine GoR.load' rfl rfl rfl rfl rfl (g:=?_)|refine GoR.loadA' rfl rfl rfl rfl rfl (hv:=rfl) (g:=?_)|refine GoR.loadV' rfl rfl rfl rfl rfl (g:=?_)|refine GoR.loadVN' rfl rfl rfl rfl rfl (g:=?_))|(refine GoR.kk 2 rfl ?_;first|refine GoR.store' rfl rfl rfl rfl rfl (hl:=rfl) (h1:=rfl) (h3:=rfl) (g:=?_))|(refine GoR.kk 3 rfl ?_;first|refine GoR.fieldAddr rfl rfl rfl rfl rfl ?_|refine GoR.indexN' rfl rfl rfl rfl rfl rfl (g:=?_)|refine GoR.indexNs' rfl rfl rfl rfl rfl rfl (g:=?_)|refine GoR.indexV' rfl rfl rfl rfl rfl rfl (g:=?_)|refine GoR.indexA' rfl rfl rfl rfl rfl rfl (g:=?_)|refine GoR.fieldV' rfl rfl rfl rfl rfl (g:=?_))|(refine GoR.kk 4 rfl ?_;first|refine GoR.eq rfl rfl rfl rfl rfl rfl ?_|refine GoR.ne rfl rfl rfl rfl rfl rfl ?_|refine GoR.lt rfl rfl rfl rfl rfl rfl ?_|refine GoR.le rfl rfl rfl rfl rfl rfl ?_|refine GoR.gt rfl rfl rfl rfl rfl rfl ?_|refine GoR.ge rfl rfl rfl rfl rfl rfl ?_|refine GoR.addN' rfl rfl rfl rfl rfl rfl (g:=?_)|refine GoR.subN' rfl rfl rfl rfl rfl rfl (g:=?_)|refine GoR.add' rfl rfl rfl rfl rfl rfl (g:=?_)|refine GoR.sub' rfl rfl rfl rfl rfl rfl (g:=?_)|refine GoR.addM' rfl rfl rfl rfl rfl rfl (g:=?_)|refine GoR.subM' rfl rfl rfl rfl rfl rfl (g:=?_)|refine GoR.mulM' rfl rfl rfl rfl rfl rfl (g:=?_)|refine GoR.shrN rfl rfl rfl rfl rfl rfl rfl ?_|refine GoR.structEq rfl rfl rfl rfl rfl rfl (by rfl) (by rfl) ?_|refine GoR.structNe rfl rfl rfl rfl rfl rfl (by rfl) (by rfl) ?_|refine GoR.strEq rfl rfl rfl rfl rfl rfl ?_|refine GoR.strNe rfl rfl rfl rfl rfl rfl ?_|refine GoR.remN' rfl rfl rfl rfl rfl rfl (g:=?_)|refine GoR.quoN' rfl rfl rfl rfl rfl rfl (g:=?_)|refine GoR.shlN' rfl rfl rfl rfl rfl rfl rfl (g:=?_)|refine GoR.orN' rfl rfl rfl rfl rfl rfl (g:=?_))|(refine GoR.kk 5 rfl ?_;first|refine GoR.len rfl rfl rfl rfl rfl ?_|refine GoR.lenStr rfl rfl rfl rfl rfl ?_|refine GoR.capB rfl rfl rfl rfl rfl ?_)|(refine GoR.kk 7 rfl ?_;first|refine GoR.pickE' rfl rfl rfl rfl rfl (hx:=rfl) (hy:=rfl) (g:=?_)|refine GoR.pickN' rfl rfl rfl rfl rfl (hx:=rfl) (hy:=rfl) (g:=?_)|refine GoR.pickB rfl rfl rfl rfl rfl rfl rfl ?_)|(refine GoR.kk 8 rfl ?_;first|refine GoR.boxA rfl rfl rfl rfl rfl ?_|refine GoR.boxS rfl rfl rfl rfl rfl rfl ?_|refine GoR.alloc rfl rfl rfl rfl ?_)|(refine GoR.kk 9 rfl ?_;first|refine GoR.strV' rfl rfl rfl rfl rfl (g:=?_)|refine GoR.conv_u8 rfl rfl rfl rfl rfl ?_|refine GoR.convW' rfl rfl rfl rfl rfl (g:=?_)|refine GoR.conv_u16 rfl rfl rfl rfl rfl ?_|refine GoR.conv_u32 rfl rfl rfl rfl rfl ?_)|(refine GoR.kk 10 rfl ?_;first|refine GoR.build' rfl rfl rfl rfl rfl rfl (g:=?_))|(refine GoR.kk 11 rfl ?_;first|refine GoR.extract rfl rfl rfl rfl rfl rfl ?_|refine GoR.not rfl rfl rfl rfl rfl ?_|refine GoR.nilCheck rfl rfl rfl rfl rfl ?_|refine GoR.nilCheckF rfl rfl rfl rfl rfl ?_|refine GoR.makeFunc rfl rfl rfl rfl rfl rfl ?_)|(refine Go.kk 0 rfl ?_;refine Go.seq ?_)|(refine Go.kk 1 rfl ?_;refine Go.region (by kernel_rfl) rfl ?_)|(refine Go.kk 2 rfl ?_;refine Go.drawnQ rfl (by kernel_rfl) rfl ?_)|(refine Go.kk 3 rfl ?_;first|refine Go.cond_t' rfl (g:=?_)|refine Go.cond_f' rfl (g:=?_))|(refine Go.kk 4 rfl ?_;refine Go.block ?_)|(refine Go.kk 5 rfl ?_;first|refine Go.skip ?_|refine Go.ret ?_|refine Go.exit ?_|refine Go.scope ?_)|refine Go.leave_normal ?_|refine Go.leave_same ?_|refine Go.leave_ret ?_|refine Go.ret_code ?_|refine Go.exit_code ?_|refine Go.leave_other rfl ?_|refine Go.sc_normal ?_|refine Go.sc_ret ?_|refine Go.sc_exit ?_|refine Go.exit_back ?_|refine Go.ret_back ?_))
  refine GoR.name ?_
  intro h3 e3
  have G0 : h3.get h.n = some (.cells c.cs 43) := by subst e3; exact AHeap.get_push_same h _
  have n3 : h3.n = h.n + 1 := by subst e3; rfl
  have S3 : Same h h3 := by subst e3; exact (Same.refl h).push _
  clear e3
  unfold Ck.cs at G0
  (refine Go.run (g:=?_))
  refine GoR.call rfl rfl rfl rfl rfl rfl rfl (((known06 _).args (by first | rfl | (simp; fail_if_success focus skip) | (simp; omega) | (congr 2; omega))).mono ?_)
  rintro _ h3' ⟨rfl, rfl⟩ -
  (refine Go.run (g:=?_))
  refine GoR.call rfl rfl rfl rfl rfl rfl rfl (((crput_spec c d _ (ok.same S3) (by omega) (by omega)).args (by first | rfl | (simp; fail_if_success focus skip) | (simp; omega) | (congr 2; omega))).mono ?_)
  intro v4 h4 hv4 s4
  (have nn := (s4).1; try simp only [AHeap.n_push, AHeap.n_put] at nn)
  have G4 := s4.get G0
  have S4 := S3.trans s4
  obtain ⟨b4, m4, c4, e4, rfl, hn, he⟩ := putR_sz hv4
  clear hv4 s4 G0 S3
  (refine Go.run (g:=?_))
  refine GoR.call rfl rfl rfl rfl rfl rfl rfl (((great_spec c d _ (ok.same S4) (by omega) hA hG hU (by omega)).args (by first | rfl | (simp; fail_if_success focus skip) | (simp; omega) | (congr 2; omega))).mono ?_)
  rintro _ h5 ⟨t, rfl, ht⟩ s5
  (have nn := (s5).1; try simp only [AHeap.n_push, AHeap.n_put] at nn)
  have G5 := s5.get G4
  have S5 := S4.trans s5
  cases t
  case true =>
    (refine Go.run (g:=?_))
    (first|refine Go.finT (by first|exact .inr rfl|exact .inl rfl) rfl ?_|refine Go.fin1 (by first|exact .inr rfl|exact .inl rfl) rfl (hq:=?_))
    rfl
  (refine Go.run (g:=?_))
  refine GoR.call rfl rfl rfl rfl rfl rfl rfl (((psize_spec c d _ (ok.same S5) (by omega) (by omega)).args (by first | rfl | (simp; fail_if_success focus skip) | (simp; omega) | (congr 2; omega))).mono ?_)
  rintro _ h6 rfl s6
  subst hn
  (refine Go.run (g:=?_))
  (first|refine Go.finT (by first|exact .inr rfl|exact .inl rfl) rfl ?_|refine Go.fin1 (by first|exact .inr rfl|exact .inl rfl) rfl (hq:=?_))
  simp [retV]
end Go.Proofs.Ytjpegoigipbmiaa
namespace Go
open Go.ChangeShapes
variable {H : Type} {enc : TypeId × Value → H}
theorem returnsInHanded_of_cond_sized' {a : Assume} {C : Checked} {os : Os} {f : FuncId} {fn : Func} {s : OpenSpec} {k : (H : Type) → List (DataW H) → Bool} (hk : s.cond = some k) {F : Stop.Interp} {conds : List PathCond} {apart fresh handsOn again : Bool}
    (own : ownKnob C.prog.godebug = none) (started : os.Started) (noInit : C.prog.inits.idxOf? f = none) (hfn : C.prog.funcs[f]? = some fn)
    (witness : ∃ (w : World) (tape : Tape) (i : Input), w.os = os ∧ (w.forCall tape i).Shaped C.prog ∧ i.vars = [] ∧ Input.okWide C.prog (w.forCall tape i) .any w.heap.size f i ∧
      s.pre6 enc C.prog fn conds apart (w.forCall tape i).memory i.args ∧ a.holds C.prog (lone (Frame.enter C.prog f i.args .normal) [] (w.forCall tape i)))
    (contract : ∀ (W : World) (base : Nat) (args : Array Value) (ds gs : List (DataW H)) (before : List MemPlace),
      (∀ (j : Nat) t v, fn.params[j]? = some t → args[j]? = some v → Value.okWide C.prog W .any base t v) →
      DataW.Whole enc C.prog fn.params.toList s.vars apart W args.toList ds gs before →
      conds.all (PathCond.test C.prog ⟨fn.params.toList, ds, s.bare.plain.varTypes C.prog, gs⟩) = true → k H (ds ++ gs) = true →
      (DataW.weightsEach C.prog (fn.params.toList ++ s.bare.plain.varTypes C.prog) (ds ++ gs)).all (· ≤ reachBytes) = true →
      a.holds C.prog (lone (Frame.enter C.prog f args .normal) [] W) →
      Calls C.prog f args W fun e W' => ∃ v, e = .returned v ∧ (s.at F).post enc C.prog fn apart fresh handsOn again W args v W') :
    ReturnsInHanded a C os f .any (s.pre6 enc C.prog fn conds apart) ((s.at F).post enc C.prog fn apart fresh handsOn again) := by
  refine returnsInHanded_of_calls own started noInit witness ?_
  intro w tape i _ _ _ hok hpre hholds
  obtain ⟨_, _, _, fn', hfn', _, _, _, _, hval⟩ := hok
  have e : fn' = fn := Option.some.inj (hfn'.symm.trans hfn)
  subst e
  obtain ⟨ds, gs, before, hw, hc, hkk⟩ := (OpenSpec.pre_some hk conds apart _ _).1 hpre.1
  have hz := hpre.2.weights hw
  have hw' := DataW.Whole.of_heap (w' := w.forCall tape i) (by rfl) hw
  refine (contract (w.forCall tape i) w.heap.size i.args ds gs before hval hw' hc hkk hz hholds).mono fun e W' ⟨v, he, hp⟩ => ?_
  subst he
  exact ChangeSpec.post_blind hp
end Go
namespace Go.Proofs.Ytjpegoigipbmiaa
section
variable {P : Program} {h : AHeap} {H : Type}
open _root_.Go.Proofs.Ytjpegoigipbmiaa.Rows
theorem bulk_pos (d : DataW H) : 1 ≤ uptoBulk d := by
  cases d <;> (unfold uptoBulk; first | omega | (split <;> omega))
theorem bulk_mem : ∀ {ds : List (DataW H)} {d : DataW H}, d ∈ ds → uptoBulk d ≤ uptoBulkAll ds
  | x :: ds, d, hd => by
    simp only [uptoBulkAll]
    rcases List.mem_cons.1 hd with rfl | hd
    · omega
    · have := bulk_mem hd; omega
theorem bulk_len : ∀ (ds : List (DataW H)), ds.length ≤ uptoBulkAll ds
  | [] => Nat.le_refl _
  | x :: ds => by
    have := bulk_len ds
    have := bulk_pos x
    simp only [uptoBulkAll, List.length_cons]; omega
theorem ARd.bulk_slice {t e : TypeId} {a : Option Addr} {len cap : Nat} {d : DataW H} (r : ARd P h t [.slice a len cap] d) (hu : P.underlying t = some (.slice e)) : len ≤ uptoBulk d := by
  cases r with
  | snil hu' => exact Nat.zero_le _
  | slice hu' hR hm hl he =>
    rename_i ds rest
    have := bulk_len ds
    unfold uptoBulk
    omega
  | struct hu' => rw [hu] at hu'; cases hu'
theorem ARd.fieldB {t : TypeId} {fs : Array Field} {cs : List Value} {d : DataW H} (r : ARd P h t cs d) {B : Nat} (z : uptoBulk d ≤ B) (hu : P.underlying t = some (.struct fs)) : ∀ (i ty off sz : Nat), (fs[i]?).map (fun f => (f.type, f.offset)) = some (ty, off) → P.cellsOf ty = sz → ∃ d', ARd (H := H) P h ty ((cs.drop off).take sz) d' ∧ uptoBulk d' ≤ B := by
  cases r with
  | struct hu' hl hx hf =>
    rw [hu] at hu'; cases hu'
    refine fun i ty off sz e hs => ?_
    subst hs
    cases hq : fs[i]? with
    | none => simp [hq] at e
    | some f =>
      simp only [hq, Option.map_some, Option.some.injEq, Prod.mk.injEq] at e
      obtain ⟨rfl, rfl⟩ := e
      have hi := (Array.getElem?_eq_some_iff.1 hq).1
      rename_i xs
      refine ⟨_, hf i f xs[i] hq (List.getElem?_eq_getElem (by omega)), ?_⟩
      have := bulk_mem (List.getElem_mem (l := xs) (show i < xs.length by omega))
      unfold uptoBulk at z
      omega
  | bool hu' => rw [hu] at hu'; cases hu'
  | int hu' hw => rw [hu] at hu'; cases hu'
  | str hu' => rw [hu] at hu'; cases hu'
  | snil hu' => rw [hu] at hu'; cases hu'
  | slice hu' => rw [hu] at hu'; cases hu'
theorem small_mem {ds : List (DataW H)} (h : uptoSmall H ds = true) {d : DataW H} {j : Nat} (hd : ds[j]? = some d) : uptoBulk d ≤ 1048576 := by
  have := of_decide_eq_true h
  exact Nat.le_trans (bulk_mem (List.mem_of_getElem? hd)) this
end
end Go.Proofs.Ytjpegoigipbmiaa
namespace Go.Proofs.Ytjpegoigipbmiaa
theorem u8b : Try.prog.underlying 5 = some (.int .u8) := by kernel_rfl
theorem u16b : Try.prog.underlying 22 = some (.int .u16) := by kernel_rfl
theorem bytesB : Try.prog.underlying 31 = some (.slice 5) := by kernel_rfl
end Go.Proofs.Ytjpegoigipbmiaa
namespace Go.Proofs.Ytjpegoigipbmiaa
set_option maxRecDepth 100000
open Go.ChangeShapes Go.WideShapes Go.ChangeAt Go.RowKit
theorem u8W5 : Try.prog.bytesOf 5 = 1 := by kernel_rfl
theorem u32b : Try.prog.underlying 23 = some (.int .u32) := by kernel_rfl
theorem u32sB : Try.prog.underlying 39 = some (.slice 23) := by kernel_rfl
theorem gapsB' : Try.prog.underlying 40 = some (.slice 78) := by kernel_rfl
theorem causesB' : Try.prog.underlying 41 = some (.slice 69) := by kernel_rfl
theorem cells_of {α : Type} {f : α → List Value} {sz : Nat} : ∀ (len : Nat) (c : List Value), c.length = len * sz → (∀ i, i < len → ∃ x, (c.drop (i * sz)).take sz = f x) → ∃ l : List α, l.length = len ∧ c = (l.map f).flatten
  | 0, c, hl, _ => ⟨[], rfl, by simpa using hl⟩
  | n + 1, c, hl, each => by
    obtain ⟨x, e⟩ := each 0 (by omega)
    rw [Nat.zero_mul, List.drop_zero] at e
    obtain ⟨l, i1, i2⟩ := cells_of (f := f) (sz := sz) n (c.drop sz) (by rw [List.length_drop, hl, Nat.add_mul]; omega) fun i hi => by
      have := each (i + 1) (by omega)
      rwa [Nat.add_mul, Nat.one_mul, Nat.add_comm, ← List.drop_drop] at this
    exact ⟨x :: l, by simp [i1], by rw [List.map_cons, List.flatten_cons, ← e, ← i2, List.take_append_drop]⟩
theorem gap_of {h : AHeap} {H : Type} {cs : List Value} {d : DataW H} (r : ARd Try.prog h 78 cs d) : ∃ x : Nat × Nat, cs = gC x ∧ x.1 < 65536 ∧ x.2 < 65536 := by
  obtain ⟨hl, hf⟩ := r.field Try.underlying78
  rw [show Try.prog.cellsOf 78 = 2 from by kernel_rfl] at hl
  match cs, hl with
  | [c0, c1], _ =>
    obtain ⟨d0, r0⟩ := hf 0 22 0 1 rfl (by kernel_rfl)
    obtain ⟨d1, r1⟩ := hf 1 22 1 1 rfl (by kernel_rfl)
    obtain ⟨n, e0, b0⟩ := r0.u_inv rfl u16b
    obtain ⟨k, e1, b1⟩ := r1.u_inv rfl u16b
    simp at e0 e1
    subst e0 e1
    exact ⟨(n, k), rfl, b0, b1⟩
theorem cause_of {h : AHeap} {H : Type} {cs : List Value} {d : DataW H} (r : ARd Try.prog h 69 cs d) (z : Sized Try.prog 69 d) : ∃ x : CV, cs = cvC x ∧ x.k < 65536 ∧ x.z.length ≤ 140737488355328 ∧ Rv Try.prog h 1 x.a x.z.length x.cap (x.z.map bv) := by
  obtain ⟨hl, hf⟩ := r.fieldZ z Try.underlying69
  rw [show Try.prog.cellsOf 69 = 2 from by kernel_rfl] at hl
  match cs, hl with
  | [c0, c1], _ =>
    obtain ⟨d0, r0, -⟩ := hf 0 22 0 1 rfl (by kernel_rfl)
    obtain ⟨d1, r1, z1⟩ := hf 1 31 1 1 rfl (by kernel_rfl)
    obtain ⟨n, e0, b0⟩ := r0.u_inv rfl u16b
    obtain ⟨a, cap, zs, e1, hR, hm, hZ⟩ := r1.bytesZ z1 bytesB u8b (by kernel_rfl) u8W5
    simp at e0 e1
    subst e0 e1
    exact ⟨⟨n, a, cap, zs⟩, rfl, b0, hZ, hR⟩
theorem cells_of' {α : Type} {f : α → List Value} {p : α → Prop} {sz : Nat} (len : Nat) (c : List Value) (hl : c.length = len * sz) (each : ∀ i, i < len → ∃ x, (c.drop (i * sz)).take sz = f x ∧ p x) : ∃ l : List α, l.length = len ∧ c = (l.map f).flatten ∧ ∀ x ∈ l, p x := by
  obtain ⟨l, h1, h2⟩ := cells_of (f := fun x : {x : α // p x} => f x.1) len c hl fun i hi => let ⟨x, a, b⟩ := each i hi; ⟨⟨x, b⟩, a⟩
  refine ⟨l.map (·.1), by simpa using h1, by rw [h2, List.map_map]; rfl, fun x hx => ?_⟩
  obtain ⟨y, hy, rfl⟩ := List.mem_map.1 hx
  exact y.2
theorem w32_of {h : AHeap} {H : Type} {cs : List Value} {d : DataW H} (r : ARd Try.prog h 39 cs d) (z : Sized Try.prog 39 d) : ∃ (s : Sl) (l : List Nat), cs = [.slice s.a s.n s.cap] ∧ l.length = s.n ∧ Rv Try.prog h 1 s.a s.n s.cap (w32s l) ∧ (∀ x ∈ l, x < 4294967296) ∧ s.n ≤ 140737488355328 ∧ s.cap ≤ maxLen := by
  obtain ⟨a, len, cap, c, rfl, hR, hm, hb, hel⟩ := r.slice_invZ z u32sB
  rw [show Try.prog.cellsOf 23 = 1 from by kernel_rfl] at hR hel
  rw [show Try.prog.bytesOf 23 = 4 from by kernel_rfl] at hb
  obtain ⟨l, rfl, rfl, hp⟩ := cells_of' (f := fun n : Nat => [Value.int .u32 (n : Int)]) (p := fun n => n < 4294967296) len c hR.length fun i hi => by
    obtain ⟨d', r, -⟩ := hel i hi
    obtain ⟨n, e0, hn⟩ := r.u_inv rfl u32b
    exact ⟨n, e0, hn⟩
  have e : ((l.map fun n : Nat => [Value.int .u32 (n : Int)]).flatten) = w32s l := by
    clear hR hel hp hb hm r z
    induction l with
    | nil => rfl
    | cons x l ih => simp only [w32s, List.map_cons, List.flatten_cons, List.cons_append, List.nil_append] at ih ⊢; rw [ih]
  rw [e] at hR
  exact ⟨⟨a, l.length, cap⟩, l, rfl, rfl, hR, hp, Nat.le_trans (Nat.le_mul_of_pos_right _ (by decide)) (Nat.le_trans hb (by have := reachBytes_lt; omega)), hm⟩
theorem gaps_of {h : AHeap} {H : Type} {cs : List Value} {d : DataW H} (r : ARd Try.prog h 40 cs d) (z : Sized Try.prog 40 d) : ∃ (s : Sl) (l : List (Nat × Nat)), cs = [.slice s.a s.n s.cap] ∧ l.length = s.n ∧ Rv Try.prog h 2 s.a s.n s.cap (gcs l) ∧ (∀ x ∈ l, x.1 < 65536 ∧ x.2 < 65536) ∧ s.n ≤ 140737488355328 ∧ s.cap ≤ maxLen := by
  obtain ⟨a, len, cap, c, rfl, hR, hm, hb, hel⟩ := r.slice_invZ z gapsB'
  rw [show Try.prog.cellsOf 78 = 2 from by kernel_rfl] at hR hel
  rw [show Try.prog.bytesOf 78 = 4 from by kernel_rfl] at hb
  obtain ⟨l, rfl, rfl, hp⟩ := cells_of' (f := gC) (p := fun x => x.1 < 65536 ∧ x.2 < 65536) len c hR.length fun i hi => by
    obtain ⟨d', r, -⟩ := hel i hi
    exact gap_of r
  exact ⟨⟨a, l.length, cap⟩, l, rfl, rfl, hR, hp, Nat.le_trans (Nat.le_mul_of_pos_right _ (by decide)) (Nat.le_trans hb (by have := reachBytes_lt; omega)), hm⟩
theorem causes_of {h : AHeap} {H : Type} {cs : List Value} {d : DataW H} (r : ARd Try.prog h 41 cs d) (z : Sized Try.prog 41 d) : ∃ (s : Sl) (l : List CV), cs = [.slice s.a s.n s.cap] ∧ l.length = s.n ∧ Rv Try.prog h 2 s.a s.n s.cap (ccs l) ∧ (∀ x ∈ l, x.k < 65536 ∧ x.z.length ≤ 140737488355328 ∧ Rv Try.prog h 1 x.a x.z.length x.cap (x.z.map bv)) ∧ s.n ≤ 4398046511104 ∧ s.cap ≤ maxLen := by
  obtain ⟨a, len, cap, c, rfl, hR, hm, hb, hel⟩ := r.slice_invZ z causesB'
  rw [show Try.prog.cellsOf 69 = 2 from by kernel_rfl] at hR hel
  rw [show Try.prog.bytesOf 69 = 32 from by kernel_rfl] at hb
  obtain ⟨l, rfl, rfl, hp⟩ := cells_of' (f := cvC) (p := fun x => x.k < 65536 ∧ x.z.length ≤ 140737488355328 ∧ Rv Try.prog h 1 x.a x.z.length x.cap (x.z.map bv)) len c hR.length fun i hi => by
    obtain ⟨d', r, z'⟩ := hel i hi
    exact cause_of r z'
  exact ⟨⟨a, l.length, cap⟩, l, rfl, rfl, hR, hp, (by have := reachBytes_lt; show l.length ≤ _; omega), hm⟩
set_option maxHeartbeats 4000000 in
theorem chunk_of {h : AHeap} {H : Type} {cs : List Value} {d : DataW H} (r : ARd Try.prog h 43 cs d) (z : Sized Try.prog 43 d) : ∃ (c : Ck) (x : CD), cs = c.cs ∧ COk h c x ∧ c.D.n ≤ 140737488355328 ∧ c.A.n ≤ 140737488355328 ∧ c.G.n ≤ 140737488355328 ∧ c.U.n ≤ 140737488355328 ∧ c.C.n ≤ 4398046511104 := by
  obtain ⟨hl, hf⟩ := r.fieldZ z Try.underlying43
  rw [show Try.prog.cellsOf 43 = 15 from by kernel_rfl] at hl
  match cs, hl with
  | [c0, c1, c2, c3, c4, c5, c6, c7, c8, c9, c10, c11, c12, c13, c14], _ =>
    obtain ⟨d0, r0, -⟩ := hf 0 5 0 1 rfl (by kernel_rfl)
    obtain ⟨n0, e0, b0⟩ := r0.u_inv rfl u8b
    obtain ⟨d1, r1, -⟩ := hf 1 5 1 1 rfl (by kernel_rfl)
    obtain ⟨n1, e1, b1⟩ := r1.u_inv rfl u8b
    obtain ⟨d2, r2, -⟩ := hf 2 23 2 1 rfl (by kernel_rfl)
    obtain ⟨n2, e2, b2⟩ := r2.u_inv rfl u32b
    obtain ⟨d3, r3, -⟩ := hf 3 23 3 1 rfl (by kernel_rfl)
    obtain ⟨n3, e3, b3⟩ := r3.u_inv rfl u32b
    obtain ⟨d4, r4, -⟩ := hf 4 23 4 1 rfl (by kernel_rfl)
    obtain ⟨n4, e4, b4⟩ := r4.u_inv rfl u32b
    obtain ⟨d5, r5, -⟩ := hf 5 22 5 1 rfl (by kernel_rfl)
    obtain ⟨n5, e5, b5⟩ := r5.u_inv rfl u16b
    obtain ⟨d6, r6, -⟩ := hf 6 22 6 1 rfl (by kernel_rfl)
    obtain ⟨n6, e6, b6⟩ := r6.u_inv rfl u16b
    obtain ⟨d7, r7, -⟩ := hf 7 22 7 1 rfl (by kernel_rfl)
    obtain ⟨n7, e7, b7⟩ := r7.u_inv rfl u16b
    obtain ⟨d8, r8, -⟩ := hf 8 22 8 1 rfl (by kernel_rfl)
    obtain ⟨n8, e8, b8⟩ := r8.u_inv rfl u16b
    obtain ⟨d9, r9, -⟩ := hf 9 23 9 1 rfl (by kernel_rfl)
    obtain ⟨n9, e9, b9⟩ := r9.u_inv rfl u32b
    obtain ⟨d10, r10, z10⟩ := hf 10 31 10 1 rfl (by kernel_rfl)
    obtain ⟨a, cap, zs, e10, hR, hm, hZ⟩ := r10.bytesZ z10 bytesB u8b (by kernel_rfl) u8W5
    obtain ⟨d11, r11, z11⟩ := hf 11 39 11 1 rfl (by kernel_rfl)
    obtain ⟨sA, lA, e11, l11, v11, b11, n11, m11⟩ := w32_of r11 z11
    obtain ⟨d12, r12, z12⟩ := hf 12 40 12 1 rfl (by kernel_rfl)
    obtain ⟨sG, lG, e12, l12, v12, b12, n12, m12⟩ := gaps_of r12 z12
    obtain ⟨d13, r13, z13⟩ := hf 13 39 13 1 rfl (by kernel_rfl)
    obtain ⟨sU, lU, e13, l13, v13, b13, n13, m13⟩ := w32_of r13 z13
    obtain ⟨d14, r14, z14⟩ := hf 14 41 14 1 rfl (by kernel_rfl)
    obtain ⟨sC, lC, e14, l14, v14, b14, n14, m14⟩ := causes_of r14 z14
    simp at e0 e1 e2 e3 e4 e5 e6 e7 e8 e9 e10 e11 e12 e13 e14
    subst e0 e1 e2 e3 e4 e5 e6 e7 e8 e9 e10 e11 e12 e13 e14
    exact ⟨⟨n0, n1, n2, n3, n4, n5, n6, n7, n8, n9, ⟨a, zs.length, cap⟩, sA, sG, sU, sC⟩, ⟨zs, lA, lG, lU, lC⟩, rfl, ⟨b0, b1, b2, b3, b4, b5, b6, b7, b8, b9, rfl, hR, l11, v11, b11, l12, v12, b12, l13, v13, b13, l14, v14, b14⟩, hZ, n11, n12, n13, n14⟩
theorem plainChunk : plainB Try.prog 6 43 = true := by kernel_rfl
end Go.Proofs.Ytjpegoigipbmiaa
namespace Go.Proofs.Ytjpegoigipbmiaa
theorem chunk_small {h : AHeap} {H : Type} {c : Ck} {d : DataW H} (r : ARd Try.prog h 43 c.cs d) (hb : Rows.uptoBulk d ≤ 1048576) : c.D.n ≤ 1048576 ∧ c.C.n ≤ 1048576 := by
  have hf := r.fieldB hb Try.underlying43
  obtain ⟨d10, r10, b10⟩ := hf 10 31 10 1 rfl (by kernel_rfl)
  obtain ⟨d14, r14, b14⟩ := hf 14 41 14 1 rfl (by kernel_rfl)
  have e10 : ARd Try.prog h 31 [.slice c.D.a c.D.n c.D.cap] d10 := r10
  have e14 : ARd Try.prog h 41 [.slice c.C.a c.C.n c.C.cap] d14 := r14
  have h10 := e10.bulk_slice bytesB
  have h14 := e14.bulk_slice causesB'
  omega
end Go.Proofs.Ytjpegoigipbmiaa
namespace Go.Proofs.Ytjpegoigipbmiaa
open Go.ChangeShapes Go.WideShapes Go.ChangeAt Go.RowKit
set_option maxRecDepth 100000
theorem pktSizesWalk {H : Type} {enc : TypeId × Value → H} {base : Nat} {d0 : DataW H} {p0 : List MemPlace} (v0 : Value) (W : World) (o0 : Value.okWide Try.prog W .any base 43 v0) (h0 : DataW.Trod enc Try.prog W 0 (fun _ => true) true 43 v0 d0 p0) (z0 : Sized Try.prog 43 d0) (u0 : Rows.uptoBulk d0 ≤ 1048576) : Calls Try.prog 5 #[v0] W fun e w' => e = .returned (.bool true) ∧ Below W.heap.size W w' := by
  obtain ⟨c1, rfl, hsz⟩ := okWide_struct Try.underlying43 o0
  obtain ⟨m, h, cs, I, _, _, hA, hR, hl⟩ := imp_val plainChunk h0 (Im.empty Try.prog W)
  have hv := vrel_agg hA
  obtain ⟨c, d, rfl, ok, n1, n2, n3, n4, n5⟩ := chunk_of hR z0
  obtain ⟨b1, b2⟩ := chunk_small hR u0
  exact calls_imp noGlobals I rfl (pktSizes_spec c d h ok b1 n2 n3 n4 b2) (ARel.single hv)
end Go.Proofs.Ytjpegoigipbmiaa