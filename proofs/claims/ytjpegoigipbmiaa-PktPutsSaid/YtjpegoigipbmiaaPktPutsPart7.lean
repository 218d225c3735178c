/- What the law leans on, part 7. No conditions. -/
import Derived.KernelRfl
import Derived.Test.YtjpegoigipbmiaaPktPutsPart6
namespace Go.Proofs.Ytjpegoigipbmiaa
set_option maxRecDepth 100000
attribute [local irreducible] Go GoR GoL
theorem WS.wr {h0 h : AHeap} {zs : List UInt8} {e n : Nat} {b : Option Addr} {cap : Nat} (w : WS h0 h zs e b cap) (hle : n ≤ h0.n) : ∀ i ∈ h0.n :: blk b, i ∈ ([] : List Nat) ∨ n ≤ i := fun i hi => .inr (by
  rcases List.mem_cons.1 hi with rfl | x
  · exact hle
  · have := w.own _ x; omega)
theorem WS.fresh {h0 h : AHeap} {zs : List UInt8} {e : Nat} {b : Option Addr} {cap : Nat} (w : WS h0 h zs e b cap) {la : Option Addr} (o : Own h.n la) : ∀ i ∈ blk la, i ∉ h0.n :: blk b := fun i hi hm => by
  have h1 := o i hi
  have := w.n
  rcases List.mem_cons.1 hm with rfl | x
  · omega
  · have := w.sv.lt _ x; omega
theorem WS.old {h0 h : AHeap} {zs : List UInt8} {e : Nat} {b : Option Addr} {cap : Nat} (w : WS h0 h zs e b cap) {la : Option Addr} (o : ∀ i ∈ blk la, i < h0.n) : ∀ i ∈ blk la, i ∉ h0.n :: blk b := fun i hi hm => by
  have h1 := o i hi
  rcases List.mem_cons.1 hm with rfl | x
  · omega
  · have := w.own _ x; omega
set_option maxHeartbeats 8000000 in
theorem cput_spec (c : Ck) (d : CD) (h : AHeap) (ok : COk h c d) (hD : c.D.n ≤ 1000000000) (hC : c.C.n ≤ 2000000) : CallS Try.prog [] 23 [c.v] h fun v h' => PutR h h' v c d := by
  have hmay := may_spec c ok.f d.gaps ok.gl ok.gb
  unfold PutR
  unfold Ck.v
  (refine CallS.of1 Try.func23 rfl Try.ntmps23 Try.results23 rfl ?_)
  (iterate 4 (first|refine GoR.end ?_|(refine GoR.gd rfl ?_;first|refine GoR.wanted' rfl rfl rfl rfl (g:=?_)|refine GoR.unwanted' rfl rfl rfl rfl (hd:=rfl) (hN:=rfl) (g:=?_)|refine GoR.unwantedU rfl rfl rfl rfl rfl rfl ?_)|(refine GoR.kk 0 rfl ?_;first|refine GoR.move rfl rfl rfl rfl rfl ?_|refine GoR.assign rfl rfl rfl rfl rfl ?_)|(refine GoR.kk 1 rfl ?_;first|refine GoR.load' rfl rfl rfl rfl rfl (g:=?_)|refine GoR.loadA' rfl rfl rfl rfl rfl (hv:=rfl) (g:=?_)|refine GoR.loadV' rfl rfl rfl rfl rfl (g:=?_)|refine GoR.loadVN' rfl rfl rfl rfl rfl (g:=?_))|(refine GoR.kk 2 rfl ?_;first|refine GoR.store' rfl rfl rfl rfl rfl (hl:=rfl) (h1:=rfl) (h3:=rfl) (g:=?_))|(refine GoR.kk 3 rfl ?_;first|refine GoR.fieldAddr rfl rfl rfl rfl rfl ?_|refine GoR.indexN' rfl rfl rfl rfl rfl rfl (g:=?_)|refine GoR.indexNs' rfl rfl rfl rfl rfl rfl (g:=?_)|refine GoR.indexV' rfl rfl rfl rfl rfl rfl (g:=?_)|refine GoR.indexA' rfl rfl rfl rfl rfl rfl (g:=?_)|refine GoR.fieldV' rfl rfl rfl rfl rfl (g:=?_))|(refine GoR.kk 4 rfl ?_;first|refine GoR.eq rfl rfl rfl rfl rfl rfl ?_|refine GoR.ne rfl rfl rfl rfl rfl rfl ?_|refine GoR.lt rfl rfl rfl rfl rfl rfl ?_|refine GoR.le rfl rfl rfl rfl rfl rfl ?_|refine GoR.gt rfl rfl rfl rfl rfl rfl ?_|refine GoR.ge rfl rfl rfl rfl rfl rfl ?_|refine GoR.addN' rfl rfl rfl rfl rfl rfl (g:=?_)|refine GoR.subN' rfl rfl rfl rfl rfl rfl (g:=?_)|refine GoR.add' rfl rfl rfl rfl rfl rfl (g:=?_)|refine GoR.sub' rfl rfl rfl rfl rfl rfl (g:=?_)|refine GoR.addM' rfl rfl rfl rfl rfl rfl (g:=?_)|refine GoR.subM' rfl rfl rfl rfl rfl rfl (g:=?_)|refine GoR.mulM' rfl rfl rfl rfl rfl rfl (g:=?_)|refine GoR.shrN rfl rfl rfl rfl rfl rfl rfl ?_|refine GoR.structEq rfl rfl rfl rfl rfl rfl (by rfl) (by rfl) ?_|refine GoR.structNe rfl rfl rfl rfl rfl rfl (by rfl) (by rfl) ?_|refine GoR.strEq rfl rfl rfl rfl rfl rfl ?_|refine GoR.strNe rfl rfl rfl rfl rfl rfl ?_|refine GoR.remN' rfl rfl rfl rfl rfl rfl (g:=?_)|refine GoR.quoN' rfl rfl rfl rfl rfl rfl (g:=?_)|refine GoR.shlN' rfl rfl rfl rfl rfl rfl rfl (g:=?_)|refine GoR.orN' rfl rfl rfl rfl rfl rfl (g:=?_))|(refine GoR.kk 5 rfl ?_;first|refine GoR.len rfl rfl rfl rfl rfl ?_|refine GoR.lenStr rfl rfl rfl rfl rfl ?_|refine GoR.capB rfl rfl rfl rfl rfl ?_)|(refine GoR.kk 7 rfl ?_;first|refine GoR.pickE' rfl rfl rfl rfl rfl (hx:=rfl) (hy:=rfl) (g:=?_)|refine GoR.pickN' rfl rfl rfl rfl rfl (hx:=rfl) (hy:=rfl) (g:=?_)|refine GoR.pickB rfl rfl rfl rfl rfl rfl rfl ?_)|(refine GoR.kk 8 rfl ?_;first|refine GoR.boxA rfl rfl rfl rfl rfl ?_|refine GoR.boxS rfl rfl rfl rfl rfl rfl ?_|refine GoR.alloc rfl rfl rfl rfl ?_)|(refine GoR.kk 9 rfl ?_;first|refine GoR.strV' rfl rfl rfl rfl rfl (g:=?_)|refine GoR.conv_u8 rfl rfl rfl rfl rfl ?_|refine GoR.convW' rfl rfl rfl rfl rfl (g:=?_)|refine GoR.conv_u16 rfl rfl rfl rfl rfl ?_|refine GoR.conv_u32 rfl rfl rfl rfl rfl ?_)|(refine GoR.kk 10 rfl ?_;first|refine GoR.build' rfl rfl rfl rfl rfl rfl (g:=?_))|(refine GoR.kk 11 rfl ?_;first|refine GoR.extract rfl rfl rfl rfl rfl rfl ?_|refine GoR.not rfl rfl rfl rfl rfl ?_|refine GoR.nilCheck rfl rfl rfl rfl rfl ?_|refine GoR.nilCheckF rfl rfl rfl rfl rfl ?_|refine GoR.makeFunc rfl rfl rfl rfl rfl rfl ?_)|(refine Go.kk 0 rfl ?_;refine Go.seq ?_)|(refine Go.kk 1 rfl ?_;refine Go.region (by kernel_rfl) rfl ?_)|(refine Go.kk 2 rfl ?_;refine Go.drawnQ rfl (by kernel_rfl) rfl ?_)|(refine Go.kk 3 rfl ?_;first|refine Go.cond_t' rfl (g:=?_)|refine Go.cond_f' rfl (g:=?_))|(refine Go.kk 4 rfl ?_;refine Go.block ?_)|(refine Go.kk 5 rfl ?_;first|refine Go.skip ?_|refine Go.ret ?_|refine Go.exit ?_|refine Go.scope ?_)|refine Go.leave_normal ?_|refine Go.leave_same ?_|refine Go.leave_ret ?_|refine Go.ret_code ?_|refine Go.exit_code ?_|refine Go.leave_other rfl ?_|refine Go.sc_normal ?_|refine Go.sc_ret ?_|refine Go.sc_exit ?_|refine Go.exit_back ?_|refine Go.ret_back ?_))
  refine GoR.name ?_
  intro h3 e3
  have G0 : h3.get h.n = some (.cells c.cs 43) := by
    subst e3
    exact AHeap.get_push_same h _
  have n3 : h3.n = h.n + 1 := by subst e3; rfl
  have S3 : Same h h3 := by subst e3; exact (Same.refl h).push _
  clear e3
  unfold Ck.cs at G0
  (refine Go.run (g:=?_))
  have hmay3 := hmay h3 (ok.gv.same S3)
  clear hmay
  cases hm : may c d.gaps
  · rw [hm] at hmay3
    simp only [Bool.false_eq_true, if_false]
    refine GoR.call rfl rfl rfl rfl rfl rfl rfl (((hmay3).args (by first | rfl | (simp; fail_if_success focus skip) | (simp; omega) | (congr 2; omega))).mono ?_)
    rintro _ h4 rfl s4
    (refine Go.run (g:=?_))
    (first|refine Go.finT (by first|exact .inr rfl|exact .inl rfl) rfl ?_|refine Go.fin1 (by first|exact .inr rfl|exact .inl rfl) rfl (hq:=?_))
    rfl
  rw [hm] at hmay3
  simp only [if_true]
  have hmf : MayF c := by
    unfold may at hm
    simp only [Bool.and_eq_true, decide_eq_true_eq] at hm
    exact hm.1
  refine GoR.call rfl rfl rfl rfl rfl rfl rfl (((hmay3).args (by first | rfl | (simp; fail_if_success focus skip) | (simp; omega) | (congr 2; omega))).mono ?_)
  rintro _ h4 rfl s4
  (have nn := (s4).1; try simp only [AHeap.n_push, AHeap.n_put] at nn)
  have ok4 := (ok.same S3).same s4
  have S4 := S3.trans s4
  have G4 := s4.get G0
  clear s4 S3 G0 hmay3
  (iterate 16 (first|refine GoR.end ?_|(refine GoR.gd rfl ?_;first|refine GoR.wanted' rfl rfl rfl rfl (g:=?_)|refine GoR.unwanted' rfl rfl rfl rfl (hd:=rfl) (hN:=rfl) (g:=?_)|refine GoR.unwantedU rfl rfl rfl rfl rfl rfl ?_)|(refine GoR.kk 0 rfl ?_;first|refine GoR.move rfl rfl rfl rfl rfl ?_|refine GoR.assign rfl rfl rfl rfl rfl ?_)|(refine GoR.kk 1 rfl ?_;first|refine GoR.load' rfl rfl rfl rfl rfl (g:=?_)|refine GoR.loadA' rfl rfl rfl rfl rfl (hv:=rfl) (g:=?_)|refine GoR.loadV' rfl rfl rfl rfl rfl (g:=?_)|refine GoR.loadVN' rfl rfl rfl rfl rfl (g:=?_))|(refine GoR.kk 2 rfl ?_;first|refine GoR.store' rfl rfl rfl rfl rfl (hl:=rfl) (h1:=rfl) (h3:=rfl) (g:=?_))|(refine GoR.kk 3 rfl ?_;first|refine GoR.fieldAddr rfl rfl rfl rfl rfl ?_|refine GoR.indexN' rfl rfl rfl rfl rfl rfl (g:=?_)|refine GoR.indexNs' rfl rfl rfl rfl rfl rfl (g:=?_)|refine GoR.indexV' rfl rfl rfl rfl rfl rfl (g:=?_)|refine GoR.indexA' rfl rfl rfl rfl rfl rfl (g:=?_)|refine GoR.fieldV' rfl rfl rfl rfl rfl (g:=?_))|(refine GoR.kk 4 rfl ?_;first|refine GoR.eq rfl rfl rfl rfl rfl rfl ?_|refine GoR.ne rfl rfl rfl rfl rfl rfl ?_|refine GoR.lt rfl rfl rfl rfl rfl rfl ?_|refine GoR.le rfl rfl rfl rfl rfl rfl ?_|refine GoR.gt rfl rfl rfl rfl rfl rfl ?_|refine GoR.ge rfl rfl rfl rfl rfl rfl ?_|refine GoR.addN' rfl rfl rfl rfl rfl rfl (g:=?_)|refine GoR.subN' rfl rfl rfl rfl rfl rfl (g:=?_)|refine GoR.add' rfl rfl rfl rfl rfl rfl (g:=?_)|refine GoR.sub' rfl rfl rfl rfl rfl rfl (g:=?_)|refine GoR.addM' rfl rfl rfl rfl rfl rfl (g:=?_)|refine GoR.subM' rfl rfl rfl rfl rfl rfl (g:=?_)|refine GoR.mulM' rfl rfl rfl rfl rfl rfl (g:=?_)|refine GoR.shrN rfl rfl rfl rfl rfl rfl rfl ?_|refine GoR.structEq rfl rfl rfl rfl rfl rfl (by rfl) (by rfl) ?_|refine GoR.structNe rfl rfl rfl rfl rfl rfl (by rfl) (by rfl) ?_|refine GoR.strEq rfl rfl rfl rfl rfl rfl ?_|refine GoR.strNe rfl rfl rfl rfl rfl rfl ?_|refine GoR.remN' rfl rfl rfl rfl rfl rfl (g:=?_)|refine GoR.quoN' rfl rfl rfl rfl rfl rfl (g:=?_)|refine GoR.shlN' rfl rfl rfl rfl rfl rfl rfl (g:=?_)|refine GoR.orN' rfl rfl rfl rfl rfl rfl (g:=?_))|(refine GoR.kk 5 rfl ?_;first|refine GoR.len rfl rfl rfl rfl rfl ?_|refine GoR.lenStr rfl rfl rfl rfl rfl ?_|refine GoR.capB rfl rfl rfl rfl rfl ?_)|(refine GoR.kk 7 rfl ?_;first|refine GoR.pickE' rfl rfl rfl rfl rfl (hx:=rfl) (hy:=rfl) (g:=?_)|refine GoR.pickN' rfl rfl rfl rfl rfl (hx:=rfl) (hy:=rfl) (g:=?_)|refine GoR.pickB rfl rfl rfl rfl rfl rfl rfl ?_)|(refine GoR.kk 8 rfl ?_;first|refine GoR.boxA rfl rfl rfl rfl rfl ?_|refine GoR.boxS rfl rfl rfl rfl rfl rfl ?_|refine GoR.alloc rfl rfl rfl rfl ?_)|(refine GoR.kk 9 rfl ?_;first|refine GoR.strV' rfl rfl rfl rfl rfl (g:=?_)|refine GoR.conv_u8 rfl rfl rfl rfl rfl ?_|refine GoR.convW' rfl rfl rfl rfl rfl (g:=?_)|refine GoR.conv_u16 rfl rfl rfl rfl rfl ?_|refine GoR.conv_u32 rfl rfl rfl rfl rfl ?_)|(refine GoR.kk 10 rfl ?_;first|refine GoR.build' rfl rfl rfl rfl rfl rfl (g:=?_))|(refine GoR.kk 11 rfl ?_;first|refine GoR.extract rfl rfl rfl rfl rfl rfl ?_|refine GoR.not rfl rfl rfl rfl rfl ?_|refine GoR.nilCheck rfl rfl rfl rfl rfl ?_|refine GoR.nilCheckF rfl rfl rfl rfl rfl ?_|refine GoR.makeFunc rfl rfl rfl rfl rfl rfl ?_)|(refine Go.kk 0 rfl ?_;refine Go.seq ?_)|(refine Go.kk 1 rfl ?_;refine Go.region (by kernel_rfl) rfl ?_)|(refine Go.kk 2 rfl ?_;refine Go.drawnQ rfl (by kernel_rfl) rfl ?_)|(refine Go.kk 3 rfl ?_;first|refine Go.cond_t' rfl (g:=?_)|refine Go.cond_f' rfl (g:=?_))|(refine Go.kk 4 rfl ?_;refine Go.block ?_)|(refine Go.kk 5 rfl ?_;first|refine Go.skip ?_|refine Go.ret ?_|refine Go.exit ?_|refine Go.scope ?_)|refine Go.leave_normal ?_|refine Go.leave_same ?_|refine Go.leave_ret ?_|refine Go.ret_code ?_|refine Go.exit_code ?_|refine Go.leave_other rfl ?_|refine Go.sc_normal ?_|refine Go.sc_ret ?_|refine Go.sc_exit ?_|refine Go.exit_back ?_|refine Go.ret_back ?_))
  refine Go.name ?_
  intro h5 e5
  have w0 : WS h4 h5 [] 0 none 0 := by
    subst e5
    exact ⟨(Same.refl h4).push _, by simp, AHeap.get_push_same h4 _, .nil, Own.nil _⟩
  clear e5
  have nn0 := w0.n
  have G5 := w0.same.get G4
  have tsn := ok.tsn
  have tag := ok.tag
  have rwnd := ok.rwnd
  have ppid := ok.ppid
  have hout := ok.out
  have hinn := ok.inn
  have hsid := ok.sid
  have hssn := ok.ssn
  have hm4 := S4.1
  obtain ⟨-, mA, mG, mU, -⟩ := hmf
  refine Go.join1 (α := Option Addr × Nat × AHeap × List UInt8 × Nat) (fun x => [(1, .pointer (some ⟨h.n, 0, none⟩)), (4, .pointer (some ⟨h4.n, 0, none⟩))]) (fun _ => []) (fun x => x.2.2.1)
    (fun x => WS h4 x.2.2.1 x.2.2.2.1 x.2.2.2.2 x.1 x.2.1 ∧ x.2.2.2.1.length ≤ 140737488355328 ∧ ((x.2.2.2.2 = 0 ∧ cval c d = some x.2.2.2.1) ∨ (x.2.2.2.2 = 3 ∧ cval c d = none))) ?_ ?_
  · rcases (show c.k = 0 ∨ c.k = 1 ∨ c.k = 2 ∨ c.k = 3 ∨ c.k = 6 ∨ c.k = 9 ∨ c.k = 7 ∨ (c.k ≠ 0 ∧ c.k ≠ 1 ∧ c.k ≠ 2 ∧ c.k ≠ 3 ∧ c.k ≠ 6 ∧ c.k ≠ 9 ∧ c.k ≠ 7) by omega) with hk | hk | hk | hk | hk | hk | hk | ⟨k0, k1, k2, k3, k6, k9, k7⟩
    · have hcv : cval c d = some (beB 4 c.tsn ++ beB 2 c.sid ++ beB 2 c.ssn ++ beB 4 c.ppid ++ d.data) := by unfold cval; rw [hk]; rfl
      (refine Go.run (g:=?_))
      refine GoR.buildRo (c := w32s [c.tsn]) rfl rfl rfl rfl rfl (by decide) (by rfl) (by rfl) ?_
      intro bl1 hl1 hbl1 rbl1 obl1 sl1 nl1
      (refine Go.run (g:=?_))
      refine GoR.callW rfl rfl rfl rfl rfl rfl rfl (((wu32_spec _ _ _ _ _ _ (w0.to sl1) [c.tsn] (by simp; omega) (by simp [beB_length, be4s_len, be2s_len]) bl1 1 hbl1 (w0.fresh obl1)).args (by first | rfl | (simp; fail_if_success focus skip) | (simp; omega) | (congr 2; omega))).mono ?_)
      rintro _ hh1 ⟨bb1, cc1, w1, -⟩ -
      refine ⟨w0.wr (by omega), ?_⟩
      have nn1 := w1.n
      have G1 := w1.same.get G4
      (refine Go.run (g:=?_))
      refine GoR.buildRo (c := w16s [c.sid, c.ssn]) rfl rfl rfl rfl rfl (by decide) (by rfl) (by rfl) ?_
      intro bl2 hl2 hbl2 rbl2 obl2 sl2 nl2
      (refine Go.run (g:=?_))
      refine GoR.callW rfl rfl rfl rfl rfl rfl rfl (((wu16_spec _ _ _ _ _ _ (w1.to sl2) [c.sid, c.ssn] (by simp; omega) (by simp [beB_length, be4s_len, be2s_len]) bl2 2 hbl2 (w1.fresh obl2)).args (by first | rfl | (simp; fail_if_success focus skip) | (simp; omega) | (congr 2; omega))).mono ?_)
      rintro _ hh2 ⟨bb2, cc2, w2, -⟩ -
      refine ⟨w1.wr (by omega), ?_⟩
      have nn2 := w2.n
      have G2 := w2.same.get G4
      (refine Go.run (g:=?_))
      refine GoR.buildRo (c := w32s [c.ppid]) rfl rfl rfl rfl rfl (by decide) (by rfl) (by rfl) ?_
      intro bl3 hl3 hbl3 rbl3 obl3 sl3 nl3
      (refine Go.run (g:=?_))
      refine GoR.callW rfl rfl rfl rfl rfl rfl rfl (((wu32_spec _ _ _ _ _ _ (w2.to sl3) [c.ppid] (by simp; omega) (by simp [beB_length, be4s_len, be2s_len]) bl3 1 hbl3 (w2.fresh obl3)).args (by first | rfl | (simp; fail_if_success focus skip) | (simp; omega) | (congr 2; omega))).mono ?_)
      rintro _ hh3 ⟨bb3, cc3, w3, -⟩ -
      refine ⟨w2.wr (by omega), ?_⟩
      have nn3 := w3.n
      have G3 := w3.same.get G4
      (refine Go.run (g:=?_))
      refine Go.loud (by kernel_rfl) rfl ?_
      have gw4 := w3.w
      (refine Go.runL (g:=?_))
      refine GoL.appendV rfl rfl rfl rfl rfl rfl w3.sv (ok4.dv.same w3.same) (fun i hi => w3.wr (n := h.n) (by omega) i (List.mem_cons_of_mem _ hi)) (by simp [beB_length, be4s_len, be2s_len]; omega) (by simp [beB_length, be4s_len, be2s_len]; omega) (by simp [bv, Value.oneCell']) ?_
      intro bb4 cc4 hh4 rd wr hwr hrd hs4 k4 o4
      have nk4 := k4.1
      have g4 := k4.get gw4 (fun hi => by have := w3.own _ hi; omega)
      (refine Go.runL (g:=?_))
      refine GoL.store' rfl rfl rfl rfl rfl (hl:=rfl) (h1:=rfl) (h3:=rfl) (g:=?_)
      refine GoL.end_ (hl := by (simp only [List.nil_append, List.cons_append]); repeat (first | exact loudP.nil | refine loudP.none ?_ | refine loudP.new (fun _ hb => absurd hb List.not_mem_nil) ?_ | refine loudP.row (by repeat (first | exact loudRowP.nil | refine loudRowP.none ?_ | refine loudRowP.bef (by decide +kernel) ?_)) ?_)) ?_
      have w4 := w3.append (Same.refl _) hs4 k4 o4 (by rw [ok.dl])
      (refine Go.run (g:=?_))
      exact Go.joined (bb4, cc4, _, _, 0) ⟨w4, by simp only [List.length_append]; simp [beB_length, be4s_len, be2s_len]; have := ok.dl; omega, .inl ⟨rfl, by rw [hcv]; simp [be4s, be2s]⟩⟩ ⟨rfl, rfl, trivial⟩ rfl rfl
    · (refine Go.run (g:=?_))
      refine GoR.buildRo (c := w32s [c.tag, c.rwnd]) rfl rfl rfl rfl rfl (by decide) (by rfl) (by rfl) ?_
      intro bl1 hl1 hbl1 rbl1 obl1 sl1 nl1
      (refine Go.run (g:=?_))
      refine GoR.callW rfl rfl rfl rfl rfl rfl rfl (((wu32_spec _ _ _ _ _ _ (w0.to sl1) [c.tag, c.rwnd] (by simp; omega) (by simp [beB_length, be4s_len, be2s_len]) bl1 2 hbl1 (w0.fresh obl1)).args (by first | rfl | (simp; fail_if_success focus skip) | (simp; omega) | (congr 2; omega))).mono ?_)
      rintro _ hh1 ⟨bb1, cc1, w1, -⟩ -
      refine ⟨w0.wr (by omega), ?_⟩
      have nn1 := w1.n
      have G1 := w1.same.get G4
      (refine Go.run (g:=?_))
      refine GoR.buildRo (c := w16s [c.out, c.inn]) rfl rfl rfl rfl rfl (by decide) (by rfl) (by rfl) ?_
      intro bl2 hl2 hbl2 rbl2 obl2 sl2 nl2
      (refine Go.run (g:=?_))
      refine GoR.callW rfl rfl rfl rfl rfl rfl rfl (((wu16_spec _ _ _ _ _ _ (w1.to sl2) [c.out, c.inn] (by simp; omega) (by simp [beB_length, be4s_len, be2s_len]) bl2 2 hbl2 (w1.fresh obl2)).args (by first | rfl | (simp; fail_if_success focus skip) | (simp; omega) | (congr 2; omega))).mono ?_)
      rintro _ hh2 ⟨bb2, cc2, w2, -⟩ -
      refine ⟨w1.wr (by omega), ?_⟩
      have nn2 := w2.n
      have G2 := w2.same.get G4
      (refine Go.run (g:=?_))
      refine GoR.buildRo (c := w32s [c.tsn]) rfl rfl rfl rfl rfl (by decide) (by rfl) (by rfl) ?_
      intro bl3 hl3 hbl3 rbl3 obl3 sl3 nl3
      (refine Go.run (g:=?_))
      refine GoR.callW rfl rfl rfl rfl rfl rfl rfl (((wu32_spec _ _ _ _ _ _ (w2.to sl3) [c.tsn] (by simp; omega) (by simp [beB_length, be4s_len, be2s_len]) bl3 1 hbl3 (w2.fresh obl3)).args (by first | rfl | (simp; fail_if_success focus skip) | (simp; omega) | (congr 2; omega))).mono ?_)
      rintro _ hh3 ⟨bb3, cc3, w3, -⟩ -
      refine ⟨w2.wr (by omega), ?_⟩
      have nn3 := w3.n
      have G3 := w3.same.get G4
      have hz3 : ([] ++ be4s [c.tag, c.rwnd] ++ be2s [c.out, c.inn] ++ be4s [c.tsn]) = beB 4 c.tag ++ beB 4 c.rwnd ++ beB 2 c.out ++ beB 2 c.inn ++ beB 4 c.tsn := by simp [be4s, be2s]
      rw [hz3] at w3
      have hz3l : (beB 4 c.tag ++ beB 4 c.rwnd ++ beB 2 c.out ++ beB 2 c.inn ++ beB 4 c.tsn).length = 16 := by simp [beB_length]
      have hib : initB c d = (beB 4 c.tag ++ beB 4 c.rwnd ++ beB 2 c.out ++ beB 2 c.inn ++ beB 4 c.tsn) ++ addrsB d.addrs := rfl
      generalize (beB 4 c.tag ++ beB 4 c.rwnd ++ beB 2 c.out ++ beB 2 c.inn ++ beB 4 c.tsn) = hdr at w3 hz3l hib
      (refine Go.run (g:=?_))
      refine Go.loop (α := Nat × Option Addr × Nat × AHeap) (fun x => [(83, .int .i64 x.1), (82, .int .i64 c.A.n), (81, .slice c.A.a c.A.n c.A.cap), (1, .pointer (some ⟨h.n, 0, none⟩)), (4, .pointer (some ⟨h4.n, 0, none⟩))]) (fun _ => []) (fun x => x.2.2.2)
        (fun x => x.1 ≤ c.A.n ∧ WS h4 x.2.2.2 (hdr ++ addrsB (d.addrs.take x.1)) 0 x.2.1 x.2.2.1) (fun x => c.A.n - x.1) (0, bb3, cc3, hh3) ?_ ?_ rfl rfl ?_
      · exact ⟨Nat.zero_le _, by simpa [addrsB] using w3⟩
      · exact ⟨rfl, rfl, rfl, rfl, rfl, trivial⟩
      clear w0 w1 w2 w3 G1 G2 G3 G5
      rintro ⟨i, b6, c6, h6⟩ ⟨hi, w6⟩
      simp only at hi w6 ⊢
      have nn6 := w6.n
      have G6 := w6.same.get G4
      rcases Nat.lt_or_ge i c.A.n with i0 | i0
      · have i1 : i < d.addrs.length := by rw [ok.al]; exact i0
        have c0 := w32s_get i1
        have hx := ok.ab _ (List.getElem_mem i1)
        have hbe : i < (w32s d.addrs).length := by rw [w32s_len]; exact i1
        have hA6 := ok4.av.same w6.same
        have e1 : addrsB (d.addrs.take (i + 1)) = addrsB (d.addrs.take i) ++ pB 5 (beB 4 d.addrs[i]) := by
          unfold addrsB
          rw [flat_snoc _ i1, show pB 5 (beB 4 d.addrs[i]) = tlvB false 5 0 (beB 4 d.addrs[i]) from by unfold pB; rw [if_pos (by rw [beB_length]; decide)]]
        have hl6 : (hdr ++ addrsB (d.addrs.take i)).length ≤ 1000 := by rw [List.length_append, addrsB_len, hz3l, List.length_take]; omega
        generalize d.addrs[i] = x at *
        (refine Go.run (g:=?_))
        refine GoR.name ?_
        intro h7 e7
        have w7 : WS h6 h7 [] 0 none 0 := by
          subst e7
          exact ⟨(Same.refl h6).push _, by simp, AHeap.get_push_same h6 _, .nil, Own.nil _⟩
        clear e7
        have nn7 := w7.n
        (refine Go.run (g:=?_))
        refine GoR.buildRo (c := w32s [x]) rfl rfl rfl rfl rfl (by decide) (by rfl) (by rfl) ?_
        intro bl8 hl8 hbl8 rbl8 obl8 sl8 nl8
        (refine Go.run (g:=?_))
        refine GoR.callW rfl rfl rfl rfl rfl rfl rfl (((wu32_spec _ _ _ _ _ _ (w7.to sl8) [x] (by simp; omega) (by simp [beB_length, be4s_len, be2s_len]) bl8 1 hbl8 (w7.fresh obl8)).args (by first | rfl | (simp; fail_if_success focus skip) | (simp; omega) | (congr 2; omega))).mono ?_)
        rintro _ hh8 ⟨bb8, cc8, w8, -⟩ -
        refine ⟨w7.wr (by omega), ?_⟩
        have nn8 := w8.n
        have gv8 := w8.w
        have hv8 := w8.sv
        have hb8 : [] ++ be4s [x] = beB 4 x := by simp [be4s]
        rw [hb8] at gv8 hv8
        have gw8 := (w6.to w8.same).w
        (refine Go.run (g:=?_))
        refine GoR.callW rfl rfl rfl rfl rfl rfl rfl (((wparam_spec _ _ _ _ _ _ (w6.to w8.same) 5 (by decide) (beB 4 x) (by rw [beB_length]; decide) (by omega) _ _ (Sv.rv hv8)).args (by first | rfl | (simp; fail_if_success focus skip) | (simp; omega) | (congr 2; omega))).mono ?_)
        rintro _ hh9 ⟨bb9, cc9, w9, -⟩ -
        refine ⟨(w6.to w8.same).wr (by omega), ?_⟩
        rw [if_pos (by rw [beB_length]; decide)] at w9
        have nn9 := w9.n
        (refine Go.run (g:=?_))
        exact Go.again (i + 1, bb9, cc9, hh9) ⟨by simp only; omega, by simp only; rw [e1, ← List.append_assoc]; exact w9⟩ (by simp only; omega) ⟨rfl, rfl, rfl, rfl, rfl, trivial⟩ rfl rfl
      have hie : i = c.A.n := by omega
      subst hie
      rw [← ok.al, List.take_length, ← hib] at w6
      have hil : (initB c d).length = 16 + c.A.n * 8 := by rw [hib, List.length_append, addrsB_len, hz3l, ok.al]
      have hcv : cval c d = some (initB c d) := by unfold cval; rw [hk]; rfl
      (refine Go.run (g:=?_))
      exact Go.joined (b6, c6, _, _, 0) ⟨w6, by show (initB c d).length ≤ _; omega, .inl ⟨rfl, hcv⟩⟩ ⟨rfl, rfl, trivial⟩ rfl rfl
    · (refine Go.run (g:=?_))
      refine GoR.buildRo (c := w32s [c.tag, c.rwnd]) rfl rfl rfl rfl rfl (by decide) (by rfl) (by rfl) ?_
      intro bl1 hl1 hbl1 rbl1 obl1 sl1 nl1
      (refine Go.run (g:=?_))
      refine GoR.callW rfl rfl rfl rfl rfl rfl rfl (((wu32_spec _ _ _ _ _ _ (w0.to sl1) [c.tag, c.rwnd] (by simp; omega) (by simp [beB_length, be4s_len, be2s_len]) bl1 2 hbl1 (w0.fresh obl1)).args (by first | rfl | (simp; fail_if_success focus skip) | (simp; omega) | (congr 2; omega))).mono ?_)
      rintro _ hh1 ⟨bb1, cc1, w1, -⟩ -
      refine ⟨w0.wr (by omega), ?_⟩
      have nn1 := w1.n
      have G1 := w1.same.get G4
      (refine Go.run (g:=?_))
      refine GoR.buildRo (c := w16s [c.out, c.inn]) rfl rfl rfl rfl rfl (by decide) (by rfl) (by rfl) ?_
      intro bl2 hl2 hbl2 rbl2 obl2 sl2 nl2
      (refine Go.run (g:=?_))
      refine GoR.callW rfl rfl rfl rfl rfl rfl rfl (((wu16_spec _ _ _ _ _ _ (w1.to sl2) [c.out, c.inn] (by simp; omega) (by simp [beB_length, be4s_len, be2s_len]) bl2 2 hbl2 (w1.fresh obl2)).args (by first | rfl | (simp; fail_if_success focus skip) | (simp; omega) | (congr 2; omega))).mono ?_)
      rintro _ hh2 ⟨bb2, cc2, w2, -⟩ -
      refine ⟨w1.wr (by omega), ?_⟩
      have nn2 := w2.n
      have G2 := w2.same.get G4
      (refine Go.run (g:=?_))
      refine GoR.buildRo (c := w32s [c.tsn]) rfl rfl rfl rfl rfl (by decide) (by rfl) (by rfl) ?_
      intro bl3 hl3 hbl3 rbl3 obl3 sl3 nl3
      (refine Go.run (g:=?_))
      refine GoR.callW rfl rfl rfl rfl rfl rfl rfl (((wu32_spec _ _ _ _ _ _ (w2.to sl3) [c.tsn] (by simp; omega) (by simp [beB_length, be4s_len, be2s_len]) bl3 1 hbl3 (w2.fresh obl3)).args (by first | rfl | (simp; fail_if_success focus skip) | (simp; omega) | (congr 2; omega))).mono ?_)
      rintro _ hh3 ⟨bb3, cc3, w3, -⟩ -
      refine ⟨w2.wr (by omega), ?_⟩
      have nn3 := w3.n
      have G3 := w3.same.get G4
      have hz3 : ([] ++ be4s [c.tag, c.rwnd] ++ be2s [c.out, c.inn] ++ be4s [c.tsn]) = beB 4 c.tag ++ beB 4 c.rwnd ++ beB 2 c.out ++ beB 2 c.inn ++ beB 4 c.tsn := by simp [be4s, be2s]
      rw [hz3] at w3
      have hz3l : (beB 4 c.tag ++ beB 4 c.rwnd ++ beB 2 c.out ++ beB 2 c.inn ++ beB 4 c.tsn).length = 16 := by simp [beB_length]
      have hib : initB c d = (beB 4 c.tag ++ beB 4 c.rwnd ++ beB 2 c.out ++ beB 2 c.inn ++ beB 4 c.tsn) ++ addrsB d.addrs := rfl
      generalize (beB 4 c.tag ++ beB 4 c.rwnd ++ beB 2 c.out ++ beB 2 c.inn ++ beB 4 c.tsn) = hdr at w3 hz3l hib
      (refine Go.run (g:=?_))
      refine Go.loop (α := Nat × Option Addr × Nat × AHeap) (fun x => [(83, .int .i64 x.1), (82, .int .i64 c.A.n), (81, .slice c.A.a c.A.n c.A.cap), (1, .pointer (some ⟨h.n, 0, none⟩)), (4, .pointer (some ⟨h4.n, 0, none⟩))]) (fun _ => []) (fun x => x.2.2.2)
        (fun x => x.1 ≤ c.A.n ∧ WS h4 x.2.2.2 (hdr ++ addrsB (d.addrs.take x.1)) 0 x.2.1 x.2.2.1) (fun x => c.A.n - x.1) (0, bb3, cc3, hh3) ?_ ?_ rfl rfl ?_
      · exact ⟨Nat.zero_le _, by simpa [addrsB] using w3⟩
      · exact ⟨rfl, rfl, rfl, rfl, rfl, trivial⟩
      clear w0 w1 w2 w3 G1 G2 G3 G5
      rintro ⟨i, b6, c6, h6⟩ ⟨hi, w6⟩
      simp only at hi w6 ⊢
      have nn6 := w6.n
      have G6 := w6.same.get G4
      rcases Nat.lt_or_ge i c.A.n with i0 | i0
      · have i1 : i < d.addrs.length := by rw [ok.al]; exact i0
        have c0 := w32s_get i1
        have hx := ok.ab _ (List.getElem_mem i1)
        have hbe : i < (w32s d.addrs).length := by rw [w32s_len]; exact i1
        have hA6 := ok4.av.same w6.same
        have e1 : addrsB (d.addrs.take (i + 1)) = addrsB (d.addrs.take i) ++ pB 5 (beB 4 d.addrs[i]) := by
          unfold addrsB
          rw [flat_snoc _ i1, show pB 5 (beB 4 d.addrs[i]) = tlvB false 5 0 (beB 4 d.addrs[i]) from by unfold pB; rw [if_pos (by rw [beB_length]; decide)]]
        have hl6 : (hdr ++ addrsB (d.addrs.take i)).length ≤ 1000 := by rw [List.length_append, addrsB_len, hz3l, List.length_take]; omega
        generalize d.addrs[i] = x at *
        (refine Go.run (g:=?_))
        refine GoR.name ?_
        intro h7 e7
        have w7 : WS h6 h7 [] 0 none 0 := by
          subst e7
          exact ⟨(Same.refl h6).push _, by simp, AHeap.get_push_same h6 _, .nil, Own.nil _⟩
        clear e7
        have nn7 := w7.n
        (refine Go.run (g:=?_))
        refine GoR.buildRo (c := w32s [x]) rfl rfl rfl rfl rfl (by decide) (by rfl) (by rfl) ?_
        intro bl8 hl8 hbl8 rbl8 obl8 sl8 nl8
        (refine Go.run (g:=?_))
        refine GoR.callW rfl rfl rfl rfl rfl rfl rfl (((wu32_spec _ _ _ _ _ _ (w7.to sl8) [x] (by simp; omega) (by simp [beB_length, be4s_len, be2s_len]) bl8 1 hbl8 (w7.fresh obl8)).args (by first | rfl | (simp; fail_if_success focus skip) | (simp; omega) | (congr 2; omega))).mono ?_)
        rintro _ hh8 ⟨bb8, cc8, w8, -⟩ -
        refine ⟨w7.wr (by omega), ?_⟩
        have nn8 := w8.n
        have gv8 := w8.w
        have hv8 := w8.sv
        have hb8 : [] ++ be4s [x] = beB 4 x := by simp [be4s]
        rw [hb8] at gv8 hv8
        have gw8 := (w6.to w8.same).w
        (refine Go.run (g:=?_))
        refine GoR.callW rfl rfl rfl rfl rfl rfl rfl (((wparam_spec _ _ _ _ _ _ (w6.to w8.same) 5 (by decide) (beB 4 x) (by rw [beB_length]; decide) (by omega) _ _ (Sv.rv hv8)).args (by first | rfl | (simp; fail_if_success focus skip) | (simp; omega) | (congr 2; omega))).mono ?_)
        rintro _ hh9 ⟨bb9, cc9, w9, -⟩ -
        refine ⟨(w6.to w8.same).wr (by omega), ?_⟩
        rw [if_pos (by rw [beB_length]; decide)] at w9
        have nn9 := w9.n
        (refine Go.run (g:=?_))
        exact Go.again (i + 1, bb9, cc9, hh9) ⟨by simp only; omega, by simp only; rw [e1, ← List.append_assoc]; exact w9⟩ (by simp only; omega) ⟨rfl, rfl, rfl, rfl, rfl, trivial⟩ rfl rfl
      have hie : i = c.A.n := by omega
      subst hie
      rw [← ok.al, List.take_length, ← hib] at w6
      have hil : (initB c d).length = 16 + c.A.n * 8 := by rw [hib, List.length_append, addrsB_len, hz3l, ok.al]
      (refine Go.run (g:=?_))
      refine GoR.callW rfl rfl rfl rfl rfl rfl rfl (((wparam_spec _ _ _ _ _ _ w6 7 (by decide) d.data (by rw [ok.dl]; omega) (by omega) c.D.a c.D.cap (by rw [ok.dl]; exact ok4.dv.same w6.same)).args (by first | (rw [ok.dl]; done) | (rw [ok.dl]; rfl))).mono ?_)
      rintro _ hh9 ⟨bb9, cc9, w9, -⟩ -
      refine ⟨w6.wr (by omega), ?_⟩
      have hpl := pB_le 7 d.data
      rcases Nat.lt_or_ge 65531 d.data.length with g | g
      · rw [if_neg (by omega)] at w9
        have hcv : cval c d = none := by unfold cval; rw [hk]; exact if_neg (by omega)
        (refine Go.run (g:=?_))
        exact Go.joined (bb9, cc9, _, _, 3) ⟨w9, by simp only [List.length_append]; omega, .inr ⟨rfl, hcv⟩⟩ ⟨rfl, rfl, trivial⟩ rfl rfl
      · rw [if_pos g] at w9
        have hcv : cval c d = some (initB c d ++ pB 7 d.data) := by unfold cval; rw [hk]; exact if_pos g
        (refine Go.run (g:=?_))
        exact Go.joined (bb9, cc9, _, _, 0) ⟨w9, by simp only [List.length_append]; omega, .inl ⟨rfl, hcv⟩⟩ ⟨rfl, rfl, trivial⟩ rfl rfl
    · (refine Go.run (g:=?_))
      refine GoR.buildRo (c := w32s [c.tsn, c.rwnd]) rfl rfl rfl rfl rfl (by decide) (by rfl) (by rfl) ?_
      intro bl1 hl1 hbl1 rbl1 obl1 sl1 nl1
      (refine Go.run (g:=?_))
      refine GoR.callW rfl rfl rfl rfl rfl rfl rfl (((wu32_spec _ _ _ _ _ _ (w0.to sl1) [c.tsn, c.rwnd] (by simp; omega) (by simp [beB_length, be4s_len, be2s_len]) bl1 2 hbl1 (w0.fresh obl1)).args (by first | rfl | (simp; fail_if_success focus skip) | (simp; omega) | (congr 2; omega))).mono ?_)
      rintro _ hh1 ⟨bb1, cc1, w1, -⟩ -
      refine ⟨w0.wr (by omega), ?_⟩
      have nn1 := w1.n
      have G1 := w1.same.get G4
      (refine Go.run (g:=?_))
      refine GoR.buildRo (c := w16s [c.G.n, c.U.n]) rfl rfl rfl rfl rfl (by decide) (by rfl) (by rfl) ?_
      intro bl2 hl2 hbl2 rbl2 obl2 sl2 nl2
      (refine Go.run (g:=?_))
      refine GoR.callW rfl rfl rfl rfl rfl rfl rfl (((wu16_spec _ _ _ _ _ _ (w1.to sl2) [c.G.n, c.U.n] (by simp; omega) (by simp [beB_length, be4s_len, be2s_len]) bl2 2 hbl2 (w1.fresh obl2)).args (by first | rfl | (simp; fail_if_success focus skip) | (simp; omega) | (congr 2; omega))).mono ?_)
      rintro _ hh2 ⟨bb2, cc2, w2, -⟩ -
      refine ⟨w1.wr (by omega), ?_⟩
      have nn2 := w2.n
      have G2 := w2.same.get G4
      have hz2 : ([] ++ be4s [c.tsn, c.rwnd] ++ be2s [c.G.n, c.U.n]) = beB 4 c.tsn ++ beB 4 c.rwnd ++ beB 2 c.G.n ++ beB 2 c.U.n := by simp [be4s, be2s]
      rw [hz2] at w2
      have hz2l : (beB 4 c.tsn ++ beB 4 c.rwnd ++ beB 2 c.G.n ++ beB 2 c.U.n).length = 12 := by simp [beB_length]
      have hcv : cval c d = some (beB 4 c.tsn ++ beB 4 c.rwnd ++ beB 2 c.G.n ++ beB 2 c.U.n ++ gapsBy d.gaps ++ be4s d.dups) := by unfold cval; rw [hk]; rfl
      generalize (beB 4 c.tsn ++ beB 4 c.rwnd ++ beB 2 c.G.n ++ beB 2 c.U.n) = hdr at w2 hz2l hcv
      (refine Go.run (g:=?_))
      refine Go.loop (α := Nat × Option Addr × Nat × AHeap) (fun x => [(130, .int .i64 x.1), (129, .int .i64 c.G.n), (128, .slice c.G.a c.G.n c.G.cap), (1, .pointer (some ⟨h.n, 0, none⟩)), (4, .pointer (some ⟨h4.n, 0, none⟩))]) (fun _ => []) (fun x => x.2.2.2)
        (fun x => x.1 ≤ c.G.n ∧ WS h4 x.2.2.2 (hdr ++ gapsBy (d.gaps.take x.1)) 0 x.2.1 x.2.2.1) (fun x => c.G.n - x.1) (0, bb2, cc2, hh2) ?_ ?_ rfl rfl ?_
      · exact ⟨Nat.zero_le _, by simpa [gapsBy] using w2⟩
      · exact ⟨rfl, rfl, rfl, rfl, rfl, trivial⟩
      clear w0 w1 w2 G1 G2 G5
      rintro ⟨i, b6, c6, h6⟩ ⟨hi, w6⟩
      simp only at hi w6 ⊢
      have nn6 := w6.n
      have G6 := w6.same.get G4
      rcases Nat.lt_or_ge i c.G.n with i0 | i0
      · have i1 : i < d.gaps.length := by rw [ok.gl]; exact i0
        have c0 := gcs_get i1
        have hx := ok.gb _ (List.getElem_mem i1)
        have hbe : i * 2 + 2 ≤ (gcs d.gaps).length := by rw [gcs_len]; omega
        have hA6 := ok4.gv.same w6.same
        have e1 : gapsBy (d.gaps.take (i + 1)) = gapsBy (d.gaps.take i) ++ be2s [d.gaps[i].1, d.gaps[i].2] := by
          unfold gapsBy
          rw [flat_snoc _ i1]
          simp [be2s]
        have hl6 : (hdr ++ gapsBy (d.gaps.take i)).length ≤ 1000 := by rw [List.length_append, gapsBy_len, hz2l, List.length_take]; omega
        generalize d.gaps[i].1 = gs1 at *
        generalize d.gaps[i].2 = gs2 at *
        (refine Go.run (g:=?_))
        refine GoR.name ?_
        intro h7 e7
        have s7 : Same h6 h7 := by subst e7; exact ((Same.refl h6).push _).put (Nat.le_refl _) _
        have nn7 := s7.1
        clear e7
        have w7 := w6.to s7
        refine GoR.buildRo (c := w16s [gs1, gs2]) rfl rfl rfl rfl rfl (by decide) (by rfl) (by rfl) ?_
        intro bl8 hl8 hbl8 rbl8 obl8 sl8 nl8
        (refine Go.run (g:=?_))
        refine GoR.callW rfl rfl rfl rfl rfl rfl rfl (((wu16_spec _ _ _ _ _ _ (w7.to sl8) [gs1, gs2] (by simp; omega) (by have := hl6; simp only [List.length_append] at this; simp; omega) bl8 2 hbl8 (w7.fresh obl8)).args (by first | rfl | (simp; fail_if_success focus skip) | (simp; omega) | (congr 2; omega))).mono ?_)
        rintro _ hh8 ⟨bb8, cc8, w8, -⟩ -
        refine ⟨w7.wr (by omega), ?_⟩
        have nn8 := w8.n
        (refine Go.run (g:=?_))
        exact Go.again (i + 1, bb8, cc8, hh8) ⟨by simp only; omega, by simp only; rw [e1, ← List.append_assoc]; exact w8⟩ (by simp only; omega) ⟨rfl, rfl, rfl, rfl, rfl, trivial⟩ rfl rfl
      have hie : i = c.G.n := by omega
      subst hie
      rw [← ok.gl, List.take_length] at w6
      have hil : (hdr ++ gapsBy d.gaps).length = 12 + c.G.n * 4 := by rw [List.length_append, gapsBy_len, hz2l, ok.gl]
      (refine Go.run (g:=?_))
      refine GoR.callW rfl rfl rfl rfl rfl rfl rfl (((wu32_spec _ _ _ _ _ _ w6 d.dups ok.ub (by rw [ok.ul]; omega) c.U.a c.U.cap (by rw [ok.ul]; exact ok4.uv.same w6.same) (w6.old ok4.uv.lt)).args (by first | (rw [ok.ul]; done) | (rw [ok.ul]; rfl))).mono ?_)
      rintro _ hh9 ⟨bb9, cc9, w9, -⟩ -
      refine ⟨w6.wr (by omega), ?_⟩
      have hul := be4s_len d.dups
      have hull := ok.ul
      (refine Go.run (g:=?_))
      exact Go.joined (bb9, cc9, _, _, 0) ⟨w9, by simp only [List.length_append]; rw [List.length_append] at hil; omega, .inl ⟨rfl, hcv⟩⟩ ⟨rfl, rfl, trivial⟩ rfl rfl
    · (refine Go.run (g:=?_))
      refine Go.loop (α := Nat × Option Addr × Nat × AHeap × Nat) (fun x => [(152, .int .i64 x.1), (151, .int .i64 c.C.n), (150, .slice c.C.a c.C.n c.C.cap), (1, .pointer (some ⟨h.n, 0, none⟩)), (4, .pointer (some ⟨h4.n, 0, none⟩))]) (fun _ => []) (fun x => x.2.2.2.1)
        (fun x => x.1 ≤ c.C.n ∧ WS h4 x.2.2.2.1 (causesB (d.causes.take x.1)) x.2.2.2.2 x.2.1 x.2.2.1 ∧ x.2.2.2.2 = if allShort (d.causes.take x.1) = true then 0 else 3) (fun x => c.C.n - x.1) (0, none, 0, h5, 0) ?_ ?_ rfl rfl ?_
      · exact ⟨Nat.zero_le _, by simpa [causesB] using w0, rfl⟩
      · exact ⟨rfl, rfl, rfl, rfl, rfl, trivial⟩
      clear w0 G5
      rintro ⟨i, b6, c6, h6, e6⟩ ⟨hi, w6, he⟩
      simp only at hi w6 he ⊢
      have nn6 := w6.n
      have G6 := w6.same.get G4
      rcases Nat.lt_or_ge i c.C.n with i0 | i0
      · have i1 : i < d.causes.length := by rw [ok.cl]; exact i0
        have c0 := ccs_get i1
        obtain ⟨hx1, hx2, -⟩ := ok.cb _ (List.getElem_mem i1)
        obtain ⟨-, -, hx3⟩ := ok4.cb _ (List.getElem_mem i1)
        have hbe : i * 2 + 2 ≤ (ccs d.causes).length := by rw [ccs_len]; omega
        have hA6 := ok4.cv.same w6.same
        have e1 : causesB (d.causes.take (i + 1)) = causesB (d.causes.take i) ++ pB d.causes[i].k d.causes[i].z := by
          unfold causesB
          rw [flat_snoc _ i1]
        have e2 : (if d.causes[i].z.length ≤ 65531 then e6 else 3) = if allShort (d.causes.take (i + 1)) = true then 0 else 3 := by
          rw [he, allShort_snoc i1]
          by_cases g2 : d.causes[i].z.length ≤ 65531
          · rw [if_pos g2, decide_eq_true g2, Bool.and_true]
          · rw [if_neg g2, decide_eq_false g2, Bool.and_false]; rfl
        have hl6 : (causesB (d.causes.take i)).length ≤ 1000000000000 := by
          have := causesB_len (d.causes.take i)
          rw [List.length_take] at this
          omega
        generalize d.causes[i].k = xk at *
        generalize d.causes[i].z = xz at *
        generalize d.causes[i].a = xa at *
        generalize d.causes[i].cap = xc at *
        (refine Go.run (g:=?_))
        refine GoR.name ?_
        intro h7 e7
        have s7 : Same h6 h7 := by subst e7; exact ((Same.refl h6).push _).put (Nat.le_refl _) _
        have nn7 := s7.1
        clear e7
        have w7 := w6.to s7
        refine GoR.callW rfl rfl rfl rfl rfl rfl rfl (((wparam_spec _ _ _ _ _ _ w7 xk hx1 xz hx2 (by omega) xa xc (hx3.same w7.same)).args (by first | rfl | (simp; fail_if_success focus skip) | (simp; omega) | (congr 2; omega))).mono ?_)
        rintro _ hh9 ⟨bb9, cc9, w9, -⟩ -
        refine ⟨w7.wr (by omega), ?_⟩
        have nn9 := w9.n
        (refine Go.run (g:=?_))
        exact Go.again (i + 1, bb9, cc9, hh9, _) ⟨by simp only; omega, by simp only; rw [e1]; exact w9, e2⟩ (by simp only; omega) ⟨rfl, rfl, rfl, rfl, rfl, trivial⟩ rfl rfl
      have hie : i = c.C.n := by omega
      subst hie
      rw [← ok.cl, List.take_length] at w6 he
      have hil := causesB_len d.causes
      have hcl := ok.cl
      have hcv : cval c d = if allShort d.causes = true then some (causesB d.causes) else none := by unfold cval; rw [hk]; rfl
      by_cases g : allShort d.causes = true
      · rw [if_pos g] at he hcv
        subst he
        (refine Go.run (g:=?_))
        exact Go.joined (b6, c6, _, _, 0) ⟨w6, by show (causesB d.causes).length ≤ _; omega, .inl ⟨rfl, hcv⟩⟩ ⟨rfl, rfl, trivial⟩ rfl rfl
      · rw [if_neg g] at he hcv
        subst he
        (refine Go.run (g:=?_))
        exact Go.joined (b6, c6, _, _, 3) ⟨w6, by show (causesB d.causes).length ≤ _; omega, .inr ⟨rfl, hcv⟩⟩ ⟨rfl, rfl, trivial⟩ rfl rfl
    · (refine Go.run (g:=?_))
      refine Go.loop (α := Nat × Option Addr × Nat × AHeap × Nat) (fun x => [(152, .int .i64 x.1), (151, .int .i64 c.C.n), (150, .slice c.C.a c.C.n c.C.cap), (1, .pointer (some ⟨h.n, 0, none⟩)), (4, .pointer (some ⟨h4.n, 0, none⟩))]) (fun _ => []) (fun x => x.2.2.2.1)
        (fun x => x.1 ≤ c.C.n ∧ WS h4 x.2.2.2.1 (causesB (d.causes.take x.1)) x.2.2.2.2 x.2.1 x.2.2.1 ∧ x.2.2.2.2 = if allShort (d.causes.take x.1) = true then 0 else 3) (fun x => c.C.n - x.1) (0, none, 0, h5, 0) ?_ ?_ rfl rfl ?_
      · exact ⟨Nat.zero_le _, by simpa [causesB] using w0, rfl⟩
      · exact ⟨rfl, rfl, rfl, rfl, rfl, trivial⟩
      clear w0 G5
      rintro ⟨i, b6, c6, h6, e6⟩ ⟨hi, w6, he⟩
      simp only at hi w6 he ⊢
      have nn6 := w6.n
      have G6 := w6.same.get G4
      rcases Nat.lt_or_ge i c.C.n with i0 | i0
      · have i1 : i < d.causes.length := by rw [ok.cl]; exact i0
        have c0 := ccs_get i1
        obtain ⟨hx1, hx2, -⟩ := ok.cb _ (List.getElem_mem i1)
        obtain ⟨-, -, hx3⟩ := ok4.cb _ (List.getElem_mem i1)
        have hbe : i * 2 + 2 ≤ (ccs d.causes).length := by rw [ccs_len]; omega
        have hA6 := ok4.cv.same w6.same
        have e1 : causesB (d.causes.take (i + 1)) = causesB (d.causes.take i) ++ pB d.causes[i].k d.causes[i].z := by
          unfold causesB
          rw [flat_snoc _ i1]
        have e2 : (if d.causes[i].z.length ≤ 65531 then e6 else 3) = if allShort (d.causes.take (i + 1)) = true then 0 else 3 := by
          rw [he, allShort_snoc i1]
          by_cases g2 : d.causes[i].z.length ≤ 65531
          · rw [if_pos g2, decide_eq_true g2, Bool.and_true]
          · rw [if_neg g2, decide_eq_false g2, Bool.and_false]; rfl
        have hl6 : (causesB (d.causes.take i)).length ≤ 1000000000000 := by
          have := causesB_len (d.causes.take i)
          rw [List.length_take] at this
          omega
        generalize d.causes[i].k = xk at *
        generalize d.causes[i].z = xz at *
        generalize d.causes[i].a = xa at *
        generalize d.causes[i].cap = xc at *
        (refine Go.run (g:=?_))
        refine GoR.name ?_
        intro h7 e7
        have s7 : Same h6 h7 := by subst e7; exact ((Same.refl h6).push _).put (Nat.le_refl _) _
        have nn7 := s7.1
        clear e7
        have w7 := w6.to s7
        refine GoR.callW rfl rfl rfl rfl rfl rfl rfl (((wparam_spec _ _ _ _ _ _ w7 xk hx1 xz hx2 (by omega) xa xc (hx3.same w7.same)).args (by first | rfl | (simp; fail_if_success focus skip) | (simp; omega) | (congr 2; omega))).mono ?_)
        rintro _ hh9 ⟨bb9, cc9, w9, -⟩ -
        refine ⟨w7.wr (by omega), ?_⟩
        have nn9 := w9.n
        (refine Go.run (g:=?_))
        exact Go.again (i + 1, bb9, cc9, hh9, _) ⟨by simp only; omega, by simp only; rw [e1]; exact w9, e2⟩ (by simp only; omega) ⟨rfl, rfl, rfl, rfl, rfl, trivial⟩ rfl rfl
      have hie : i = c.C.n := by omega
      subst hie
      rw [← ok.cl, List.take_length] at w6 he
      have hil := causesB_len d.causes
      have hcl := ok.cl
      have hcv : cval c d = if allShort d.causes = true then some (causesB d.causes) else none := by unfold cval; rw [hk]; rfl
      by_cases g : allShort d.causes = true
      · rw [if_pos g] at he hcv
        subst he
        (refine Go.run (g:=?_))
        exact Go.joined (b6, c6, _, _, 0) ⟨w6, by show (causesB d.causes).length ≤ _; omega, .inl ⟨rfl, hcv⟩⟩ ⟨rfl, rfl, trivial⟩ rfl rfl
      · rw [if_neg g] at he hcv
        subst he
        (refine Go.run (g:=?_))
        exact Go.joined (b6, c6, _, _, 3) ⟨w6, by show (causesB d.causes).length ≤ _; omega, .inr ⟨rfl, hcv⟩⟩ ⟨rfl, rfl, trivial⟩ rfl rfl
    · have hcv : cval c d = some (beB 4 c.tsn) := by unfold cval; rw [hk]; rfl
      (refine Go.run (g:=?_))
      refine GoR.buildRo (c := w32s [c.tsn]) rfl rfl rfl rfl rfl (by decide) (by rfl) (by rfl) ?_
      intro bl1 hl1 hbl1 rbl1 obl1 sl1 nl1
      (refine Go.run (g:=?_))
      refine GoR.callW rfl rfl rfl rfl rfl rfl rfl (((wu32_spec _ _ _ _ _ _ (w0.to sl1) [c.tsn] (by simp; omega) (by simp [beB_length, be4s_len, be2s_len]) bl1 1 hbl1 (w0.fresh obl1)).args (by first | rfl | (simp; fail_if_success focus skip) | (simp; omega) | (congr 2; omega))).mono ?_)
      rintro _ hh1 ⟨bb1, cc1, w1, -⟩ -
      refine ⟨w0.wr (by omega), ?_⟩
      have nn1 := w1.n
      have G1 := w1.same.get G4
      (refine Go.run (g:=?_))
      exact Go.joined (bb1, cc1, _, _, 0) ⟨w1, by simp [beB_length, be4s_len, be2s_len], .inl ⟨rfl, by rw [hcv]; simp [be4s]⟩⟩ ⟨rfl, rfl, trivial⟩ rfl rfl
    · have hcv : cval c d = some d.data := by
        unfold cval
        split <;> first | rfl | omega
      (refine Go.run (g:=?_))
      refine Go.loud (by kernel_rfl) rfl ?_
      have gw1 := w0.w
      (refine Go.runL (g:=?_))
      refine GoL.appendV rfl rfl rfl rfl rfl rfl w0.sv (ok4.dv.same w0.same) (fun i hi => w0.wr (n := h.n) (by omega) i (List.mem_cons_of_mem _ hi)) (by simp [beB_length, be4s_len, be2s_len]; omega) (by simp [beB_length, be4s_len, be2s_len]; omega) (by simp [bv, Value.oneCell']) ?_
      intro bb1 cc1 hh1 rd wr hwr hrd hs1 k1 o1
      have nk1 := k1.1
      have g1 := k1.get gw1 (fun hi => by have := w0.own _ hi; omega)
      (refine Go.runL (g:=?_))
      refine GoL.store' rfl rfl rfl rfl rfl (hl:=rfl) (h1:=rfl) (h3:=rfl) (g:=?_)
      refine GoL.end_ (hl := by (simp only [List.nil_append, List.cons_append]); repeat (first | exact loudP.nil | refine loudP.none ?_ | refine loudP.new (fun _ hb => absurd hb List.not_mem_nil) ?_ | refine loudP.row (by repeat (first | exact loudRowP.nil | refine loudRowP.none ?_ | refine loudRowP.bef (by decide +kernel) ?_)) ?_)) ?_
      simp only [List.length_nil, Nat.zero_add] at hs1
      have w1 := w0.append (Same.refl _) hs1 k1 o1 (by rw [ok.dl]; simp)
      (refine Go.run (g:=?_))
      exact Go.joined (bb1, cc1, _, _, 0) ⟨w1, by have := ok.dl; simp; omega, .inl ⟨rfl, by rw [hcv]; simp⟩⟩ ⟨rfl, rfl, trivial⟩ rfl rfl
  rintro ⟨b6, c6, h6, x, e⟩ ⟨w6, hx, hv⟩
  simp only at w6 hx hv ⊢
  have gw6 := w6.w
  have G6 := w6.same.get G4
  have nn6 := w6.n
  have hkk := ok.k
  have hff := ok.f
  rcases hv with ⟨rfl, hcv⟩ | ⟨rfl, hcv⟩
  · rw [hcv]
    simp only [PutV]
    rcases Nat.lt_or_ge 65531 x.length with g | g
    · simp only [if_neg (show ¬ x.length ≤ 65531 by omega)]
      (refine Go.run (g:=?_))
      refine GoR.call rfl rfl rfl rfl rfl rfl rfl (((wput_err3 true c.k c.f b6 x.length c6 hx (fun _ => by omega) (by simp) g _).args (by first | rfl | (simp; fail_if_success focus skip) | (simp; omega) | (congr 2; omega))).mono ?_)
      rintro _ h7 rfl s7
      (refine Go.run (g:=?_))
      (first|refine Go.finT (by first|exact .inr rfl|exact .inl rfl) rfl ?_|refine Go.fin1 (by first|exact .inr rfl|exact .inl rfl) rfl (hq:=?_))
      rfl
    · simp only [if_pos g]
      (refine Go.run (g:=?_))
      refine GoR.call rfl rfl rfl rfl rfl rfl rfl (((put_ok true c.k c.f b6 c6 (fun _ => by omega) (by simp) hff x g _ (Sv.rv w6.sv)).args (by first | rfl | (simp; fail_if_success focus skip) | (simp; omega) | (congr 2; omega))).mono ?_)
      rintro _ h7 ⟨b7, rfl, hb7, ob7⟩ s7
      (refine Go.run (g:=?_))
      (first|refine Go.finT (by first|exact .inr rfl|exact .inl rfl) rfl ?_|refine Go.fin1 (by first|exact .inr rfl|exact .inl rfl) rfl (hq:=?_))
      exact ⟨b7, _, rfl, hb7, ob7.mono (by omega)⟩
  · rw [hcv]
    simp only [PutV]
    (refine Go.run (g:=?_))
    (first|refine Go.finT (by first|exact .inr rfl|exact .inl rfl) rfl ?_|refine Go.fin1 (by first|exact .inr rfl|exact .inl rfl) rfl (hq:=?_))
    rfl
end Go.Proofs.Ytjpegoigipbmiaa
namespace Go.Proofs.Ytjpegoigipbmiaa
set_option maxRecDepth 100000
attribute [local irreducible] Go GoR GoL
theorem boolU6 : Try.prog.underlying 4 = some .bool := by kernel_rfl
def anyA (l : List CP) : Bool := l.any fun x => aloneB x.1.k
def anyS (l : List CP) : Bool := l.any fun x => startB x.1.k
def pmay (g : Nat) (l : List CP) : Bool := decide (0 < l.length) && (decide (l.length ≤ 1) || !anyA l) && (anyS l == decide (g = 0))
abbrev pkV (f t g : Nat) (a : Option Addr) (n cap : Nat) : Value := .agg #[.int .u16 f, .int .u16 t, .int .u32 g, .slice a n cap]
set_option maxHeartbeats 2000000 in
theorem pmay_spec (f t g : Nat) (a : Option Addr) (n cap : Nat) (l : List CP) (h : AHeap) (k : KS h a n cap l) (hn : n ≤ 140737488355328) : CallS Try.prog [] 12 [pkV f t g a n cap] h fun v h' => v = .bool (pmay g l) := by
  have hlen := k.len
  (refine CallS.of1 Try.func12 rfl Try.ntmps12 Try.results12 rfl ?_)
  (iterate 4 (first|refine GoR.end ?_|(refine GoR.gd rfl ?_;first|refine GoR.wanted' rfl rfl rfl rfl (g:=?_)|refine GoR.unwanted' rfl rfl rfl rfl (hd:=rfl) (hN:=rfl) (g:=?_)|refine GoR.unwantedU rfl rfl rfl rfl rfl rfl ?_)|(refine GoR.kk 0 rfl ?_;first|refine GoR.move rfl rfl rfl rfl rfl ?_|refine GoR.assign rfl rfl rfl rfl rfl ?_)|(refine GoR.kk 1 rfl ?_;first|refine GoR.load' rfl rfl rfl rfl rfl (g:=?_)|refine GoR.loadA' rfl rfl rfl rfl rfl (hv:=rfl) (g:=?_)|refine GoR.loadV' rfl rfl rfl rfl rfl (g:=?_)|refine GoR.loadVN' rfl rfl rfl rfl rfl (g:=?_))|(refine GoR.kk 2 rfl ?_;first|refine GoR.store' rfl rfl rfl rfl rfl (hl:=rfl) (h1:=rfl) (h3:=rfl) (g:=?_))|(refine GoR.kk 3 rfl ?_;first|refine GoR.fieldAddr rfl rfl rfl rfl rfl ?_|refine GoR.indexN' rfl rfl rfl rfl rfl rfl (g:=?_)|refine GoR.indexNs' rfl rfl rfl rfl rfl rfl (g:=?_)|refine GoR.indexV' rfl rfl rfl rfl rfl rfl (g:=?_)|refine GoR.indexA' rfl rfl rfl rfl rfl rfl (g:=?_)|refine GoR.fieldV' rfl rfl rfl rfl rfl (g:=?_))|(refine GoR.kk 4 rfl ?_;first|refine GoR.eq rfl rfl rfl rfl rfl rfl ?_|refine GoR.ne rfl rfl rfl rfl rfl rfl ?_|refine GoR.lt rfl rfl rfl rfl rfl rfl ?_|refine GoR.le rfl rfl rfl rfl rfl rfl ?_|refine GoR.gt rfl rfl rfl rfl rfl rfl ?_|refine GoR.ge rfl rfl rfl rfl rfl rfl ?_|refine GoR.addN' rfl rfl rfl rfl rfl rfl (g:=?_)|refine GoR.subN' rfl rfl rfl rfl rfl rfl (g:=?_)|refine GoR.add' rfl rfl rfl rfl rfl rfl (g:=?_)|refine GoR.sub' rfl rfl rfl rfl rfl rfl (g:=?_)|refine GoR.addM' rfl rfl rfl rfl rfl rfl (g:=?_)|refine GoR.subM' rfl rfl rfl rfl rfl rfl (g:=?_)|refine GoR.mulM' rfl rfl rfl rfl rfl rfl (g:=?_)|refine GoR.shrN rfl rfl rfl rfl rfl rfl rfl ?_|refine GoR.structEq rfl rfl rfl rfl rfl rfl (by rfl) (by rfl) ?_|refine GoR.structNe rfl rfl rfl rfl rfl rfl (by rfl) (by rfl) ?_|refine GoR.strEq rfl rfl rfl rfl rfl rfl ?_|refine GoR.strNe rfl rfl rfl rfl rfl rfl ?_|refine GoR.remN' rfl rfl rfl rfl rfl rfl (g:=?_)|refine GoR.quoN' rfl rfl rfl rfl rfl rfl (g:=?_)|refine GoR.shlN' rfl rfl rfl rfl rfl rfl rfl (g:=?_)|refine GoR.orN' rfl rfl rfl rfl rfl rfl (g:=?_))|(refine GoR.kk 5 rfl ?_;first|refine GoR.len rfl rfl rfl rfl rfl ?_|refine GoR.lenStr rfl rfl rfl rfl rfl ?_|refine GoR.capB rfl rfl rfl rfl rfl ?_)|(refine GoR.kk 7 rfl ?_;first|refine GoR.pickE' rfl rfl rfl rfl rfl (hx:=rfl) (hy:=rfl) (g:=?_)|refine GoR.pickN' rfl rfl rfl rfl rfl (hx:=rfl) (hy:=rfl) (g:=?_)|refine GoR.pickB rfl rfl rfl rfl rfl rfl rfl ?_)|(refine GoR.kk 8 rfl ?_;first|refine GoR.boxA rfl rfl rfl rfl rfl ?_|refine GoR.boxS rfl rfl rfl rfl rfl rfl ?_|refine GoR.alloc rfl rfl rfl rfl ?_)|(refine GoR.kk 9 rfl ?_;first|refine GoR.strV' rfl rfl rfl rfl rfl (g:=?_)|refine GoR.conv_u8 rfl rfl rfl rfl rfl ?_|refine GoR.convW' rfl rfl rfl rfl rfl (g:=?_)|refine GoR.conv_u16 rfl rfl rfl rfl rfl ?_|refine GoR.conv_u32 rfl rfl rfl rfl rfl ?_)|(refine GoR.kk 10 rfl ?_;first|refine GoR.build' rfl rfl rfl rfl rfl rfl (g:=?_))|(refine GoR.kk 11 rfl ?_;first|refine GoR.extract rfl rfl rfl rfl rfl rfl ?_|refine GoR.not rfl rfl rfl rfl rfl ?_|refine GoR.nilCheck rfl rfl rfl rfl rfl ?_|refine GoR.nilCheckF rfl rfl rfl rfl rfl ?_|refine GoR.makeFunc rfl rfl rfl rfl rfl rfl ?_)|(refine Go.kk 0 rfl ?_;refine Go.seq ?_)|(refine Go.kk 1 rfl ?_;refine Go.region (by kernel_rfl) rfl ?_)|(refine Go.kk 2 rfl ?_;refine Go.drawnQ rfl (by kernel_rfl) rfl ?_)|(refine Go.kk 3 rfl ?_;first|refine Go.cond_t' rfl (g:=?_)|refine Go.cond_f' rfl (g:=?_))|(refine Go.kk 4 rfl ?_;refine Go.block ?_)|(refine Go.kk 5 rfl ?_;first|refine Go.skip ?_|refine Go.ret ?_|refine Go.exit ?_|refine Go.scope ?_)|refine Go.leave_normal ?_|refine Go.leave_same ?_|refine Go.leave_ret ?_|refine Go.ret_code ?_|refine Go.exit_code ?_|refine Go.leave_other rfl ?_|refine Go.sc_normal ?_|refine Go.sc_ret ?_|refine Go.sc_exit ?_|refine Go.exit_back ?_|refine Go.ret_back ?_))
  refine GoR.name ?_
  intro h3 e3
  have G0 : h3.get h.n = some (.cells [.int .u16 f, .int .u16 t, .int .u32 g, .slice a n cap] 28) := by subst e3; exact AHeap.get_push_same h _
  have n3 : h3.n = h.n + 1 := by subst e3; rfl
  have S3 : Same h h3 := by subst e3; exact (Same.refl h).push _
  clear e3
  by_cases z0 : n = 0
  · subst z0
    (refine Go.run (g:=?_))
    (first|refine Go.finT (by first|exact .inr rfl|exact .inl rfl) rfl ?_|refine Go.fin1 (by first|exact .inr rfl|exact .inl rfl) rfl (hq:=?_))
    simp [retV, pmay, hlen]
  have z0' : ¬ (n : Int) = 0 := by omega
  rcases Nat.lt_or_ge 1 n with z1 | z1
  · have z1' : (1 : Int) < n := by omega
    (refine Go.run (g:=?_))
    refine GoR.call rfl rfl rfl rfl rfl rfl rfl (((someAlone_spec a n cap l _ (k.same S3) hn).args (by first | rfl | (simp; fail_if_success focus skip) | (simp; omega) | (congr 2; omega))).mono ?_)
    rintro _ h4 rfl s4
    have GX := s4.get G0
    have SX := S3.trans s4
    rw [show (l.any fun x => aloneB x.1.k) = anyA l from rfl]
    have q1 : 0 < n := by omega
    have q2 : ¬ n ≤ 1 := by omega
    cases ha : anyA l
    case false =>
      (refine Go.run (g:=?_))
      refine GoR.call rfl rfl rfl rfl rfl rfl rfl (((someStarts_spec a n cap l _ (k.same SX) hn).args (by first | rfl | (simp; fail_if_success focus skip) | (simp; omega) | (congr 2; omega))).mono ?_)
      rintro _ h6 rfl s6
      have G6 := s6.get GX
      rw [show (l.any fun x => startB x.1.k) = anyS l from rfl]
      by_cases g0 : g = 0
      · have g0' : (g : Int) = 0 := by omega
        (refine Go.run (g:=?_))
        refine GoR.boolEq rfl rfl rfl rfl rfl rfl boolU6 ?_
        (refine Go.run (g:=?_))
        (first|refine Go.finT (by first|exact .inr rfl|exact .inl rfl) rfl ?_|refine Go.fin1 (by first|exact .inr rfl|exact .inl rfl) rfl (hq:=?_))
        simp [retV, pmay, g0, *]
      · have g0' : ¬ (g : Int) = 0 := by omega
        (refine Go.run (g:=?_))
        refine GoR.boolEq rfl rfl rfl rfl rfl rfl boolU6 ?_
        (refine Go.run (g:=?_))
        (first|refine Go.finT (by first|exact .inr rfl|exact .inl rfl) rfl ?_|refine Go.fin1 (by first|exact .inr rfl|exact .inl rfl) rfl (hq:=?_))
        simp [retV, pmay, g0, *]
    case true =>
      (refine Go.run (g:=?_))
      (first|refine Go.finT (by first|exact .inr rfl|exact .inl rfl) rfl ?_|refine Go.fin1 (by first|exact .inr rfl|exact .inl rfl) rfl (hq:=?_))
      simp [retV, pmay, hlen, ha, q2]
  · have z1' : ¬ (1 : Int) < n := by omega
    have GX := G0
    have SX := S3
    have q1 : 0 < n := by omega
    have q2 : n ≤ 1 := by omega
    (refine Go.run (g:=?_))
    refine GoR.call rfl rfl rfl rfl rfl rfl rfl (((someStarts_spec a n cap l _ (k.same SX) hn).args (by first | rfl | (simp; fail_if_success focus skip) | (simp; omega) | (congr 2; omega))).mono ?_)
    rintro _ h6 rfl s6
    have G6 := s6.get GX
    rw [show (l.any fun x => startB x.1.k) = anyS l from rfl]
    by_cases g0 : g = 0
    · have g0' : (g : Int) = 0 := by omega
      (refine Go.run (g:=?_))
      refine GoR.boolEq rfl rfl rfl rfl rfl rfl boolU6 ?_
      (refine Go.run (g:=?_))
      (first|refine Go.finT (by first|exact .inr rfl|exact .inl rfl) rfl ?_|refine Go.fin1 (by first|exact .inr rfl|exact .inl rfl) rfl (hq:=?_))
      simp [retV, pmay, g0, *]
    · have g0' : ¬ (g : Int) = 0 := by omega
      (refine Go.run (g:=?_))
      refine GoR.boolEq rfl rfl rfl rfl rfl rfl boolU6 ?_
      (refine Go.run (g:=?_))
      (first|refine Go.finT (by first|exact .inr rfl|exact .inl rfl) rfl ?_|refine Go.fin1 (by first|exact .inr rfl|exact .inl rfl) rfl (hq:=?_))
      simp [retV, pmay, g0, *]
def cbytes (x : CP) : Except Nat (List UInt8) :=
  if may x.1 x.2.gaps = true then match cval x.1 x.2 with
    | some y => if y.length ≤ 65531 then .ok (tlvB true x.1.k x.1.f y) else .error 3
    | none => .error 3
  else .error 50
def bodyP : List CP → Except Nat (List UInt8)
  | [] => .ok []
  | x :: l => match cbytes x with
    | .error e => .error e
    | .ok y => match bodyP l with
      | .error e => .error e
      | .ok r => .ok (y ++ r)
theorem cbytes_len {x : CP} {y : List UInt8} (e : cbytes x = .ok y) : y.length ≤ 65540 ∧ y.length % 4 = 0 := by
  unfold cbytes at e
  split at e
  · split at e
    · split at e
      · cases e
        rw [tlvB_length]
        simp
        omega
      · cases e
    · cases e
  · cases e
theorem cbytes_err {x : CP} {e : Nat} (h : cbytes x = .error e) : e ≠ 0 := by
  unfold cbytes at h
  split at h
  · split at h
    · split at h
      · cases h
      · cases h; decide
    · cases h; decide
  · cases h; decide
theorem body_snoc (l : List CP) (x : CP) : bodyP (l ++ [x]) = match bodyP l with
    | .error e => .error e
    | .ok z => match cbytes x with
      | .error e => .error e
      | .ok y => .ok (z ++ y) := by
  induction l with
  | nil => simp only [List.nil_append, bodyP]; cases cbytes x <;> simp
  | cons w l ih =>
    simp only [List.cons_append, bodyP, ih]
    cases cbytes w with
    | error e => rfl
    | ok y =>
      simp only
      cases bodyP l with
      | error e => rfl
      | ok z => simp only; cases cbytes x <;> simp
theorem body_err {l : List CP} {i : Nat} {e : Nat} (h : bodyP (l.take i) = .error e) : bodyP l = .error e := by
  induction l generalizing i with
  | nil => simpa using h
  | cons w l ih =>
    cases i with
    | zero => simp [bodyP] at h
    | succ i =>
      simp only [List.take_succ_cons, bodyP] at h ⊢
      cases hw : cbytes w with
      | error e' => rw [hw] at h; exact h
      | ok y =>
        rw [hw] at h
        simp only at h ⊢
        cases hb : bodyP (l.take i) with
        | error e' => rw [hb] at h; simp only at h; cases h; rw [ih hb]
        | ok z => rw [hb] at h; cases h
theorem putR_bytes {h h' : AHeap} {v : Value} {c : Ck} {d : CD} (r : PutR h h' v c d) : (∃ e, cbytes (c, d) = .error e ∧ v = .tuple #[.slice none 0 0, .int .i64 e]) ∨ (∃ y b cap, cbytes (c, d) = .ok y ∧ v = .tuple #[.slice b y.length cap, .int .i64 0] ∧ Rv Try.prog h' 1 b y.length cap (y.map bv)) := by
  unfold PutR at r
  unfold cbytes
  split at r
  · rename_i hm
    rw [if_pos hm]
    unfold PutV at r
    split at r
    · rename_i hx
      exact .inl ⟨3, by rw [hx], r⟩
    · rename_i x hx
      rw [hx]
      simp only
      split at r
      · rename_i hl
        rw [if_pos hl]
        obtain ⟨b, cap, rfl, hb, ob⟩ := r
        exact .inr ⟨_, b, cap, rfl, rfl, hb.rv⟩
      · rename_i hl
        rw [if_neg hl]
        exact .inl ⟨3, rfl, r⟩
  · rename_i hm
    rw [if_neg hm]
    exact .inl ⟨50, rfl, r⟩
def PktR (h h' : AHeap) (v : Value) (f t g : Nat) (l : List CP) : Prop :=
  if pmay g l = true then match bodyP l with
    | .error e => v = .tuple #[.slice none 0 0, .int .i64 e]
    | .ok z => if 1488 < z.length then v = .tuple #[.slice none 0 0, .int .i64 3] else OwnE h h' v (hput f t g z)
  else v = .tuple #[.slice none 0 0, .int .i64 60]
theorem oneB6 (l : List UInt8) : (l.map bv).all Value.oneCell' = true := List.all_eq_true.2 fun x hx => by obtain ⟨y, -, rfl⟩ := List.mem_map.1 hx; rfl
set_option maxHeartbeats 8000000 in
theorem pput_spec (f t g : Nat) (hf : f < 65536) (ht : t < 65536) (hg : g < 4294967296) (a : Option Addr) (n cap : Nat) (l : List CP) (h : AHeap) (k : KS h a n cap l) (hn : n ≤ 2000) (hD : ∀ x ∈ l, x.1.D.n ≤ 1000000000 ∧ x.1.C.n ≤ 2000000) : CallS Try.prog [] 10 [pkV f t g a n cap] h fun v h' => PktR h h' v f t g l := by
  unfold PktR
  (refine CallS.of1 Try.func10 rfl Try.ntmps10 Try.results10 rfl ?_)
  (iterate 4 (first|refine GoR.end ?_|(refine GoR.gd rfl ?_;first|refine GoR.wanted' rfl rfl rfl rfl (g:=?_)|refine GoR.unwanted' rfl rfl rfl rfl (hd:=rfl) (hN:=rfl) (g:=?_)|refine GoR.unwantedU rfl rfl rfl rfl rfl rfl ?_)|(refine GoR.kk 0 rfl ?_;first|refine GoR.move rfl rfl rfl rfl rfl ?_|refine GoR.assign rfl rfl rfl rfl rfl ?_)|(refine GoR.kk 1 rfl ?_;first|refine GoR.load' rfl rfl rfl rfl rfl (g:=?_)|refine GoR.loadA' rfl rfl rfl rfl rfl (hv:=rfl) (g:=?_)|refine GoR.loadV' rfl rfl rfl rfl rfl (g:=?_)|refine GoR.loadVN' rfl rfl rfl rfl rfl (g:=?_))|(refine GoR.kk 2 rfl ?_;first|refine GoR.store' rfl rfl rfl rfl rfl (hl:=rfl) (h1:=rfl) (h3:=rfl) (g:=?_))|(refine GoR.kk 3 rfl ?_;first|refine GoR.fieldAddr rfl rfl rfl rfl rfl ?_|refine GoR.indexN' rfl rfl rfl rfl rfl rfl (g:=?_)|refine GoR.indexNs' rfl rfl rfl rfl rfl rfl (g:=?_)|refine GoR.indexV' rfl rfl rfl rfl rfl rfl (g:=?_)|refine GoR.indexA' rfl rfl rfl rfl rfl rfl (g:=?_)|refine GoR.fieldV' rfl rfl rfl rfl rfl (g:=?_))|(refine GoR.kk 4 rfl ?_;first|refine GoR.eq rfl rfl rfl rfl rfl rfl ?_|refine GoR.ne rfl rfl rfl rfl rfl rfl ?_|refine GoR.lt rfl rfl rfl rfl rfl rfl ?_|refine GoR.le rfl rfl rfl rfl rfl rfl ?_|refine GoR.gt rfl rfl rfl rfl rfl rfl ?_|refine GoR.ge rfl rfl rfl rfl rfl rfl ?_|refine GoR.addN' rfl rfl rfl rfl rfl rfl (g:=?_)|refine GoR.subN' rfl rfl rfl rfl rfl rfl (g:=?_)|refine GoR.add' rfl rfl rfl rfl rfl rfl (g:=?_)|refine GoR.sub' rfl rfl rfl rfl rfl rfl (g:=?_)|refine GoR.addM' rfl rfl rfl rfl rfl rfl (g:=?_)|refine GoR.subM' rfl rfl rfl rfl rfl rfl (g:=?_)|refine GoR.mulM' rfl rfl rfl rfl rfl rfl (g:=?_)|refine GoR.shrN rfl rfl rfl rfl rfl rfl rfl ?_|refine GoR.structEq rfl rfl rfl rfl rfl rfl (by rfl) (by rfl) ?_|refine GoR.structNe rfl rfl rfl rfl rfl rfl (by rfl) (by rfl) ?_|refine GoR.strEq rfl rfl rfl rfl rfl rfl ?_|refine GoR.strNe rfl rfl rfl rfl rfl rfl ?_|refine GoR.remN' rfl rfl rfl rfl rfl rfl (g:=?_)|refine GoR.quoN' rfl rfl rfl rfl rfl rfl (g:=?_)|refine GoR.shlN' rfl rfl rfl rfl rfl rfl rfl (g:=?_)|refine GoR.orN' rfl rfl rfl rfl rfl rfl (g:=?_))|(refine GoR.kk 5 rfl ?_;first|refine GoR.len rfl rfl rfl rfl rfl ?_|refine GoR.lenStr rfl rfl rfl rfl rfl ?_|refine GoR.capB rfl rfl rfl rfl rfl ?_)|(refine GoR.kk 7 rfl ?_;first|refine GoR.pickE' rfl rfl rfl rfl rfl (hx:=rfl) (hy:=rfl) (g:=?_)|refine GoR.pickN' rfl rfl rfl rfl rfl (hx:=rfl) (hy:=rfl) (g:=?_)|refine GoR.pickB rfl rfl rfl rfl rfl rfl rfl ?_)|(refine GoR.kk 8 rfl ?_;first|refine GoR.boxA rfl rfl rfl rfl rfl ?_|refine GoR.boxS rfl rfl rfl rfl rfl rfl ?_|refine GoR.alloc rfl rfl rfl rfl ?_)|(refine GoR.kk 9 rfl ?_;first|refine GoR.strV' rfl rfl rfl rfl rfl (g:=?_)|refine GoR.conv_u8 rfl rfl rfl rfl rfl ?_|refine GoR.convW' rfl rfl rfl rfl rfl (g:=?_)|refine GoR.conv_u16 rfl rfl rfl rfl rfl ?_|refine GoR.conv_u32 rfl rfl rfl rfl rfl ?_)|(refine GoR.kk 10 rfl ?_;first|refine GoR.build' rfl rfl rfl rfl rfl rfl (g:=?_))|(refine GoR.kk 11 rfl ?_;first|refine GoR.extract rfl rfl rfl rfl rfl rfl ?_|refine GoR.not rfl rfl rfl rfl rfl ?_|refine GoR.nilCheck rfl rfl rfl rfl rfl ?_|refine GoR.nilCheckF rfl rfl rfl rfl rfl ?_|refine GoR.makeFunc rfl rfl rfl rfl rfl rfl ?_)|(refine Go.kk 0 rfl ?_;refine Go.seq ?_)|(refine Go.kk 1 rfl ?_;refine Go.region (by kernel_rfl) rfl ?_)|(refine Go.kk 2 rfl ?_;refine Go.drawnQ rfl (by kernel_rfl) rfl ?_)|(refine Go.kk 3 rfl ?_;first|refine Go.cond_t' rfl (g:=?_)|refine Go.cond_f' rfl (g:=?_))|(refine Go.kk 4 rfl ?_;refine Go.block ?_)|(refine Go.kk 5 rfl ?_;first|refine Go.skip ?_|refine Go.ret ?_|refine Go.exit ?_|refine Go.scope ?_)|refine Go.leave_normal ?_|refine Go.leave_same ?_|refine Go.leave_ret ?_|refine Go.ret_code ?_|refine Go.exit_code ?_|refine Go.leave_other rfl ?_|refine Go.sc_normal ?_|refine Go.sc_ret ?_|refine Go.sc_exit ?_|refine Go.exit_back ?_|refine Go.ret_back ?_))
  refine GoR.name ?_
  intro h3 e3
  have G0 : h3.get h.n = some (.cells [.int .u16 f, .int .u16 t, .int .u32 g, .slice a n cap] 28) := by subst e3; exact AHeap.get_push_same h _
  have n3 : h3.n = h.n + 1 := by subst e3; rfl
  have S3 : Same h h3 := by subst e3; exact (Same.refl h).push _
  clear e3
  (refine Go.run (g:=?_))
  refine GoR.call rfl rfl rfl rfl rfl rfl rfl (((pmay_spec f t g a n cap l _ (k.same S3) (by omega)).args (by first | rfl | (simp; fail_if_success focus skip) | (simp; omega) | (congr 2; omega))).mono ?_)
  rintro _ h4 rfl s4
  have G4 := s4.get G0
  have n4 := s4.1
  have S4 := S3.trans s4
  clear G0
  cases hm : pmay g l
  · simp only [Bool.false_eq_true, if_false]
    (refine Go.run (g:=?_))
    (first|refine Go.finT (by first|exact .inr rfl|exact .inl rfl) rfl ?_|refine Go.fin1 (by first|exact .inr rfl|exact .inl rfl) rfl (hq:=?_))
    rfl
  simp only [if_true]
  (refine Go.run (g:=?_))
  refine Go.loop (α := Nat × Option Addr × Nat × List UInt8 × AHeap) (fun x => [(4, .slice x.2.1 x.2.2.2.1.length x.2.2.1), (15, .int .i64 x.1), (14, .int .i64 n), (13, .slice a n cap), (1, .pointer (some ⟨h.n, 0, none⟩))]) (fun _ => []) (fun x => x.2.2.2.2) (fun x => Same h4 x.2.2.2.2 ∧ x.1 ≤ n ∧ bodyP (l.take x.1) = .ok x.2.2.2.1 ∧ x.2.2.2.1.length ≤ x.1 * 65540 ∧ x.2.2.2.1.length % 4 = 0 ∧ Sv x.2.2.2.2 5 1 x.2.1 x.2.2.2.1.length x.2.2.1 (x.2.2.2.1.map bv) ∧ Own h4.n x.2.1) (fun x => n - x.1) (0, none, 0, [], h4) ?_ ?_ rfl rfl ?_
  · exact ⟨Same.refl _, Nat.zero_le _, rfl, Nat.zero_le _, rfl, .nil, Own.nil _⟩
  · exact ⟨rfl, rfl, rfl, rfl, rfl, trivial⟩
  rintro ⟨i, b5, c5, z, h5⟩ ⟨s5, hi, hb, hl, h4m, v5, o5⟩
  simp only at s5 hi hb hl h4m v5 o5 ⊢
  have k5 := k.same (S4.trans s5)
  have n5 := s5.1
  have G5 := s5.get G4
  rcases Nat.lt_or_ge i n with i0 | i0
  · have i1 : i < l.length := by rw [k.len]; exact i0
    have c0 := kcs_get i1
    have hbe : i * 15 + 15 ≤ (kcs l).length := by rw [kcs_len]; omega
    have hA5 := k5.rv
    have hs := body_snoc (l.take i) l[i]
    rw [← List.take_succ_eq_append_getElem i1, hb] at hs
    have hmem : l[i] ∈ l := List.getElem_mem i1
    generalize l[i] = x at *
    obtain ⟨c, d⟩ := x
    obtain ⟨hD1, hD2⟩ := hD _ hmem
    simp only at c0 hs hD1 hD2
    unfold Ck.cs at c0
    (refine Go.run (g:=?_))
    refine GoR.name ?_
    intro h6 e6
    have s6 : Same h5 h6 := by subst e6; exact ((Same.refl h5).push _).put (Nat.le_refl _) _
    have n6 : h6.n = h5.n + 1 := by subst e6; rfl
    have g6 : h6.get h5.n = some (.cells c.cs 43) := by subst e6; exact AHeap.get_put_same _ (by simp) _
    clear e6
    unfold Ck.cs at g6
    (refine Go.run (g:=?_))
    refine GoR.call rfl rfl rfl rfl rfl rfl rfl (((cput_spec c d _ ((k5.ok _ hmem).same s6) hD1 hD2).args (by first | rfl | (simp; fail_if_success focus skip) | (simp; omega) | (congr 2; omega))).mono ?_)
    intro v7 h7 hv7 s7
    have n7 := s7.1
    have S7 := (s5.trans s6).trans s7
    rcases putR_bytes hv7 with ⟨e, he, rfl⟩ | ⟨y, b7, c7, he, rfl, r7⟩
    · have e0 := cbytes_err he
      have e0' : ¬ (e : Int) = 0 := by omega
      rw [he] at hs
      have hs := body_err hs
      rw [hs]
      (refine Go.run (g:=?_))
      (first|refine Go.finT (by first|exact .inr rfl|exact .inl rfl) rfl ?_|refine Go.fin1 (by first|exact .inr rfl|exact .inl rfl) rfl (hq:=?_))
      rfl
    · rw [he] at hs
      obtain ⟨y1, y2⟩ := cbytes_len he
      (refine Go.run (g:=?_))
      refine GoR.appendV rfl rfl rfl rfl rfl rfl ((v5.same s6).same s7) r7 (fun i hi => .inr (by have := o5 i hi; omega)) (by omega) (by omega) (oneB6 _) ?_
      intro b8 c8 h8 v8 k8 o8
      have s8 : Same h4 h8 := S7.ownO k8 o5 (Nat.le_refl _)
      rw [← List.map_append, ← List.length_append] at v8
      rw [← List.length_append]
      (refine Go.run (g:=?_))
      exact Go.again (i + 1, b8, c8, z ++ y, h8) ⟨s8, by simp only; omega, hs, by simp only [List.length_append]; omega, by simp only [List.length_append]; omega, v8, o5.app (by omega) o8⟩ (by simp only; omega) ⟨rfl, rfl, rfl, rfl, rfl, trivial⟩ rfl rfl
  · have hie : i = n := by omega
    subst hie
    rw [← k.len, List.take_length] at hb
    rw [hb]
    simp only
    split
    · rename_i hz
      (refine Go.run (g:=?_))
      refine GoR.call rfl rfl rfl rfl rfl rfl rfl (((headPut_err2 f t g _ _ _ h4m hz _).args (by first | rfl | (simp; fail_if_success focus skip) | (simp; omega) | (congr 2; omega))).mono ?_)
      rintro _ h9 rfl s9
      (refine Go.run (g:=?_))
      (first|refine Go.finT (by first|exact .inr rfl|exact .inl rfl) rfl ?_|refine Go.fin1 (by first|exact .inr rfl|exact .inl rfl) rfl (hq:=?_))
      rfl
    · rename_i hz
      (refine Go.run (g:=?_))
      refine GoR.call rfl rfl rfl rfl rfl rfl rfl (((headPut_ok f t g hf ht hg _ _ _ z rfl h4m (by omega) _ v5.rv).args (by first | rfl | (simp; fail_if_success focus skip) | (simp; omega) | (congr 2; omega))).mono ?_)
      rintro _ h9 ⟨b9, c9, rfl, v9, o9⟩ s9
      (refine Go.run (g:=?_))
      (first|refine Go.finT (by first|exact .inr rfl|exact .inl rfl) rfl ?_|refine Go.fin1 (by first|exact .inr rfl|exact .inl rfl) rfl (hq:=?_))
      exact ⟨b9, c9, rfl, v9, o9.mono (by omega)⟩
end Go.Proofs.Ytjpegoigipbmiaa
namespace Go.Proofs.Ytjpegoigipbmiaa
set_option maxRecDepth 100000
attribute [local irreducible] Go GoR GoL
set_option maxHeartbeats 4000000 in
theorem with_spec (f t g s : Nat) (hf : f < 65536) (ht : t < 65536) (hg : g < 4294967296) (hs : s < 4294967296) (a : Option Addr) (n cap : Nat) (zs : List UInt8) (hlen : zs.length = n) (hn : n ≤ 1000000) (h : AHeap) (hz : Rv Try.prog h 1 a n cap (zs.map bv)) : CallS Try.prog [] 49 [hdV f t g, .int .u32 s, .slice a n cap] h fun v h' => OwnS h h' v (hbytes f t g s zs) := by
  have hone : ∀ l : List UInt8, (l.map bv).all Value.oneCell' = true := fun l => by simp [bv, Value.oneCell']
  (refine CallS.of3 Try.func49 rfl Try.ntmps49 Try.results49 rfl ?_)
  (refine Go.run (g:=?_))
  refine Go.loud (by kernel_rfl) rfl ?_
  (refine Go.runL (g:=?_))
  refine GoL.callS rfl rfl rfl rfl rfl rfl rfl (((bytes_spec f 2 (by omega) (by omega) _).args (by first | rfl | (simp; fail_if_success focus skip) | (simp; omega) | (congr 2; omega))).mono ?_)
  rintro _ h1 ⟨b1, c1, rfl, hb1, ob1⟩ s1
  simp only [beB_length] at hb1 ⊢
  (refine Go.runL (g:=?_))
  refine GoL.callS rfl rfl rfl rfl rfl rfl rfl (((bytes_spec t 2 (by omega) (by omega) _).args (by first | rfl | (simp; fail_if_success focus skip) | (simp; omega) | (congr 2; omega))).mono ?_)
  rintro _ h2 ⟨b2, c2, rfl, hb2, ob2⟩ s2
  simp only [beB_length] at hb2 ⊢
  (refine Go.runL (g:=?_))
  refine GoL.appendV rfl rfl rfl rfl rfl rfl (hb1.same s2) (Sv.rv hb2) (Own.ok ob1 (by simp only [AHeap.n_push]; omega)) (by omega) (by omega) (hone _) ?_
  intro b3 c3 h3 rd wr hwr hrd hb3 k3 o3
  have hn1 := s1.1
  have hn2 := s2.1
  have hn3 := k3.1
  simp only [AHeap.n_push] at hn1 ob1
  have G3 : h3.get h.n = some (.cells [.int .u16 f, .int .u16 t, .int .u32 g] 25) := Keeps.get k3 (Same.get s2 (Same.get s1 (AHeap.get_push_same _ _))) (fun hi => by have := ob1 _ hi; omega)
  have ob3 : Own (h.n + 1) b3 := ob1.app (by omega) o3
  have S3 : True → Same h h3 := fun _ => ((((Same.refl h).push _).trans s1).trans s2).ownO k3 ob1 (by omega)
  (refine Go.runL (g:=?_))
  clear hb1 hb2 s1 s2 hrd o3
  (refine GoL.end_ (g:=?_))
  clear k3 hwr ob1 ob2
  (refine Go.run (g:=?_))
  refine GoR.call rfl rfl rfl rfl rfl rfl rfl (((bytes_spec g 4 (by omega) (by omega) _).args (by first | rfl | (simp; fail_if_success focus skip) | (simp; omega) | (congr 2; omega))).mono ?_)
  rintro _ h4 ⟨b4, c4, rfl, hb4, ob4⟩ s4
  simp only [beB_length] at hb4 ⊢
  have hn4 := s4.1
  refine GoR.appendV rfl rfl rfl rfl rfl rfl (hb3.same s4) (Sv.rv hb4) (Own.ok ob3 (by omega)) (by omega) (by omega) (hone _) ?_
  intro b5 c5 h5 hb5 k5 o5
  have hn5 := k5.1
  have S5 : True → Same h h5 := fun _ => ((S3 trivial).trans s4).ownO k5 ob3 (by omega)
  have ob5 : Own (h.n + 1) b5 := ob3.app (by omega) o5
  clear hb3 s4 S3 k5 o5 G3
  (refine Go.run (g:=?_))
  refine GoR.call rfl rfl rfl rfl rfl rfl rfl (((bytes_spec s 4 (by omega) (by omega) _).args (by first | rfl | (simp; fail_if_success focus skip) | (simp; omega) | (congr 2; omega))).mono ?_)
  rintro _ h6 ⟨b6, c6, rfl, hb6, ob6⟩ s6
  simp only [beB_length] at hb6 ⊢
  have hn6 := s6.1
  refine GoR.appendV rfl rfl rfl rfl rfl rfl (hb5.same s6) (Sv.rv hb6) (Own.ok ob5 (by omega)) (by omega) (by omega) (hone _) ?_
  intro b7 c7 h7 hb7 k7 o7
  have hn7 := k7.1
  have S7 : True → Same h h7 := fun _ => ((S5 trivial).trans s6).ownO k7 ob5 (by omega)
  have ob7 : Own (h.n + 1) b7 := ob5.app (by omega) o7
  clear hb5 s6 S5 k7 o7
  (refine Go.run (g:=?_))
  refine GoR.appendV rfl rfl rfl rfl rfl rfl hb7 (hz.same (S7 trivial)) (Own.ok ob7 (by omega)) (by omega) (by omega) (hone _) ?_
  intro b8 c8 h8 hb8 k8 o8
  (refine Go.run (g:=?_))
  (first|refine Go.finT (by first|exact .inr rfl|exact .inl rfl) rfl ?_|refine Go.fin1 (by first|exact .inr rfl|exact .inl rfl) rfl (hq:=?_))
  have hL := hbytes_length f t g s zs
  rw [hlen] at hL
  refine ⟨b8, c8, by rw [hL]; rfl, ?_, (ob7.app (by omega) o8).mono (by omega)⟩
  rw [hL]
  have e : (hbytes f t g s zs).map bv = List.map bv (beB 2 f) ++ List.map bv (beB 2 t) ++ List.map bv (beB 4 g) ++ List.map bv (beB 4 s) ++ List.map bv zs := by simp [hbytes]
  rw [e]
  exact hb8
theorem refPut_err2 (f t g : Nat) (a : Option Addr) (n cap : Nat) (hb : n % 4 = 0) (hn : 1488 < n) (hn2 : n ≤ 1000000000) (h : AHeap) : CallS Try.prog [] 25 [hdV f t g, .slice a n cap] h fun v h' => v = .tuple #[.slice none 0 0, .int .i64 3] := by
  (refine CallS.of2 Try.func25 rfl Try.ntmps25 Try.results25 rfl ?_)
  (refine Go.run (g:=?_))
  (first|refine Go.finT (by first|exact .inr rfl|exact .inl rfl) rfl ?_|refine Go.fin1 (by first|exact .inr rfl|exact .inl rfl) rfl (hq:=?_))
  rfl
set_option maxHeartbeats 4000000 in
theorem refPut_ok (f t g : Nat) (hf : f < 65536) (ht : t < 65536) (hg : g < 4294967296) (a : Option Addr) (n cap : Nat) (zs : List UInt8) (hlen : zs.length = n) (hb : n % 4 = 0) (hn : n ≤ 1488) (h : AHeap) (hz : Rv Try.prog h 1 a n cap (zs.map bv)) : CallS Try.prog [] 25 [hdV f t g, .slice a n cap] h fun v h' => OwnE h h' v (hput f t g zs) := by
  have hL := fun s => hbytes_length f t g s zs
  simp only [hlen] at hL
  have hsl : Crc.sum (hbytes f t g 0 zs) < 4294967296 := Crc.more_lt _ _
  (refine CallS.of2 Try.func25 rfl Try.ntmps25 Try.results25 rfl ?_)
  (refine Go.run (g:=?_))
  refine GoR.call rfl rfl rfl rfl rfl rfl rfl (((with_spec f t g 0 hf ht hg (by omega) a n cap zs hlen (by omega) _ (hz.push _)).args (by first | rfl | (simp; fail_if_success focus skip) | (simp; omega) | (congr 2; omega))).mono ?_)
  rintro _ h1 ⟨b1, c1, rfl, hb1, ob1⟩ s1
  rw [hL] at hb1 ⊢
  (refine Go.run (g:=?_))
  refine GoR.call rfl rfl rfl rfl rfl rfl rfl (((refSum_n b1 c1 (hbytes f t g 0 zs) (12 + n) (hL 0) (by omega) _ (Sv.rv hb1)).args (by first | rfl | (simp; fail_if_success focus skip) | (simp; omega) | (congr 2; omega))).mono ?_)
  rintro _ h2 rfl s2
  have hz2 := ((hz.push (.cells [.int .u16 f, .int .u16 t, .int .u32 g] 25)).same s1).same s2
  (refine Go.run (g:=?_))
  refine GoR.call rfl rfl rfl rfl rfl rfl rfl (((with_spec f t g (Crc.sum (hbytes f t g 0 zs)) hf ht hg hsl a n cap zs hlen (by omega) _ hz2).args (by first | rfl | (simp; fail_if_success focus skip) | (simp; omega) | (congr 2; omega))).mono ?_)
  rintro _ h3 ⟨b3, c3, rfl, hb3, ob3⟩ s3
  have hn1 := s1.1
  have hn2 := s2.1
  simp only [AHeap.n_push] at hn1
  (refine Go.run (g:=?_))
  (first|refine Go.finT (by first|exact .inr rfl|exact .inl rfl) rfl ?_|refine Go.fin1 (by first|exact .inr rfl|exact .inl rfl) rfl (hq:=?_))
  exact ⟨b3, c3, rfl, hb3, ob3.mono (by omega)⟩
end Go.Proofs.Ytjpegoigipbmiaa
namespace Go.Proofs.Ytjpegoigipbmiaa
set_option maxRecDepth 100000
attribute [local irreducible] Go GoR GoL
set_option maxHeartbeats 4000000 in
theorem rput_ok (chunk : Bool) (kind flags : Nat) (a : Option Addr) (cap : Nat) (h1 : chunk = true → kind ≤ 255) (h2 : chunk = false → flags = 0) (hf : flags < 256) (hkd : kind < 65536) (zs : List UInt8) (hk : zs.length ≤ 65531) (h : AHeap) (hz : Rv Try.prog h 1 a zs.length cap (zs.map bv)) : CallS Try.prog [] 40 [.bool chunk, tlvV kind flags a zs.length cap] h fun v h' => OwnE h h' v (tlvB chunk kind flags zs) := by
  generalize hlen : zs.length = len at *
  have hone : ∀ l : List UInt8, (l.map bv).all Value.oneCell' = true := fun l => by simp [bv, Value.oneCell']
  cases chunk
  · have h2 := h2 rfl
    clear h1
    (refine CallS.of2 Try.func40 rfl Try.ntmps40 Try.results40 rfl ?_)
    (refine Go.run (g:=?_))
    refine GoR.call rfl rfl rfl rfl rfl rfl rfl (((bytes_spec kind 2 (by omega) (by omega) _).args (by first | rfl | (simp; fail_if_success focus skip) | (simp; omega) | (congr 2; omega))).mono ?_)
    rintro _ h1 ⟨b1, c1, rfl, hb1, ob1⟩ s1
    simp only [beB_length] at hb1 ⊢
    (have nn := (s1).1; try simp only [AHeap.n_push, AHeap.n_put] at nn)
    simp only [AHeap.n_push] at ob1
    (refine Go.run (g:=?_))
    obtain ⟨hd2, hhd2⟩ : ∃ l, l = beB 2 kind := ⟨_, rfl⟩
    rw [← hhd2] at hb1
    have hhd : hd2.length = 2 := by rw [hhd2, beB_length]
    rw [beB2] at hhd2
    refine GoR.call rfl rfl rfl rfl rfl rfl rfl (((bytes_spec (len + 4) 2 (by omega) (by omega) _).args (by first | rfl | (simp; fail_if_success focus skip) | (simp; omega) | (congr 2; omega))).mono ?_)
    rintro _ h2 ⟨b2, c2, rfl, hb2, ob2⟩ s2
    simp only [beB_length] at hb2 ⊢
    have n2 := s2.1
    refine GoR.appendV rfl rfl rfl rfl rfl rfl (hb1.same s2) (Sv.rv hb2) (Own.ok ob1 (by omega)) (by omega) (by omega) (hone _) ?_
    intro b3 c3 h3 hb3 k3 o3
    have n3 := k3.1
    have ob3 : Own (h.n + 1) b3 := ob1.app (by omega) o3
    have S3 : True → Same h h3 := fun _ => ((((Same.refl h).push _).trans s1).trans s2).ownO k3 ob1 (by omega)
    have G3 : h3.get h.n = some (.cells [Value.int .u16 (kind : Int), .int .u8 (flags : Int), .slice a len cap] 61) := Keeps.get k3 (Same.get s2 (Same.get s1 (AHeap.get_push_same _ _))) (fun hi => by have := ob1 _ hi; omega)
    clear k3 o3 s2 hb1 hb2
    (refine Go.run (g:=?_))
    refine GoR.appendV rfl rfl rfl rfl rfl rfl hb3 (hz.same (S3 trivial)) (Own.ok ob3 (by omega)) (by omega) (by omega) (hone _) ?_
    intro b4 c4 h4 hb4 k4 o4
    have n4 := k4.1
    have ob4 : Own (h.n + 1) b4 := ob3.app (by omega) o4
    have S4 : Same h h4 := (S3 trivial).ownO k4 ob3 (by omega)
    clear k4 o4 S3 G3 hb3 s1
    rw [← List.map_append, ← List.map_append] at hb4
    (refine Go.run (g:=?_))
    generalize hbase : hd2 ++ beB 2 (len + 4) ++ zs = base at hb4
    have hbl : base.length = 2 + 2 + len := by rw [← hbase]; simp [beB_length, hlen, hhd]; omega
    refine Go.loop (α := Nat × Option Addr × Nat × AHeap) (fun a => [(6, .slice a.2.1 (2 + 2 + len + a.1) a.2.2.1), (5, .int .i64 0)]) (fun _ => []) (fun a => a.2.2.2)
      (fun a => 2 + 2 + len + a.1 ≤ (len + 4 + 3) / 4 * 4 ∧ Same h a.2.2.2 ∧ h.n + 1 ≤ a.2.2.2.n ∧ Own (h.n + 1) a.2.1 ∧ Sv a.2.2.2 5 1 a.2.1 (2 + 2 + len + a.1) a.2.2.1 ((base ++ List.replicate a.1 0).map bv)) (fun a => (len + 4 + 3) / 4 * 4 - a.1) (0, b4, c4, h4) ?_ ?_ rfl rfl ?_
    · exact ⟨by simp only; omega, S4, by simp only; omega, ob4, by simpa using hb4⟩
    · exact ⟨rfl, rfl, trivial⟩
    · clear hb4 ob4 S4 n4 n3 n2 ob3 ob1 ob2
      rintro ⟨k, b5, c5, h5⟩ ⟨hk5, s5, n5, ob5, hb5⟩
      simp only at hk5 s5 n5 ob5 hb5 ⊢
      rcases Nat.eq_zero_or_pos ((2 + 2 + len + k) % 4) with h0 | h0
      · (refine Go.run (g:=?_))
        (first|refine Go.finT (by first|exact .inr rfl|exact .inl rfl) rfl ?_|refine Go.fin1 (by first|exact .inr rfl|exact .inl rfl) rfl (hq:=?_))
        have hL : (tlvB false kind flags zs).length = 2 + 2 + len + k := by rw [tlvB_length, hlen]; omega
        refine ⟨b5, c5, by rw [hL]; rfl, ?_, ob5.mono (by omega)⟩
        rw [hL]
        have e : tlvB false kind flags zs = base ++ List.replicate k 0 := by
          rw [← hbase, tlvB, beB2]
          have hkk : (zs.length + 4 + 3) / 4 * 4 - 4 - zs.length = k := by omega
          rw [hkk, hhd2, hlen, Nat.add_comm 4 len]
          simp
        rw [e]; exact hb5
      · (refine Go.run (g:=?_))
        refine GoR.buildO (c := [.int .u8 0]) rfl rfl rfl rfl rfl (by decide) (by rfl) (by rfl) ?_
        intro b6 h6 hb6 ob6 s6 n6
        refine GoR.appendV rfl rfl rfl rfl rfl rfl (hb5.same s6) (Sv.rv hb6) (Own.ok ob5 (by omega)) (by omega) (by omega) rfl ?_
        intro b7 c7 h7 hb7 k7 o7
        have n7 := k7.1
        (refine Go.run (g:=?_))
        refine Go.again (k + 1, b7, c7, h7) ⟨by simp only; omega, (s5.trans s6).ownO k7 ob5 (by omega), by simp only; omega, ob5.app (by omega) o7, ?_⟩ (by simp only; omega) ⟨rfl, rfl, trivial⟩ rfl rfl
        have e : (base ++ List.replicate (k + 1) (0 : UInt8)).map bv = (base ++ List.replicate k 0).map bv ++ [.int .u8 0] := by
          rw [List.replicate_succ', ← List.append_assoc, List.map_append (l₁ := base ++ List.replicate k 0)]; rfl
        rw [e]; exact hb7
  · have h1 := h1 rfl
    clear h2
    (refine CallS.of2 Try.func40 rfl Try.ntmps40 Try.results40 rfl ?_)
    (refine Go.run (g:=?_))
    refine GoR.call rfl rfl rfl rfl rfl rfl rfl (((bytes_spec kind 2 (by omega) (by omega) _).args (by first | rfl | (simp; fail_if_success focus skip) | (simp; omega) | (congr 2; omega))).mono ?_)
    rintro _ h1' ⟨b1', c1', rfl, hb1', ob1'⟩ s1'
    simp only [beB_length] at hb1' ⊢
    (have nn := (s1').1; try simp only [AHeap.n_push, AHeap.n_put] at nn)
    simp only [AHeap.n_push] at ob1'
    (refine Go.run (g:=?_))
    refine GoR.buildO (c := [.int .u8 ((kind % 256 : Nat) : Int), .int .u8 (flags : Int)]) rfl rfl rfl rfl rfl (by decide) (by rfl) (by rfl) ?_
    intro b1 h1 hb1 ob1' s1''
    have s1 := s1'.trans s1''
    intro n1
    obtain ⟨hd2, hhd2⟩ : ∃ l, l = [UInt8.ofNat kind, UInt8.ofNat flags] := ⟨_, rfl⟩
    have ehd : hd2.map bv = [.int .u8 ((kind % 256 : Nat) : Int), .int .u8 (flags : Int)] := by rw [hhd2]; simp only [List.map_cons, List.map_nil, bv_ofNat, Nat.mod_eq_of_lt hf]
    rw [← ehd] at hb1
    have hhd : hd2.length = 2 := by rw [hhd2]; rfl
    have ob1 : Own (h.n + 1) b1 := ob1'.mono (by omega)
    clear s1' s1'' hb1' ob1'
    (refine Go.run (g:=?_))
    refine GoR.call rfl rfl rfl rfl rfl rfl rfl (((bytes_spec (len + 4) 2 (by omega) (by omega) _).args (by first | rfl | (simp; fail_if_success focus skip) | (simp; omega) | (congr 2; omega))).mono ?_)
    rintro _ h2 ⟨b2, c2, rfl, hb2, ob2⟩ s2
    simp only [beB_length] at hb2 ⊢
    have n2 := s2.1
    refine GoR.appendV rfl rfl rfl rfl rfl rfl (hb1.same s2) (Sv.rv hb2) (Own.ok ob1 (by omega)) (by omega) (by omega) (hone _) ?_
    intro b3 c3 h3 hb3 k3 o3
    have n3 := k3.1
    have ob3 : Own (h.n + 1) b3 := ob1.app (by omega) o3
    have S3 : True → Same h h3 := fun _ => ((((Same.refl h).push _).trans s1).trans s2).ownO k3 ob1 (by omega)
    have G3 : h3.get h.n = some (.cells [Value.int .u16 (kind : Int), .int .u8 (flags : Int), .slice a len cap] 61) := Keeps.get k3 (Same.get s2 (Same.get s1 (AHeap.get_push_same _ _))) (fun hi => by have := ob1 _ hi; omega)
    clear k3 o3 s2 hb1 hb2
    (refine Go.run (g:=?_))
    refine GoR.appendV rfl rfl rfl rfl rfl rfl hb3 (hz.same (S3 trivial)) (Own.ok ob3 (by omega)) (by omega) (by omega) (hone _) ?_
    intro b4 c4 h4 hb4 k4 o4
    have n4 := k4.1
    have ob4 : Own (h.n + 1) b4 := ob3.app (by omega) o4
    have S4 : Same h h4 := (S3 trivial).ownO k4 ob3 (by omega)
    clear k4 o4 S3 G3 hb3 s1
    rw [← List.map_append, ← List.map_append] at hb4
    (refine Go.run (g:=?_))
    generalize hbase : hd2 ++ beB 2 (len + 4) ++ zs = base at hb4
    have hbl : base.length = 2 + 2 + len := by rw [← hbase]; simp [beB_length, hlen, hhd]; omega
    refine Go.loop (α := Nat × Option Addr × Nat × AHeap) (fun a => [(6, .slice a.2.1 (2 + 2 + len + a.1) a.2.2.1), (5, .int .i64 0)]) (fun _ => []) (fun a => a.2.2.2)
      (fun a => 2 + 2 + len + a.1 ≤ (len + 4 + 3) / 4 * 4 ∧ Same h a.2.2.2 ∧ h.n + 1 ≤ a.2.2.2.n ∧ Own (h.n + 1) a.2.1 ∧ Sv a.2.2.2 5 1 a.2.1 (2 + 2 + len + a.1) a.2.2.1 ((base ++ List.replicate a.1 0).map bv)) (fun a => (len + 4 + 3) / 4 * 4 - a.1) (0, b4, c4, h4) ?_ ?_ rfl rfl ?_
    · exact ⟨by simp only; omega, S4, by simp only; omega, ob4, by simpa using hb4⟩
    · exact ⟨rfl, rfl, trivial⟩
    · clear hb4 ob4 S4 n4 n3 n2 ob3 ob1 ob2
      rintro ⟨k, b5, c5, h5⟩ ⟨hk5, s5, n5, ob5, hb5⟩
      simp only at hk5 s5 n5 ob5 hb5 ⊢
      rcases Nat.eq_zero_or_pos ((2 + 2 + len + k) % 4) with h0 | h0
      · (refine Go.run (g:=?_))
        (first|refine Go.finT (by first|exact .inr rfl|exact .inl rfl) rfl ?_|refine Go.fin1 (by first|exact .inr rfl|exact .inl rfl) rfl (hq:=?_))
        have hL : (tlvB true kind flags zs).length = 2 + 2 + len + k := by rw [tlvB_length, hlen]; omega
        refine ⟨b5, c5, by rw [hL]; rfl, ?_, ob5.mono (by omega)⟩
        rw [hL]
        have e : tlvB true kind flags zs = base ++ List.replicate k 0 := by
          rw [← hbase, tlvB, beB2]
          have hkk : (zs.length + 4 + 3) / 4 * 4 - 4 - zs.length = k := by omega
          rw [hkk, hhd2, hlen, Nat.add_comm 4 len]
          simp
        rw [e]; exact hb5
      · (refine Go.run (g:=?_))
        refine GoR.buildO (c := [.int .u8 0]) rfl rfl rfl rfl rfl (by decide) (by rfl) (by rfl) ?_
        intro b6 h6 hb6 ob6 s6 n6
        refine GoR.appendV rfl rfl rfl rfl rfl rfl (hb5.same s6) (Sv.rv hb6) (Own.ok ob5 (by omega)) (by omega) (by omega) rfl ?_
        intro b7 c7 h7 hb7 k7 o7
        have n7 := k7.1
        (refine Go.run (g:=?_))
        refine Go.again (k + 1, b7, c7, h7) ⟨by simp only; omega, (s5.trans s6).ownO k7 ob5 (by omega), by simp only; omega, ob5.app (by omega) o7, ?_⟩ (by simp only; omega) ⟨rfl, rfl, trivial⟩ rfl rfl
        have e : (base ++ List.replicate (k + 1) (0 : UInt8)).map bv = (base ++ List.replicate k 0).map bv ++ [.int .u8 0] := by
          rw [List.replicate_succ', ← List.append_assoc, List.map_append (l₁ := base ++ List.replicate k 0)]; rfl
        rw [e]; exact hb7
end Go.Proofs.Ytjpegoigipbmiaa
namespace Go.Proofs.Ytjpegoigipbmiaa
set_option maxRecDepth 100000
attribute [local irreducible] Go GoR GoL
theorem rb_spec (x n : Nat) (hx : x < 4294967296) (hn : n ≤ 8) (h : AHeap) : CallS Try.prog [] 69 [.int .u32 x, .int .i64 n] h fun v h' => OwnS h h' v (beB n x) := by
  (refine CallS.of2 Try.func69 rfl Try.ntmps69 Try.results69 rfl ?_)
  (refine Go.run (g:=?_))
  refine GoR.call rfl rfl rfl rfl rfl rfl rfl (((bytes_spec x n (by omega) hn _).args (by first | rfl | (simp; fail_if_success focus skip) | (simp; omega) | (congr 2; omega))).mono ?_)
  rintro _ h1 hv s1
  (refine Go.run (g:=?_))
  (first|refine Go.finT (by first|exact .inr rfl|exact .inl rfl) rfl ?_|refine Go.fin1 (by first|exact .inr rfl|exact .inl rfl) rfl (hq:=?_))
  exact hv
structure VS (h0 h : AHeap) (zs : List UInt8) (b : Option Addr) (cap : Nat) : Prop where
  same : Same h0 h
  sv : Sv h 5 1 b zs.length cap (zs.map bv)
  own : Own h0.n b
theorem VS.append {h0 h1 h8 h9 : AHeap} {zs new : List UInt8} {len : Nat} {b1 b9 : Option Addr} {c1 c9 : Nat} (w : VS h0 h1 zs b1 c1) (s8 : Same h1 h8) (hs9 : Sv h9 5 1 b9 len c9 (zs.map bv ++ new.map bv)) (k9 : Keeps (blk b1) h8 h9) (o9 : ∀ i ∈ blk b9, i ∈ blk b1 ∨ h8.n ≤ i) (hlen : len = zs.length + new.length) : VS h0 h9 (zs ++ new) b9 c9 := by
  subst hlen
  have m8 := s8.1
  have m9 := k9.1
  have m0 := w.same.1
  refine ⟨(w.same.trans s8).ownO k9 w.own (Nat.le_refl _), ?_, w.own.app (by omega) o9⟩
  rw [List.length_append, List.map_append]
  exact hs9
theorem VS.to {h0 h h1 : AHeap} {zs : List UInt8} {b : Option Addr} {cap : Nat} (w : VS h0 h zs b cap) (s1 : Same h h1) : VS h0 h1 zs b cap := ⟨w.same.trans s1, w.sv.same s1, w.own⟩
theorem VS.wr {h0 h : AHeap} {zs : List UInt8} {n : Nat} {b : Option Addr} {cap : Nat} (w : VS h0 h zs b cap) (hle : n ≤ h0.n) : ∀ i ∈ blk b, i ∈ ([] : List Nat) ∨ n ≤ i := fun i hi => .inr (Nat.le_trans hle (w.own i hi))
theorem VS.of {h0 h h1 : AHeap} {v : Value} {zs : List UInt8} (s : Same h0 h) (o : OwnS h h1 v zs) (s1 : Same h h1) : ∃ b cap, v = .slice b zs.length cap ∧ VS h0 h1 zs b cap := by
  obtain ⟨b, cap, rfl, hb, ob⟩ := o
  exact ⟨b, cap, rfl, s.trans s1, hb, ob.mono s.1⟩
theorem rput_err3' (chunk : Bool) (kind flags : Nat) (a : Option Addr) (len cap : Nat) (hl : len ≤ 140737488355328) (h1 : chunk = true → kind ≤ 255) (h2 : chunk = false → flags = 0) (hk : 65531 < len) (h : AHeap) : CallS Try.prog [] 40 [.bool chunk, tlvV kind flags a len cap] h fun v h' => v = .tuple #[.slice none 0 0, .int .i64 3] := by
  cases chunk
  · have h2 := h2 rfl
    (refine CallS.of2 Try.func40 rfl Try.ntmps40 Try.results40 rfl ?_)
    (refine Go.run (g:=?_))
    (first|refine Go.finT (by first|exact .inr rfl|exact .inl rfl) rfl ?_|refine Go.fin1 (by first|exact .inr rfl|exact .inl rfl) rfl (hq:=?_))
    rfl
  · have h1 := h1 rfl
    (refine CallS.of2 Try.func40 rfl Try.ntmps40 Try.results40 rfl ?_)
    (refine Go.run (g:=?_))
    (first|refine Go.finT (by first|exact .inr rfl|exact .inl rfl) rfl ?_|refine Go.fin1 (by first|exact .inr rfl|exact .inl rfl) rfl (hq:=?_))
    rfl
set_option maxHeartbeats 4000000 in
theorem rparam_spec (h0 h : AHeap) (zs : List UInt8) (b : Option Addr) (cap : Nat) (hw : VS h0 h zs b cap) (k : Nat) (hk : k < 65536) (z : List UInt8) (hz : z.length ≤ 140737488355328) (hb : zs.length ≤ 1000000000000) (la : Option Addr) (lcap : Nat)
    (hl : Rv Try.prog h 1 la z.length lcap (z.map bv)) :
    CallS Try.prog (blk b) 70 [.slice b zs.length cap, .int .u16 k, .slice la z.length lcap] h fun v h' => ∃ b' cap', v = .tuple #[.slice b' (zs ++ pB k z).length cap', .int .i64 (if z.length ≤ 65531 then 0 else 3)] ∧ VS h0 h' (zs ++ pB k z) b' cap' := by
  have hsv := hw.sv
  rcases Nat.lt_or_ge 65531 z.length with g | g
  · rw [show pB k z = [] from by unfold pB; rw [if_neg (by omega)], if_neg (by omega)]
    (refine CallS.of3 Try.func70 rfl Try.ntmps70 Try.results70 rfl ?_)
    (refine Go.run (g:=?_))
    refine GoR.call rfl rfl rfl rfl rfl rfl rfl (((rput_err3' false k 0 la z.length lcap hz (by simp) (fun _ => rfl) g _).args (by first | rfl | (simp; fail_if_success focus skip) | (simp; omega) | (congr 2; omega))).mono ?_)
    rintro _ h1 rfl s1
    (have nn := (s1).1; try simp only [AHeap.n_push, AHeap.n_put] at nn)
    (refine Go.run (g:=?_))
    refine GoR.appendV rfl rfl rfl rfl rfl rfl (hsv.same s1) Rv.nil (fun i hi => .inl hi) (by omega) (by omega) (by simp) ?_
    intro b9 c9 h9 hs9 k9 o9
    (refine Go.run (g:=?_))
    (first|refine Go.finT (by first|exact .inr rfl|exact .inl rfl) rfl ?_|refine Go.fin1 (by first|exact .inr rfl|exact .inl rfl) rfl (hq:=?_))
    exact ⟨b9, c9, by rw [List.append_nil]; rfl, hw.append s1 hs9 k9 o9 rfl⟩
  · rw [show pB k z = tlvB false k 0 z from by unfold pB; rw [if_pos g], if_pos g]
    (refine CallS.of3 Try.func70 rfl Try.ntmps70 Try.results70 rfl ?_)
    (refine Go.run (g:=?_))
    refine GoR.call rfl rfl rfl rfl rfl rfl rfl (((rput_ok false k 0 la lcap (by simp) (fun _ => rfl) (by decide) hk z g _ hl).args (by first | rfl | (simp; fail_if_success focus skip) | (simp; omega) | (congr 2; omega))).mono ?_)
    rintro _ h1 ⟨b1, c1, rfl, hb1, ob1⟩ s1
    (have nn := (s1).1; try simp only [AHeap.n_push, AHeap.n_put] at nn)
    (refine Go.run (g:=?_))
    refine GoR.appendV rfl rfl rfl rfl rfl rfl (hsv.same s1) (Sv.rv hb1) (fun i hi => .inl hi) (by have := tlvB_length false k 0 z; omega) (by have := tlvB_length false k 0 z; omega) (by simp [bv, Value.oneCell']) ?_
    intro b9 c9 h9 hs9 k9 o9
    (refine Go.run (g:=?_))
    (first|refine Go.finT (by first|exact .inr rfl|exact .inl rfl) rfl ?_|refine Go.fin1 (by first|exact .inr rfl|exact .inl rfl) rfl (hq:=?_))
    exact ⟨b9, c9, by rw [List.length_append]; rfl, hw.append s1 hs9 k9 o9 rfl⟩
end Go.Proofs.Ytjpegoigipbmiaa
namespace Go.Proofs.Ytjpegoigipbmiaa
set_option maxRecDepth 100000
attribute [local irreducible] Go GoR GoL
theorem allShort_take {l : List CV} {i : Nat} (h : allShort (l.take i) = false) : allShort l = false := by
  have e := List.take_append_drop i l
  rw [← e]
  unfold allShort at h ⊢
  rw [List.all_append, h, Bool.false_and]
set_option maxHeartbeats 8000000 in
theorem rvalue_spec (c : Ck) (d : CD) (h : AHeap) (ok : COk h c d) (hmf : MayF c) (hD : c.D.n ≤ 1000000000) (hC : c.C.n ≤ 2000000) : CallS Try.prog [] 39 [c.v] h fun v h' => ∃ b cap x e, v = .tuple #[.slice b x.length cap, .int .i64 (e : Nat)] ∧ Sv h' 5 1 b x.length cap (x.map bv) ∧ Own h.n b ∧ ((e = 0 ∧ cval c d = some x) ∨ (e = 3 ∧ cval c d = none)) ∧ x.length ≤ 140737488355328 := by
  obtain ⟨-, mA, mG, mU, -⟩ := hmf
  have tsn := ok.tsn
  have tag := ok.tag
  have rwnd := ok.rwnd
  have ppid := ok.ppid
  have hout := ok.out
  have hinn := ok.inn
  have hsid := ok.sid
  have hssn := ok.ssn
  unfold Ck.v
  (refine CallS.of1 Try.func39 rfl Try.ntmps39 Try.results39 rfl ?_)
  (iterate 5 (first|refine GoR.end ?_|(refine GoR.gd rfl ?_;first|refine GoR.wanted' rfl rfl rfl rfl (g:=?_)|refine GoR.unwanted' rfl rfl rfl rfl (hd:=rfl) (hN:=rfl) (g:=?_)|refine GoR.unwantedU rfl rfl rfl rfl rfl rfl ?_)|(refine GoR.kk 0 rfl ?_;first|refine GoR.move rfl rfl rfl rfl rfl ?_|refine GoR.assign rfl rfl rfl rfl rfl ?_)|(refine GoR.kk 1 rfl ?_;first|refine GoR.load' rfl rfl rfl rfl rfl (g:=?_)|refine GoR.loadA' rfl rfl rfl rfl rfl (hv:=rfl) (g:=?_)|refine GoR.loadV' rfl rfl rfl rfl rfl (g:=?_)|refine GoR.loadVN' rfl rfl rfl rfl rfl (g:=?_))|(refine GoR.kk 2 rfl ?_;first|refine GoR.store' rfl rfl rfl rfl rfl (hl:=rfl) (h1:=rfl) (h3:=rfl) (g:=?_))|(refine GoR.kk 3 rfl ?_;first|refine GoR.fieldAddr rfl rfl rfl rfl rfl ?_|refine GoR.indexN' rfl rfl rfl rfl rfl rfl (g:=?_)|refine GoR.indexNs' rfl rfl rfl rfl rfl rfl (g:=?_)|refine GoR.indexV' rfl rfl rfl rfl rfl rfl (g:=?_)|refine GoR.indexA' rfl rfl rfl rfl rfl rfl (g:=?_)|refine GoR.fieldV' rfl rfl rfl rfl rfl (g:=?_))|(refine GoR.kk 4 rfl ?_;first|refine GoR.eq rfl rfl rfl rfl rfl rfl ?_|refine GoR.ne rfl rfl rfl rfl rfl rfl ?_|refine GoR.lt rfl rfl rfl rfl rfl rfl ?_|refine GoR.le rfl rfl rfl rfl rfl rfl ?_|refine GoR.gt rfl rfl rfl rfl rfl rfl ?_|refine GoR.ge rfl rfl rfl rfl rfl rfl ?_|refine GoR.addN' rfl rfl rfl rfl rfl rfl (g:=?_)|refine GoR.subN' rfl rfl rfl rfl rfl rfl (g:=?_)|refine GoR.add' rfl rfl rfl rfl rfl rfl (g:=?_)|refine GoR.sub' rfl rfl rfl rfl rfl rfl (g:=?_)|refine GoR.addM' rfl rfl rfl rfl rfl rfl (g:=?_)|refine GoR.subM' rfl rfl rfl rfl rfl rfl (g:=?_)|refine GoR.mulM' rfl rfl rfl rfl rfl rfl (g:=?_)|refine GoR.shrN rfl rfl rfl rfl rfl rfl rfl ?_|refine GoR.structEq rfl rfl rfl rfl rfl rfl (by rfl) (by rfl) ?_|refine GoR.structNe rfl rfl rfl rfl rfl rfl (by rfl) (by rfl) ?_|refine GoR.strEq rfl rfl rfl rfl rfl rfl ?_|refine GoR.strNe rfl rfl rfl rfl rfl rfl ?_|refine GoR.remN' rfl rfl rfl rfl rfl rfl (g:=?_)|refine GoR.quoN' rfl rfl rfl rfl rfl rfl (g:=?_)|refine GoR.shlN' rfl rfl rfl rfl rfl rfl rfl (g:=?_)|refine GoR.orN' rfl rfl rfl rfl rfl rfl (g:=?_))|(refine GoR.kk 5 rfl ?_;first|refine GoR.len rfl rfl rfl rfl rfl ?_|refine GoR.lenStr rfl rfl rfl rfl rfl ?_|refine GoR.capB rfl rfl rfl rfl rfl ?_)|(refine GoR.kk 7 rfl ?_;first|refine GoR.pickE' rfl rfl rfl rfl rfl (hx:=rfl) (hy:=rfl) (g:=?_)|refine GoR.pickN' rfl rfl rfl rfl rfl (hx:=rfl) (hy:=rfl) (g:=?_)|refine GoR.pickB rfl rfl rfl rfl rfl rfl rfl ?_)|(refine GoR.kk 8 rfl ?_;first|refine GoR.boxA rfl rfl rfl rfl rfl ?_|refine GoR.boxS rfl rfl rfl rfl rfl rfl ?_|refine GoR.alloc rfl rfl rfl rfl ?_)|(refine GoR.kk 9 rfl ?_;first|refine GoR.strV' rfl rfl rfl rfl rfl (g:=?_)|refine GoR.conv_u8 rfl rfl rfl rfl rfl ?_|refine GoR.convW' rfl rfl rfl rfl rfl (g:=?_)|refine GoR.conv_u16 rfl rfl rfl rfl rfl ?_|refine GoR.conv_u32 rfl rfl rfl rfl rfl ?_)|(refine GoR.kk 10 rfl ?_;first|refine GoR.build' rfl rfl rfl rfl rfl rfl (g:=?_))|(refine GoR.kk 11 rfl ?_;first|refine GoR.extract rfl rfl rfl rfl rfl rfl ?_|refine GoR.not rfl rfl rfl rfl rfl ?_|refine GoR.nilCheck rfl rfl rfl rfl rfl ?_|refine GoR.nilCheckF rfl rfl rfl rfl rfl ?_|refine GoR.makeFunc rfl rfl rfl rfl rfl rfl ?_)|(refine Go.kk 0 rfl ?_;refine Go.seq ?_)|(refine Go.kk 1 rfl ?_;refine Go.region (by kernel_rfl) rfl ?_)|(refine Go.kk 2 rfl ?_;refine Go.drawnQ rfl (by kernel_rfl) rfl ?_)|(refine Go.kk 3 rfl ?_;first|refine Go.cond_t' rfl (g:=?_)|refine Go.cond_f' rfl (g:=?_))|(refine Go.kk 4 rfl ?_;refine Go.block ?_)|(refine Go.kk 5 rfl ?_;first|refine Go.skip ?_|refine Go.ret ?_|refine Go.exit ?_|refine Go.scope ?_)|refine Go.leave_normal ?_|refine Go.leave_same ?_|refine Go.leave_ret ?_|refine Go.ret_code ?_|refine Go.exit_code ?_|refine Go.leave_other rfl ?_|refine Go.sc_normal ?_|refine Go.sc_ret ?_|refine Go.sc_exit ?_|refine Go.exit_back ?_|refine Go.ret_back ?_))
  refine GoR.name ?_
  intro h3 e3
  have G3 : h3.get h.n = some (.cells c.cs 43) := by
    subst e3
    exact AHeap.get_push_same h _
  have n3 : h3.n = h.n + 1 := by subst e3; rfl
  have S3 : Same h h3 := by subst e3; exact (Same.refl h).push _
  clear e3
  unfold Ck.cs at G3
  have ok3 := ok.same S3
  have w0 : VS h3 h3 [] none 0 := ⟨Same.refl _, .nil, Own.nil _⟩
  rcases (show c.k = 0 ∨ c.k = 1 ∨ c.k = 2 ∨ c.k = 3 ∨ c.k = 6 ∨ c.k = 9 ∨ c.k = 7 ∨ (c.k ≠ 0 ∧ c.k ≠ 1 ∧ c.k ≠ 2 ∧ c.k ≠ 3 ∧ c.k ≠ 6 ∧ c.k ≠ 9 ∧ c.k ≠ 7) by omega) with hk | hk | hk | hk | hk | hk | hk | ⟨k0, k1, k2, k3, k6, k9, k7⟩
  · have hcv : cval c d = some (beB 4 c.tsn ++ beB 2 c.sid ++ beB 2 c.ssn ++ beB 4 c.ppid ++ d.data) := by unfold cval; rw [hk]; rfl
    (refine Go.run (g:=?_))
    refine Go.loud (by kernel_rfl) rfl ?_
    (refine Go.runL (g:=?_))
    refine GoL.callS rfl rfl rfl rfl rfl rfl rfl (((rb_spec c.tsn 4 (by omega) (by decide) _).args (by first | rfl | (simp; fail_if_success focus skip) | (simp; omega) | (congr 2; omega))).mono ?_)
    rintro _ ha1 va1 sa1
    obtain ⟨ba1, ca1, rfl, wa1⟩ := VS.of (Same.refl h3) va1 sa1
    have na1 := sa1.1
    have Ga1 := sa1.get G3
    (refine Go.runL (g:=?_))
    refine GoL.callS rfl rfl rfl rfl rfl rfl rfl (((rb_spec c.sid 2 (by omega) (by decide) _).args (by first | rfl | (simp; fail_if_success focus skip) | (simp; omega) | (congr 2; omega))).mono ?_)
    rintro _ hb1 ⟨bb1, cb1, rfl, vb1, ob1⟩ sb1
    have nb1 := sb1.1
    (refine Go.runL (g:=?_))
    refine GoL.appendV rfl rfl rfl rfl rfl rfl (wa1.sv.same sb1) (Sv.rv vb1) (wa1.wr (by omega)) (by simp [beB_length]) (by simp [beB_length]) (by simp [bv, Value.oneCell']) ?_
    intro bc1 cc1 hc1 rd1 wr1 hwr1 hrd1 vc1 kc1 oc1
    have nc1 := kc1.1
    have w1 := wa1.append sb1 vc1 kc1 oc1 rfl
    (refine Go.runL (g:=?_))
    refine GoL.end_ (hl := by (simp only [List.nil_append, List.cons_append]); repeat (first | exact loudP.nil | refine loudP.none ?_ | refine loudP.new (fun _ hb => absurd hb List.not_mem_nil) ?_ | refine loudP.row (by repeat (first | exact loudRowP.nil | refine loudRowP.none ?_ | refine loudRowP.bef (by decide +kernel) ?_)) ?_)) ?_
    rw [← List.length_append]
    have G1 := w1.same.get G3
    have nn1 := w1.same.1
    (refine Go.run (g:=?_))
    refine GoR.call rfl rfl rfl rfl rfl rfl rfl (((rb_spec c.ssn 2 (by omega) (by decide) _).args (by first | rfl | (simp; fail_if_success focus skip) | (simp; omega) | (congr 2; omega))).mono ?_)
    rintro _ hb2 ⟨bb2, cb2, rfl, vb2, ob2⟩ sb2
    have nb2 := sb2.1
    (refine Go.run (g:=?_))
    refine GoR.appendV rfl rfl rfl rfl rfl rfl (w1.sv.same sb2) (Sv.rv vb2) (w1.wr (by omega)) (by simp [beB_length]) (by simp [beB_length]) (by simp [bv, Value.oneCell']) ?_
    intro bc2 cc2 hc2 vc2 kc2 oc2
    have nc2 := kc2.1
    have w2 := w1.append sb2 vc2 kc2 oc2 rfl
    rw [← List.length_append]
    have G2 := w2.same.get G3
    have nn2 := w2.same.1
    (refine Go.run (g:=?_))
    refine GoR.call rfl rfl rfl rfl rfl rfl rfl (((rb_spec c.ppid 4 (by omega) (by decide) _).args (by first | rfl | (simp; fail_if_success focus skip) | (simp; omega) | (congr 2; omega))).mono ?_)
    rintro _ hb3 ⟨bb3, cb3, rfl, vb3, ob3⟩ sb3
    have nb3 := sb3.1
    (refine Go.run (g:=?_))
    refine GoR.appendV rfl rfl rfl rfl rfl rfl (w2.sv.same sb3) (Sv.rv vb3) (w2.wr (by omega)) (by simp [beB_length]) (by simp [beB_length]) (by simp [bv, Value.oneCell']) ?_
    intro bc3 cc3 hc3 vc3 kc3 oc3
    have nc3 := kc3.1
    have w3 := w2.append sb3 vc3 kc3 oc3 rfl
    rw [← List.length_append]
    have Gq3 := w3.same.get G3
    have nn3 := w3.same.1
    (refine Go.run (g:=?_))
    refine GoR.appendV rfl rfl rfl rfl rfl rfl w3.sv (ok3.dv.same w3.same) (w3.wr (by omega)) (by simp [beB_length]; omega) (by simp [beB_length]; omega) (by simp [bv, Value.oneCell']) ?_
    intro bc4 cc4 hc4 vc4 kc4 oc4
    have nc4 := kc4.1
    have w4 := w3.append (Same.refl _) vc4 kc4 oc4 (by rw [ok.dl])
    (refine Go.run (g:=?_))
    (first|refine Go.finT (by first|exact .inr rfl|exact .inl rfl) rfl ?_|refine Go.fin1 (by first|exact .inr rfl|exact .inl rfl) rfl (hq:=?_))
    have hdl := ok.dl
    exact ⟨bc4, cc4, _, 0, by first | (simp only [List.length_append, ok.dl]; done) | (simp only [List.length_append, ok.dl]; rfl), w4.sv, w4.own.mono (by omega), .inl ⟨rfl, hcv⟩, by simp [beB_length]; omega⟩
  · (refine Go.run (g:=?_))
    refine Go.loud (by kernel_rfl) rfl ?_
    (refine Go.runL (g:=?_))
    refine GoL.callS rfl rfl rfl rfl rfl rfl rfl (((rb_spec c.tag 4 (by omega) (by decide) _).args (by first | rfl | (simp; fail_if_success focus skip) | (simp; omega) | (congr 2; omega))).mono ?_)
    rintro _ ha1 va1 sa1
    obtain ⟨ba1, ca1, rfl, wa1⟩ := VS.of (Same.refl h3) va1 sa1
    have na1 := sa1.1
    have Ga1 := sa1.get G3
    (refine Go.runL (g:=?_))
    refine GoL.callS rfl rfl rfl rfl rfl rfl rfl (((rb_spec c.rwnd 4 (by omega) (by decide) _).args (by first | rfl | (simp; fail_if_success focus skip) | (simp; omega) | (congr 2; omega))).mono ?_)
    rintro _ hb1 ⟨bb1, cb1, rfl, vb1, ob1⟩ sb1
    have nb1 := sb1.1
    (refine Go.runL (g:=?_))
    refine GoL.appendV rfl rfl rfl rfl rfl rfl (wa1.sv.same sb1) (Sv.rv vb1) (wa1.wr (by omega)) (by simp [beB_length]) (by simp [beB_length]) (by simp [bv, Value.oneCell']) ?_
    intro bc1 cc1 hc1 rd1 wr1 hwr1 hrd1 vc1 kc1 oc1
    have nc1 := kc1.1
    have w1 := wa1.append sb1 vc1 kc1 oc1 rfl
    (refine Go.runL (g:=?_))
    refine GoL.end_ (hl := by (simp only [List.nil_append, List.cons_append]); repeat (first | exact loudP.nil | refine loudP.none ?_ | refine loudP.new (fun _ hb => absurd hb List.not_mem_nil) ?_ | refine loudP.row (by repeat (first | exact loudRowP.nil | refine loudRowP.none ?_ | refine loudRowP.bef (by decide +kernel) ?_)) ?_)) ?_
    rw [← List.length_append]
    have G1 := w1.same.get G3
    have nn1 := w1.same.1
    (refine Go.run (g:=?_))
    refine GoR.call rfl rfl rfl rfl rfl rfl rfl (((rb_spec c.out 2 (by omega) (by decide) _).args (by first | rfl | (simp; fail_if_success focus skip) | (simp; omega) | (congr 2; omega))).mono ?_)
    rintro _ hb2 ⟨bb2, cb2, rfl, vb2, ob2⟩ sb2
    have nb2 := sb2.1
    (refine Go.run (g:=?_))
    refine GoR.appendV rfl rfl rfl rfl rfl rfl (w1.sv.same sb2) (Sv.rv vb2) (w1.wr (by omega)) (by simp [beB_length]) (by simp [beB_length]) (by simp [bv, Value.oneCell']) ?_
    intro bc2 cc2 hc2 vc2 kc2 oc2
    have nc2 := kc2.1
    have w2 := w1.append sb2 vc2 kc2 oc2 rfl
    rw [← List.length_append]
    have G2 := w2.same.get G3
    have nn2 := w2.same.1
    (refine Go.run (g:=?_))
    refine GoR.call rfl rfl rfl rfl rfl rfl rfl (((rb_spec c.inn 2 (by omega) (by decide) _).args (by first | rfl | (simp; fail_if_success focus skip) | (simp; omega) | (congr 2; omega))).mono ?_)
    rintro _ hb3 ⟨bb3, cb3, rfl, vb3, ob3⟩ sb3
    have nb3 := sb3.1
    (refine Go.run (g:=?_))
    refine GoR.appendV rfl rfl rfl rfl rfl rfl (w2.sv.same sb3) (Sv.rv vb3) (w2.wr (by omega)) (by simp [beB_length]) (by simp [beB_length]) (by simp [bv, Value.oneCell']) ?_
    intro bc3 cc3 hc3 vc3 kc3 oc3
    have nc3 := kc3.1
    have w3 := w2.append sb3 vc3 kc3 oc3 rfl
    rw [← List.length_append]
    have Gq3 := w3.same.get G3
    have nn3 := w3.same.1
    (refine Go.run (g:=?_))
    refine GoR.call rfl rfl rfl rfl rfl rfl rfl (((rb_spec c.tsn 4 (by omega) (by decide) _).args (by first | rfl | (simp; fail_if_success focus skip) | (simp; omega) | (congr 2; omega))).mono ?_)
    rintro _ hb4 ⟨bb4, cb4, rfl, vb4, ob4⟩ sb4
    have nb4 := sb4.1
    (refine Go.run (g:=?_))
    refine GoR.appendV rfl rfl rfl rfl rfl rfl (w3.sv.same sb4) (Sv.rv vb4) (w3.wr (by omega)) (by simp [beB_length]) (by simp [beB_length]) (by simp [bv, Value.oneCell']) ?_
    intro bc4 cc4 hc4 vc4 kc4 oc4
    have nc4 := kc4.1
    have w4 := w3.append sb4 vc4 kc4 oc4 rfl
    rw [← List.length_append]
    have G4 := w4.same.get G3
    have nn4 := w4.same.1
    have hz3l : (beB 4 c.tag ++ beB 4 c.rwnd ++ beB 2 c.out ++ beB 2 c.inn ++ beB 4 c.tsn).length = 16 := by simp [beB_length]
    have hib : initB c d = (beB 4 c.tag ++ beB 4 c.rwnd ++ beB 2 c.out ++ beB 2 c.inn ++ beB 4 c.tsn) ++ addrsB d.addrs := rfl
    generalize (beB 4 c.tag ++ beB 4 c.rwnd ++ beB 2 c.out ++ beB 2 c.inn ++ beB 4 c.tsn) = hdr at w4 hz3l hib ⊢
    (refine Go.run (g:=?_))
    refine Go.loop (α := Nat × Option Addr × Nat × AHeap) (fun x => [(6, .int .i64 x.1), (1, .pointer (some ⟨h.n, 0, none⟩)), (4, .slice x.2.1 (hdr ++ addrsB (d.addrs.take x.1)).length x.2.2.1), (5, .int .i64 0)]) (fun _ => []) (fun x => x.2.2.2)
      (fun x => x.1 ≤ c.A.n ∧ VS h3 x.2.2.2 (hdr ++ addrsB (d.addrs.take x.1)) x.2.1 x.2.2.1) (fun x => c.A.n - x.1) (0, bc4, cc4, hc4) ?_ ?_ rfl rfl ?_
    · exact ⟨Nat.zero_le _, by simpa [addrsB] using w4⟩
    · exact ⟨rfl, rfl, by simp [addrsB]; rfl, rfl, trivial⟩
    clear w0 w1 w2 w3 w4 G1 G2 G4
    rintro ⟨i, b6, c6, h6⟩ ⟨hi, w6⟩
    simp only at hi w6 ⊢
    have nn6 := w6.same.1
    have G6 := w6.same.get G3
    rcases Nat.lt_or_ge i c.A.n with i0 | i0
    · have i1 : i < d.addrs.length := by rw [ok.al]; exact i0
      have c0 := w32s_get i1
      have hx := ok.ab _ (List.getElem_mem i1)
      have hbe : i < (w32s d.addrs).length := by rw [w32s_len]; exact i1
      have hA6 := ok3.av.same w6.same
      have e1 : addrsB (d.addrs.take (i + 1)) = addrsB (d.addrs.take i) ++ pB 5 (beB 4 d.addrs[i]) := by
        unfold addrsB
        rw [flat_snoc _ i1, show pB 5 (beB 4 d.addrs[i]) = tlvB false 5 0 (beB 4 d.addrs[i]) from by unfold pB; rw [if_pos (by rw [beB_length]; decide)]]
      have hl6 : (hdr ++ addrsB (d.addrs.take i)).length ≤ 1000 := by rw [List.length_append, addrsB_len, hz3l, List.length_take]; omega
      generalize d.addrs[i] = x at *
      (refine Go.run (g:=?_))
      refine GoR.call rfl rfl rfl rfl rfl rfl rfl (((rb_spec x 4 (by omega) (by decide) _).args (by first | rfl | (simp; fail_if_success focus skip) | (simp; omega) | (congr 2; omega))).mono ?_)
      rintro _ hb7 ⟨bb7, cb7, rfl, vb7, ob7⟩ sb7
      have nb7 := sb7.1
      (refine Go.run (g:=?_))
      refine GoR.callW rfl rfl rfl rfl rfl rfl rfl (((rparam_spec _ _ _ _ _ (w6.to sb7) 5 (by decide) (beB 4 x) (by rw [beB_length]; decide) (by omega) _ _ (Sv.rv vb7)).args (by first | rfl | (simp; fail_if_success focus skip) | (simp; omega) | (congr 2; omega))).mono ?_)
      rintro _ hh9 ⟨bb9, cc9, rfl, w9⟩ -
      refine ⟨(w6.to sb7).wr (by omega), ?_⟩
      rw [if_pos (by rw [beB_length]; decide)]
      have nn9 := w9.same.1
      (refine Go.run (g:=?_))
      exact Go.again (i + 1, bb9, cc9, hh9) ⟨by simp only; omega, by simp only; rw [e1, ← List.append_assoc]; exact w9⟩ (by simp only; omega) ⟨rfl, rfl, by simp only; rw [e1, ← List.append_assoc]; rfl, rfl, trivial⟩ rfl rfl
    have hie : i = c.A.n := by omega
    subst hie
    rw [← ok.al, List.take_length, ← hib] at w6
    rw [show hdr ++ addrsB (d.addrs.take c.A.n) = initB c d by rw [← ok.al, List.take_length, hib]]
    have hil : (initB c d).length = 16 + c.A.n * 8 := by rw [hib, List.length_append, addrsB_len, hz3l, ok.al]
    have hcv : cval c d = some (initB c d) := by unfold cval; rw [hk]; rfl
    (refine Go.run (g:=?_))
    (first|refine Go.finT (by first|exact .inr rfl|exact .inl rfl) rfl ?_|refine Go.fin1 (by first|exact .inr rfl|exact .inl rfl) rfl (hq:=?_))
    exact ⟨b6, c6, _, 0, rfl, w6.sv, w6.own.mono (by omega), .inl ⟨rfl, hcv⟩, by show (initB c d).length ≤ _; omega⟩
  · (refine Go.run (g:=?_))
    refine Go.loud (by kernel_rfl) rfl ?_
    (refine Go.runL (g:=?_))
    refine GoL.callS rfl rfl rfl rfl rfl rfl rfl (((rb_spec c.tag 4 (by omega) (by decide) _).args (by first | rfl | (simp; fail_if_success focus skip) | (simp; omega) | (congr 2; omega))).mono ?_)
    rintro _ ha1 va1 sa1
    obtain ⟨ba1, ca1, rfl, wa1⟩ := VS.of (Same.refl h3) va1 sa1
    have na1 := sa1.1
    have Ga1 := sa1.get G3
    (refine Go.runL (g:=?_))
    refine GoL.callS rfl rfl rfl rfl rfl rfl rfl (((rb_spec c.rwnd 4 (by omega) (by decide) _).args (by first | rfl | (simp; fail_if_success focus skip) | (simp; omega) | (congr 2; omega))).mono ?_)
    rintro _ hb1 ⟨bb1, cb1, rfl, vb1, ob1⟩ sb1
    have nb1 := sb1.1
    (refine Go.runL (g:=?_))
    refine GoL.appendV rfl rfl rfl rfl rfl rfl (wa1.sv.same sb1) (Sv.rv vb1) (wa1.wr (by omega)) (by simp [beB_length]) (by simp [beB_length]) (by simp [bv, Value.oneCell']) ?_
    intro bc1 cc1 hc1 rd1 wr1 hwr1 hrd1 vc1 kc1 oc1
    have nc1 := kc1.1
    have w1 := wa1.append sb1 vc1 kc1 oc1 rfl
    (refine Go.runL (g:=?_))
    refine GoL.end_ (hl := by (simp only [List.nil_append, List.cons_append]); repeat (first | exact loudP.nil | refine loudP.none ?_ | refine loudP.new (fun _ hb => absurd hb List.not_mem_nil) ?_ | refine loudP.row (by repeat (first | exact loudRowP.nil | refine loudRowP.none ?_ | refine loudRowP.bef (by decide +kernel) ?_)) ?_)) ?_
    rw [← List.length_append]
    have G1 := w1.same.get G3
    have nn1 := w1.same.1
    (refine Go.run (g:=?_))
    refine GoR.call rfl rfl rfl rfl rfl rfl rfl (((rb_spec c.out 2 (by omega) (by decide) _).args (by first | rfl | (simp; fail_if_success focus skip) | (simp; omega) | (congr 2; omega))).mono ?_)
    rintro _ hb2 ⟨bb2, cb2, rfl, vb2, ob2⟩ sb2
    have nb2 := sb2.1
    (refine Go.run (g:=?_))
    refine GoR.appendV rfl rfl rfl rfl rfl rfl (w1.sv.same sb2) (Sv.rv vb2) (w1.wr (by omega)) (by simp [beB_length]) (by simp [beB_length]) (by simp [bv, Value.oneCell']) ?_
    intro bc2 cc2 hc2 vc2 kc2 oc2
    have nc2 := kc2.1
    have w2 := w1.append sb2 vc2 kc2 oc2 rfl
    rw [← List.length_append]
    have G2 := w2.same.get G3
    have nn2 := w2.same.1
    (refine Go.run (g:=?_))
    refine GoR.call rfl rfl rfl rfl rfl rfl rfl (((rb_spec c.inn 2 (by omega) (by decide) _).args (by first | rfl | (simp; fail_if_success focus skip) | (simp; omega) | (congr 2; omega))).mono ?_)
    rintro _ hb3 ⟨bb3, cb3, rfl, vb3, ob3⟩ sb3
    have nb3 := sb3.1
    (refine Go.run (g:=?_))
    refine GoR.appendV rfl rfl rfl rfl rfl rfl (w2.sv.same sb3) (Sv.rv vb3) (w2.wr (by omega)) (by simp [beB_length]) (by simp [beB_length]) (by simp [bv, Value.oneCell']) ?_
    intro bc3 cc3 hc3 vc3 kc3 oc3
    have nc3 := kc3.1
    have w3 := w2.append sb3 vc3 kc3 oc3 rfl
    rw [← List.length_append]
    have Gq3 := w3.same.get G3
    have nn3 := w3.same.1
    (refine Go.run (g:=?_))
    refine GoR.call rfl rfl rfl rfl rfl rfl rfl (((rb_spec c.tsn 4 (by omega) (by decide) _).args (by first | rfl | (simp; fail_if_success focus skip) | (simp; omega) | (congr 2; omega))).mono ?_)
    rintro _ hb4 ⟨bb4, cb4, rfl, vb4, ob4⟩ sb4
    have nb4 := sb4.1
    (refine Go.run (g:=?_))
    refine GoR.appendV rfl rfl rfl rfl rfl rfl (w3.sv.same sb4) (Sv.rv vb4) (w3.wr (by omega)) (by simp [beB_length]) (by simp [beB_length]) (by simp [bv, Value.oneCell']) ?_
    intro bc4 cc4 hc4 vc4 kc4 oc4
    have nc4 := kc4.1
    have w4 := w3.append sb4 vc4 kc4 oc4 rfl
    rw [← List.length_append]
    have G4 := w4.same.get G3
    have nn4 := w4.same.1
    have hz3l : (beB 4 c.tag ++ beB 4 c.rwnd ++ beB 2 c.out ++ beB 2 c.inn ++ beB 4 c.tsn).length = 16 := by simp [beB_length]
    have hib : initB c d = (beB 4 c.tag ++ beB 4 c.rwnd ++ beB 2 c.out ++ beB 2 c.inn ++ beB 4 c.tsn) ++ addrsB d.addrs := rfl
    generalize (beB 4 c.tag ++ beB 4 c.rwnd ++ beB 2 c.out ++ beB 2 c.inn ++ beB 4 c.tsn) = hdr at w4 hz3l hib ⊢
    (refine Go.run (g:=?_))
    refine Go.loop (α := Nat × Option Addr × Nat × AHeap) (fun x => [(6, .int .i64 x.1), (1, .pointer (some ⟨h.n, 0, none⟩)), (4, .slice x.2.1 (hdr ++ addrsB (d.addrs.take x.1)).length x.2.2.1), (5, .int .i64 0)]) (fun _ => []) (fun x => x.2.2.2)
      (fun x => x.1 ≤ c.A.n ∧ VS h3 x.2.2.2 (hdr ++ addrsB (d.addrs.take x.1)) x.2.1 x.2.2.1) (fun x => c.A.n - x.1) (0, bc4, cc4, hc4) ?_ ?_ rfl rfl ?_
    · exact ⟨Nat.zero_le _, by simpa [addrsB] using w4⟩
    · exact ⟨rfl, rfl, by simp [addrsB]; rfl, rfl, trivial⟩
    clear w0 w1 w2 w3 w4 G1 G2 G4
    rintro ⟨i, b6, c6, h6⟩ ⟨hi, w6⟩
    simp only at hi w6 ⊢
    have nn6 := w6.same.1
    have G6 := w6.same.get G3
    rcases Nat.lt_or_ge i c.A.n with i0 | i0
    · have i1 : i < d.addrs.length := by rw [ok.al]; exact i0
      have c0 := w32s_get i1
      have hx := ok.ab _ (List.getElem_mem i1)
      have hbe : i < (w32s d.addrs).length := by rw [w32s_len]; exact i1
      have hA6 := ok3.av.same w6.same
      have e1 : addrsB (d.addrs.take (i + 1)) = addrsB (d.addrs.take i) ++ pB 5 (beB 4 d.addrs[i]) := by
        unfold addrsB
        rw [flat_snoc _ i1, show pB 5 (beB 4 d.addrs[i]) = tlvB false 5 0 (beB 4 d.addrs[i]) from by unfold pB; rw [if_pos (by rw [beB_length]; decide)]]
      have hl6 : (hdr ++ addrsB (d.addrs.take i)).length ≤ 1000 := by rw [List.length_append, addrsB_len, hz3l, List.length_take]; omega
      generalize d.addrs[i] = x at *
      (refine Go.run (g:=?_))
      refine GoR.call rfl rfl rfl rfl rfl rfl rfl (((rb_spec x 4 (by omega) (by decide) _).args (by first | rfl | (simp; fail_if_success focus skip) | (simp; omega) | (congr 2; omega))).mono ?_)
      rintro _ hb7 ⟨bb7, cb7, rfl, vb7, ob7⟩ sb7
      have nb7 := sb7.1
      (refine Go.run (g:=?_))
      refine GoR.callW rfl rfl rfl rfl rfl rfl rfl (((rparam_spec _ _ _ _ _ (w6.to sb7) 5 (by decide) (beB 4 x) (by rw [beB_length]; decide) (by omega) _ _ (Sv.rv vb7)).args (by first | rfl | (simp; fail_if_success focus skip) | (simp; omega) | (congr 2; omega))).mono ?_)
      rintro _ hh9 ⟨bb9, cc9, rfl, w9⟩ -
      refine ⟨(w6.to sb7).wr (by omega), ?_⟩
      rw [if_pos (by rw [beB_length]; decide)]
      have nn9 := w9.same.1
      (refine Go.run (g:=?_))
      exact Go.again (i + 1, bb9, cc9, hh9) ⟨by simp only; omega, by simp only; rw [e1, ← List.append_assoc]; exact w9⟩ (by simp only; omega) ⟨rfl, rfl, by simp only; rw [e1, ← List.append_assoc]; rfl, rfl, trivial⟩ rfl rfl
    have hie : i = c.A.n := by omega
    subst hie
    rw [← ok.al, List.take_length, ← hib] at w6
    rw [show hdr ++ addrsB (d.addrs.take c.A.n) = initB c d by rw [← ok.al, List.take_length, hib]]
    have hil : (initB c d).length = 16 + c.A.n * 8 := by rw [hib, List.length_append, addrsB_len, hz3l, ok.al]
    (refine Go.run (g:=?_))
    refine GoR.callW rfl rfl rfl rfl rfl rfl rfl (((rparam_spec _ _ _ _ _ w6 7 (by decide) d.data (by rw [ok.dl]; omega) (by omega) c.D.a c.D.cap (by rw [ok.dl]; exact ok3.dv.same w6.same)).args (by first | (rw [ok.dl]; done) | (rw [ok.dl]; rfl))).mono ?_)
    rintro _ hh9 ⟨bb9, cc9, rfl, w9⟩ -
    refine ⟨w6.wr (by omega), ?_⟩
    have hpl := pB_le 7 d.data
    rcases Nat.lt_or_ge 65531 d.data.length with g | g
    · rw [if_neg (by omega)]
      have hcv : cval c d = none := by unfold cval; rw [hk]; exact if_neg (by omega)
      (refine Go.run (g:=?_))
      (first|refine Go.finT (by first|exact .inr rfl|exact .inl rfl) rfl ?_|refine Go.fin1 (by first|exact .inr rfl|exact .inl rfl) rfl (hq:=?_))
      exact ⟨bb9, cc9, _, 3, rfl, w9.sv, w9.own.mono (by omega), .inr ⟨rfl, hcv⟩, by simp only [List.length_append]; omega⟩
    · rw [if_pos g]
      have hcv : cval c d = some (initB c d ++ pB 7 d.data) := by unfold cval; rw [hk]; exact if_pos g
      (refine Go.run (g:=?_))
      (first|refine Go.finT (by first|exact .inr rfl|exact .inl rfl) rfl ?_|refine Go.fin1 (by first|exact .inr rfl|exact .inl rfl) rfl (hq:=?_))
      exact ⟨bb9, cc9, _, 0, rfl, w9.sv, w9.own.mono (by omega), .inl ⟨rfl, hcv⟩, by simp only [List.length_append]; omega⟩
  · (refine Go.run (g:=?_))
    refine Go.loud (by kernel_rfl) rfl ?_
    (refine Go.runL (g:=?_))
    refine GoL.callS rfl rfl rfl rfl rfl rfl rfl (((rb_spec c.tsn 4 (by omega) (by decide) _).args (by first | rfl | (simp; fail_if_success focus skip) | (simp; omega) | (congr 2; omega))).mono ?_)
    rintro _ ha1 va1 sa1
    obtain ⟨ba1, ca1, rfl, wa1⟩ := VS.of (Same.refl h3) va1 sa1
    have na1 := sa1.1
    have Ga1 := sa1.get G3
    (refine Go.runL (g:=?_))
    refine GoL.callS rfl rfl rfl rfl rfl rfl rfl (((rb_spec c.rwnd 4 (by omega) (by decide) _).args (by first | rfl | (simp; fail_if_success focus skip) | (simp; omega) | (congr 2; omega))).mono ?_)
    rintro _ hb1 ⟨bb1, cb1, rfl, vb1, ob1⟩ sb1
    have nb1 := sb1.1
    (refine Go.runL (g:=?_))
    refine GoL.appendV rfl rfl rfl rfl rfl rfl (wa1.sv.same sb1) (Sv.rv vb1) (wa1.wr (by omega)) (by simp [beB_length]) (by simp [beB_length]) (by simp [bv, Value.oneCell']) ?_
    intro bc1 cc1 hc1 rd1 wr1 hwr1 hrd1 vc1 kc1 oc1
    have nc1 := kc1.1
    have w1 := wa1.append sb1 vc1 kc1 oc1 rfl
    (refine Go.runL (g:=?_))
    refine GoL.end_ (hl := by (simp only [List.nil_append, List.cons_append]); repeat (first | exact loudP.nil | refine loudP.none ?_ | refine loudP.new (fun _ hb => absurd hb List.not_mem_nil) ?_ | refine loudP.row (by repeat (first | exact loudRowP.nil | refine loudRowP.none ?_ | refine loudRowP.bef (by decide +kernel) ?_)) ?_)) ?_
    rw [← List.length_append]
    have G1 := w1.same.get G3
    have nn1 := w1.same.1
    (refine Go.run (g:=?_))
    refine GoR.call rfl rfl rfl rfl rfl rfl rfl (((rb_spec c.G.n 2 (by omega) (by decide) _).args (by first | rfl | (simp; fail_if_success focus skip) | (simp; omega) | (congr 2; omega))).mono ?_)
    rintro _ hb2 ⟨bb2, cb2, rfl, vb2, ob2⟩ sb2
    have nb2 := sb2.1
    (refine Go.run (g:=?_))
    refine GoR.appendV rfl rfl rfl rfl rfl rfl (w1.sv.same sb2) (Sv.rv vb2) (w1.wr (by omega)) (by simp [beB_length]) (by simp [beB_length]) (by simp [bv, Value.oneCell']) ?_
    intro bc2 cc2 hc2 vc2 kc2 oc2
    have nc2 := kc2.1
    have w2 := w1.append sb2 vc2 kc2 oc2 rfl
    rw [← List.length_append]
    have G2 := w2.same.get G3
    have nn2 := w2.same.1
    (refine Go.run (g:=?_))
    refine GoR.call rfl rfl rfl rfl rfl rfl rfl (((rb_spec c.U.n 2 (by omega) (by decide) _).args (by first | rfl | (simp; fail_if_success focus skip) | (simp; omega) | (congr 2; omega))).mono ?_)
    rintro _ hb3 ⟨bb3, cb3, rfl, vb3, ob3⟩ sb3
    have nb3 := sb3.1
    (refine Go.run (g:=?_))
    refine GoR.appendV rfl rfl rfl rfl rfl rfl (w2.sv.same sb3) (Sv.rv vb3) (w2.wr (by omega)) (by simp [beB_length]) (by simp [beB_length]) (by simp [bv, Value.oneCell']) ?_
    intro bc3 cc3 hc3 vc3 kc3 oc3
    have nc3 := kc3.1
    have w3 := w2.append sb3 vc3 kc3 oc3 rfl
    rw [← List.length_append]
    have Gq3 := w3.same.get G3
    have nn3 := w3.same.1
    have hz2l : (beB 4 c.tsn ++ beB 4 c.rwnd ++ beB 2 c.G.n ++ beB 2 c.U.n).length = 12 := by simp [beB_length]
    have hcv : cval c d = some (beB 4 c.tsn ++ beB 4 c.rwnd ++ beB 2 c.G.n ++ beB 2 c.U.n ++ gapsBy d.gaps ++ be4s d.dups) := by unfold cval; rw [hk]; rfl
    generalize (beB 4 c.tsn ++ beB 4 c.rwnd ++ beB 2 c.G.n ++ beB 2 c.U.n) = hdr at w3 hz2l hcv ⊢
    (refine Go.run (g:=?_))
    refine Go.loop (α := Nat × Option Addr × Nat × AHeap) (fun x => [(7, .int .i64 x.1), (1, .pointer (some ⟨h.n, 0, none⟩)), (4, .slice x.2.1 (hdr ++ gapsBy (d.gaps.take x.1)).length x.2.2.1), (5, .int .i64 0)]) (fun _ => []) (fun x => x.2.2.2)
      (fun x => x.1 ≤ c.G.n ∧ VS h3 x.2.2.2 (hdr ++ gapsBy (d.gaps.take x.1)) x.2.1 x.2.2.1) (fun x => c.G.n - x.1) (0, bc3, cc3, hc3) ?_ ?_ rfl rfl ?_
    · exact ⟨Nat.zero_le _, by simpa [gapsBy] using w3⟩
    · exact ⟨rfl, rfl, by simp [gapsBy]; rfl, rfl, trivial⟩
    clear w0 w1 w2 w3 G1 G2
    rintro ⟨i, b6, c6, h6⟩ ⟨hi, w6⟩
    simp only at hi w6 ⊢
    have nn6 := w6.same.1
    have G6 := w6.same.get G3
    rcases Nat.lt_or_ge i c.G.n with i0 | i0
    · have i1 : i < d.gaps.length := by rw [ok.gl]; exact i0
      have c0 := gcs_0 i1
      have c1 := gcs_1 i1
      have hx := ok.gb _ (List.getElem_mem i1)
      have hbe : i * 2 + 2 ≤ (gcs d.gaps).length := by rw [gcs_len]; omega
      have hbe' : i * 2 < (gcs d.gaps).length := by rw [gcs_len]; omega
      have hA6 := ok3.gv.same w6.same
      have e1 : gapsBy (d.gaps.take (i + 1)) = gapsBy (d.gaps.take i) ++ (beB 2 d.gaps[i].1 ++ beB 2 d.gaps[i].2) := by
        unfold gapsBy
        rw [flat_snoc _ i1]
      have hl6 : hdr.length + (gapsBy (d.gaps.take i)).length ≤ 1000 := by rw [gapsBy_len, hz2l, List.length_take]; omega
      generalize d.gaps[i].1 = gs1 at *
      generalize d.gaps[i].2 = gs2 at *
      (refine Go.run (g:=?_))
      refine GoR.call rfl rfl rfl rfl rfl rfl rfl (((rb_spec gs1 2 (by omega) (by decide) _).args (by first | rfl | (simp; fail_if_success focus skip) | (simp; omega) | (congr 2; omega))).mono ?_)
      rintro _ hb7 ⟨bb7, cb7, rfl, vb7, ob7⟩ sb7
      have nb7 := sb7.1
      (refine Go.run (g:=?_))
      refine GoR.appendV rfl rfl rfl rfl rfl rfl (w6.sv.same sb7) (Sv.rv vb7) (w6.wr (by omega)) (by simp [beB_length]; omega) (by simp [beB_length]; omega) (by simp [bv, Value.oneCell']) ?_
      intro bc7 cc7 hc7 vc7 kc7 oc7
      have nc7 := kc7.1
      have w7 := w6.append sb7 vc7 kc7 oc7 rfl
      rw [← List.length_append]
      have G7 := w7.same.get G3
      have nn7 := w7.same.1
      have hA7 := ok3.gv.same w7.same
      (refine Go.run (g:=?_))
      refine GoR.call rfl rfl rfl rfl rfl rfl rfl (((rb_spec gs2 2 (by omega) (by decide) _).args (by first | rfl | (simp; fail_if_success focus skip) | (simp; omega) | (congr 2; omega))).mono ?_)
      rintro _ hb8 ⟨bb8, cb8, rfl, vb8, ob8⟩ sb8
      have nb8 := sb8.1
      (refine Go.run (g:=?_))
      refine GoR.appendV rfl rfl rfl rfl rfl rfl (w7.sv.same sb8) (Sv.rv vb8) (w7.wr (by omega)) (by simp [beB_length]; omega) (by simp [beB_length]; omega) (by simp [bv, Value.oneCell']) ?_
      intro bc8 cc8 hc8 vc8 kc8 oc8
      have nc8 := kc8.1
      have w8 := w7.append sb8 vc8 kc8 oc8 rfl
      rw [← List.length_append]
      have G8 := w8.same.get G3
      have nn8 := w8.same.1
      (refine Go.run (g:=?_))
      exact Go.again (i + 1, bc8, cc8, hc8) ⟨by simp only; omega, by simp only; rw [e1, ← List.append_assoc, ← List.append_assoc]; exact w8⟩ (by simp only; omega) ⟨rfl, rfl, by simp only; rw [e1, ← List.append_assoc, ← List.append_assoc]; rfl, rfl, trivial⟩ rfl rfl
    have hie : i = c.G.n := by omega
    subst hie
    rw [← ok.gl, List.take_length] at w6
    rw [show d.gaps.take c.G.n = d.gaps by rw [← ok.gl, List.take_length]]
    have hil : (hdr ++ gapsBy d.gaps).length = 12 + c.G.n * 4 := by rw [List.length_append, gapsBy_len, hz2l, ok.gl]
    generalize hdr ++ gapsBy d.gaps = hdr2 at w6 hil hcv ⊢
    (refine Go.run (g:=?_))
    refine Go.loop (α := Nat × Option Addr × Nat × AHeap) (fun x => [(8, .int .i64 x.1), (1, .pointer (some ⟨h.n, 0, none⟩)), (4, .slice x.2.1 (hdr2 ++ be4s (d.dups.take x.1)).length x.2.2.1), (5, .int .i64 0)]) (fun _ => []) (fun x => x.2.2.2)
      (fun x => x.1 ≤ c.U.n ∧ VS h3 x.2.2.2 (hdr2 ++ be4s (d.dups.take x.1)) x.2.1 x.2.2.1) (fun x => c.U.n - x.1) (0, b6, c6, h6) ?_ ?_ rfl rfl ?_
    · exact ⟨Nat.zero_le _, by simpa [be4s] using w6⟩
    · exact ⟨rfl, rfl, by simp [be4s]; rfl, rfl, trivial⟩
    clear w6 G6 nn6
    rintro ⟨i, b6, c6, h6⟩ ⟨hi, w6⟩
    simp only at hi w6 ⊢
    have nn6 := w6.same.1
    have G6 := w6.same.get G3
    rcases Nat.lt_or_ge i c.U.n with i0 | i0
    · have i1 : i < d.dups.length := by rw [ok.ul]; exact i0
      have c0 := w32s_get i1
      have hx := ok.ub _ (List.getElem_mem i1)
      have hbe : i < (w32s d.dups).length := by rw [w32s_len]; exact i1
      have hA6 := ok3.uv.same w6.same
      have e1 := be4s_take i1
      have hl6 : hdr2.length + (be4s (d.dups.take i)).length ≤ 1000 := by rw [be4s_len, hil, List.length_take]; omega
      generalize d.dups[i] = x at *
      (refine Go.run (g:=?_))
      refine GoR.call rfl rfl rfl rfl rfl rfl rfl (((rb_spec x 4 (by omega) (by decide) _).args (by first | rfl | (simp; fail_if_success focus skip) | (simp; omega) | (congr 2; omega))).mono ?_)
      rintro _ hb8 ⟨bb8, cb8, rfl, vb8, ob8⟩ sb8
      have nb8 := sb8.1
      (refine Go.run (g:=?_))
      refine GoR.appendV rfl rfl rfl rfl rfl rfl (w6.sv.same sb8) (Sv.rv vb8) (w6.wr (by omega)) (by simp [beB_length]; omega) (by simp [beB_length]; omega) (by simp [bv, Value.oneCell']) ?_
      intro bc8 cc8 hc8 vc8 kc8 oc8
      have nc8 := kc8.1
      have w8 := w6.append sb8 vc8 kc8 oc8 rfl
      rw [← List.length_append]
      have G8 := w8.same.get G3
      have nn8 := w8.same.1
      (refine Go.run (g:=?_))
      exact Go.again (i + 1, bc8, cc8, hc8) ⟨by simp only; omega, by simp only; rw [e1, ← List.append_assoc]; exact w8⟩ (by simp only; omega) ⟨rfl, rfl, by simp only; rw [e1, ← List.append_assoc]; rfl, rfl, trivial⟩ rfl rfl
    have hie : i = c.U.n := by omega
    subst hie
    rw [← ok.ul, List.take_length] at w6
    rw [show d.dups.take c.U.n = d.dups by rw [← ok.ul, List.take_length]]
    have hul := be4s_len d.dups
    have hull := ok.ul
    (refine Go.run (g:=?_))
    (first|refine Go.finT (by first|exact .inr rfl|exact .inl rfl) rfl ?_|refine Go.fin1 (by first|exact .inr rfl|exact .inl rfl) rfl (hq:=?_))
    exact ⟨b6, c6, _, 0, rfl, w6.sv, w6.own.mono (by omega), .inl ⟨rfl, hcv⟩, by simp only [List.length_append]; omega⟩
  · (refine Go.run (g:=?_))
    refine Go.loop (α := Nat × Option Addr × Nat × AHeap × Nat) (fun x => [(9, .int .i64 x.1), (1, .pointer (some ⟨h.n, 0, none⟩)), (4, .slice x.2.1 (causesB (d.causes.take x.1)).length x.2.2.1), (5, .int .i64 x.2.2.2.2)]) (fun _ => []) (fun x => x.2.2.2.1)
      (fun x => x.1 ≤ c.C.n ∧ VS h3 x.2.2.2.1 (causesB (d.causes.take x.1)) x.2.1 x.2.2.1 ∧ x.2.2.2.2 = if allShort (d.causes.take x.1) = true then 0 else 3) (fun x => c.C.n - x.1) (0, none, 0, h3, 0) ?_ ?_ rfl rfl ?_
    · exact ⟨Nat.zero_le _, by simpa [causesB] using w0, rfl⟩
    · exact ⟨rfl, rfl, rfl, rfl, trivial⟩
    clear w0
    rintro ⟨i, b6, c6, h6, e6⟩ ⟨hi, w6, he⟩
    simp only at hi w6 he ⊢
    have nn6 := w6.same.1
    have G6 := w6.same.get G3
    have hil := causesB_len (d.causes.take i)
    rw [List.length_take] at hil
    have hcl := ok.cl
    have hcv : cval c d = if allShort d.causes = true then some (causesB d.causes) else none := by unfold cval; rw [hk]; rfl
    by_cases sh : allShort (d.causes.take i) = true
    case neg =>
      rw [if_neg sh] at he
      subst he
      rw [allShort_take (by simpa using sh)] at hcv
      rcases Nat.lt_or_ge i c.C.n with i0 | i0
      all_goals
        (refine Go.run (g:=?_))
        (first|refine Go.finT (by first|exact .inr rfl|exact .inl rfl) rfl ?_|refine Go.fin1 (by first|exact .inr rfl|exact .inl rfl) rfl (hq:=?_))
        exact ⟨b6, c6, _, 3, rfl, w6.sv, w6.own.mono (by omega), .inr ⟨rfl, hcv⟩, by show (causesB (d.causes.take i)).length ≤ _; omega⟩
    rw [if_pos sh] at he
    subst he
    rcases Nat.lt_or_ge i c.C.n with i0 | i0
    · have i1 : i < d.causes.length := by rw [ok.cl]; exact i0
      have c0 := ccs_0 i1
      have c1 := ccs_1 i1
      obtain ⟨hx1, hx2, -⟩ := ok.cb _ (List.getElem_mem i1)
      obtain ⟨-, -, hx3⟩ := ok3.cb _ (List.getElem_mem i1)
      have hbe : i * 2 + 2 ≤ (ccs d.causes).length := by rw [ccs_len]; omega
      have hbe' : i * 2 < (ccs d.causes).length := by rw [ccs_len]; omega
      have hA6 := ok3.cv.same w6.same
      have e1 : causesB (d.causes.take (i + 1)) = causesB (d.causes.take i) ++ pB d.causes[i].k d.causes[i].z := by
        unfold causesB
        rw [flat_snoc _ i1]
      have e2 : (if d.causes[i].z.length ≤ 65531 then 0 else 3) = if allShort (d.causes.take (i + 1)) = true then 0 else 3 := by
        rw [allShort_snoc i1, sh, Bool.true_and]
        by_cases g2 : d.causes[i].z.length ≤ 65531
        · rw [if_pos g2, decide_eq_true g2, if_pos rfl]
        · rw [if_neg g2, decide_eq_false g2]; rfl
      generalize d.causes[i].k = xk at *
      generalize d.causes[i].z = xz at *
      generalize d.causes[i].a = xa at *
      generalize d.causes[i].cap = xc at *
      (iterate 19 (first|refine GoR.end ?_|(refine GoR.gd rfl ?_;first|refine GoR.wanted' rfl rfl rfl rfl (g:=?_)|refine GoR.unwanted' rfl rfl rfl rfl (hd:=rfl) (hN:=rfl) (g:=?_)|refine GoR.unwantedU rfl rfl rfl rfl rfl rfl ?_)|(refine GoR.kk 0 rfl ?_;first|refine GoR.move rfl rfl rfl rfl rfl ?_|refine GoR.assign rfl rfl rfl rfl rfl ?_)|(refine GoR.kk 1 rfl ?_;first|refine GoR.load' rfl rfl rfl rfl rfl (g:=?_)|refine GoR.loadA' rfl rfl rfl rfl rfl (hv:=rfl) (g:=?_)|refine GoR.loadV' rfl rfl rfl rfl rfl (g:=?_)|refine GoR.loadVN' rfl rfl rfl rfl rfl (g:=?_))|(refine GoR.kk 2 rfl ?_;first|refine GoR.store' rfl rfl rfl rfl rfl (hl:=rfl) (h1:=rfl) (h3:=rfl) (g:=?_))|(refine GoR.kk 3 rfl ?_;first|refine GoR.fieldAddr rfl rfl rfl rfl rfl ?_|refine GoR.indexN' rfl rfl rfl rfl rfl rfl (g:=?_)|refine GoR.indexNs' rfl rfl rfl rfl rfl rfl (g:=?_)|refine GoR.indexV' rfl rfl rfl rfl rfl rfl (g:=?_)|refine GoR.indexA' rfl rfl rfl rfl rfl rfl (g:=?_)|refine GoR.fieldV' rfl rfl rfl rfl rfl (g:=?_))|(refine GoR.kk 4 rfl ?_;first|refine GoR.eq rfl rfl rfl rfl rfl rfl ?_|refine GoR.ne rfl rfl rfl rfl rfl rfl ?_|refine GoR.lt rfl rfl rfl rfl rfl rfl ?_|refine GoR.le rfl rfl rfl rfl rfl rfl ?_|refine GoR.gt rfl rfl rfl rfl rfl rfl ?_|refine GoR.ge rfl rfl rfl rfl rfl rfl ?_|refine GoR.addN' rfl rfl rfl rfl rfl rfl (g:=?_)|refine GoR.subN' rfl rfl rfl rfl rfl rfl (g:=?_)|refine GoR.add' rfl rfl rfl rfl rfl rfl (g:=?_)|refine GoR.sub' rfl rfl rfl rfl rfl rfl (g:=?_)|refine GoR.addM' rfl rfl rfl rfl rfl rfl (g:=?_)|refine GoR.subM' rfl rfl rfl rfl rfl rfl (g:=?_)|refine GoR.mulM' rfl rfl rfl rfl rfl rfl (g:=?_)|refine GoR.shrN rfl rfl rfl rfl rfl rfl rfl ?_|refine GoR.structEq rfl rfl rfl rfl rfl rfl (by rfl) (by rfl) ?_|refine GoR.structNe rfl rfl rfl rfl rfl rfl (by rfl) (by rfl) ?_|refine GoR.strEq rfl rfl rfl rfl rfl rfl ?_|refine GoR.strNe rfl rfl rfl rfl rfl rfl ?_|refine GoR.remN' rfl rfl rfl rfl rfl rfl (g:=?_)|refine GoR.quoN' rfl rfl rfl rfl rfl rfl (g:=?_)|refine GoR.shlN' rfl rfl rfl rfl rfl rfl rfl (g:=?_)|refine GoR.orN' rfl rfl rfl rfl rfl rfl (g:=?_))|(refine GoR.kk 5 rfl ?_;first|refine GoR.len rfl rfl rfl rfl rfl ?_|refine GoR.lenStr rfl rfl rfl rfl rfl ?_|refine GoR.capB rfl rfl rfl rfl rfl ?_)|(refine GoR.kk 7 rfl ?_;first|refine GoR.pickE' rfl rfl rfl rfl rfl (hx:=rfl) (hy:=rfl) (g:=?_)|refine GoR.pickN' rfl rfl rfl rfl rfl (hx:=rfl) (hy:=rfl) (g:=?_)|refine GoR.pickB rfl rfl rfl rfl rfl rfl rfl ?_)|(refine GoR.kk 8 rfl ?_;first|refine GoR.boxA rfl rfl rfl rfl rfl ?_|refine GoR.boxS rfl rfl rfl rfl rfl rfl ?_|refine GoR.alloc rfl rfl rfl rfl ?_)|(refine GoR.kk 9 rfl ?_;first|refine GoR.strV' rfl rfl rfl rfl rfl (g:=?_)|refine GoR.conv_u8 rfl rfl rfl rfl rfl ?_|refine GoR.convW' rfl rfl rfl rfl rfl (g:=?_)|refine GoR.conv_u16 rfl rfl rfl rfl rfl ?_|refine GoR.conv_u32 rfl rfl rfl rfl rfl ?_)|(refine GoR.kk 10 rfl ?_;first|refine GoR.build' rfl rfl rfl rfl rfl rfl (g:=?_))|(refine GoR.kk 11 rfl ?_;first|refine GoR.extract rfl rfl rfl rfl rfl rfl ?_|refine GoR.not rfl rfl rfl rfl rfl ?_|refine GoR.nilCheck rfl rfl rfl rfl rfl ?_|refine GoR.nilCheckF rfl rfl rfl rfl rfl ?_|refine GoR.makeFunc rfl rfl rfl rfl rfl rfl ?_)|(refine Go.kk 0 rfl ?_;refine Go.seq ?_)|(refine Go.kk 1 rfl ?_;refine Go.region (by kernel_rfl) rfl ?_)|(refine Go.kk 2 rfl ?_;refine Go.drawnQ rfl (by kernel_rfl) rfl ?_)|(refine Go.kk 3 rfl ?_;first|refine Go.cond_t' rfl (g:=?_)|refine Go.cond_f' rfl (g:=?_))|(refine Go.kk 4 rfl ?_;refine Go.block ?_)|(refine Go.kk 5 rfl ?_;first|refine Go.skip ?_|refine Go.ret ?_|refine Go.exit ?_|refine Go.scope ?_)|refine Go.leave_normal ?_|refine Go.leave_same ?_|refine Go.leave_ret ?_|refine Go.ret_code ?_|refine Go.exit_code ?_|refine Go.leave_other rfl ?_|refine Go.sc_normal ?_|refine Go.sc_ret ?_|refine Go.sc_exit ?_|refine Go.exit_back ?_|refine Go.ret_back ?_))
      refine Go.loud (by kernel_rfl) rfl ?_
      (refine Go.runL (g:=?_))
      refine GoL.call rfl rfl rfl rfl rfl rfl rfl (((rparam_spec _ _ _ _ _ w6 xk hx1 xz hx2 (by omega) xa xc (hx3.same w6.same)).args (by first | rfl | (simp; fail_if_success focus skip) | (simp; omega) | (congr 2; omega))).mono ?_)
      rintro _ hh9 ⟨bb9, cc9, rfl, w9⟩ -
      refine ⟨w6.wr (by omega), ?_⟩
      have nn9 := w9.same.1
      (refine Go.runL (g:=?_))
      refine GoL.end_ (hl := by (simp only [List.nil_append, List.cons_append]); repeat (first | exact loudP.nil | refine loudP.none ?_ | refine loudP.new (fun _ hb => absurd hb List.not_mem_nil) ?_ | refine loudP.row (by repeat (first | exact loudRowP.nil | refine loudRowP.none ?_ | refine loudRowP.bef (by decide +kernel) ?_)) ?_)) ?_
      (refine Go.run (g:=?_))
      exact Go.again (i + 1, bb9, cc9, hh9, _) ⟨by simp only; omega, by simp only; rw [e1]; exact w9, e2⟩ (by simp only; omega) ⟨rfl, rfl, by simp only; rw [e1]; rfl, by show some (Value.int .i64 (if xz.length ≤ 65531 then (0 : Int) else 3)) = some (Value.int .i64 ((if xz.length ≤ 65531 then 0 else 3 : Nat) : Int)); split <;> rfl, trivial⟩ rfl rfl
    have hie : i = c.C.n := by omega
    subst hie
    rw [← ok.cl, List.take_length] at w6 sh hil
    rw [if_pos sh] at hcv
    rw [show d.causes.take c.C.n = d.causes by rw [← ok.cl, List.take_length]]
    (refine Go.run (g:=?_))
    (first|refine Go.finT (by first|exact .inr rfl|exact .inl rfl) rfl ?_|refine Go.fin1 (by first|exact .inr rfl|exact .inl rfl) rfl (hq:=?_))
    exact ⟨b6, c6, _, 0, rfl, w6.sv, w6.own.mono (by omega), .inl ⟨rfl, hcv⟩, by show (causesB d.causes).length ≤ _; omega⟩
  · (refine Go.run (g:=?_))
    refine Go.loop (α := Nat × Option Addr × Nat × AHeap × Nat) (fun x => [(9, .int .i64 x.1), (1, .pointer (some ⟨h.n, 0, none⟩)), (4, .slice x.2.1 (causesB (d.causes.take x.1)).length x.2.2.1), (5, .int .i64 x.2.2.2.2)]) (fun _ => []) (fun x => x.2.2.2.1)
      (fun x => x.1 ≤ c.C.n ∧ VS h3 x.2.2.2.1 (causesB (d.causes.take x.1)) x.2.1 x.2.2.1 ∧ x.2.2.2.2 = if allShort (d.causes.take x.1) = true then 0 else 3) (fun x => c.C.n - x.1) (0, none, 0, h3, 0) ?_ ?_ rfl rfl ?_
    · exact ⟨Nat.zero_le _, by simpa [causesB] using w0, rfl⟩
    · exact ⟨rfl, rfl, rfl, rfl, trivial⟩
    clear w0
    rintro ⟨i, b6, c6, h6, e6⟩ ⟨hi, w6, he⟩
    simp only at hi w6 he ⊢
    have nn6 := w6.same.1
    have G6 := w6.same.get G3
    have hil := causesB_len (d.causes.take i)
    rw [List.length_take] at hil
    have hcl := ok.cl
    have hcv : cval c d = if allShort d.causes = true then some (causesB d.causes) else none := by unfold cval; rw [hk]; rfl
    by_cases sh : allShort (d.causes.take i) = true
    case neg =>
      rw [if_neg sh] at he
      subst he
      rw [allShort_take (by simpa using sh)] at hcv
      rcases Nat.lt_or_ge i c.C.n with i0 | i0
      all_goals
        (refine Go.run (g:=?_))
        (first|refine Go.finT (by first|exact .inr rfl|exact .inl rfl) rfl ?_|refine Go.fin1 (by first|exact .inr rfl|exact .inl rfl) rfl (hq:=?_))
        exact ⟨b6, c6, _, 3, rfl, w6.sv, w6.own.mono (by omega), .inr ⟨rfl, hcv⟩, by show (causesB (d.causes.take i)).length ≤ _; omega⟩
    rw [if_pos sh] at he
    subst he
    rcases Nat.lt_or_ge i c.C.n with i0 | i0
    · have i1 : i < d.causes.length := by rw [ok.cl]; exact i0
      have c0 := ccs_0 i1
      have c1 := ccs_1 i1
      obtain ⟨hx1, hx2, -⟩ := ok.cb _ (List.getElem_mem i1)
      obtain ⟨-, -, hx3⟩ := ok3.cb _ (List.getElem_mem i1)
      have hbe : i * 2 + 2 ≤ (ccs d.causes).length := by rw [ccs_len]; omega
      have hbe' : i * 2 < (ccs d.causes).length := by rw [ccs_len]; omega
      have hA6 := ok3.cv.same w6.same
      have e1 : causesB (d.causes.take (i + 1)) = causesB (d.causes.take i) ++ pB d.causes[i].k d.causes[i].z := by
        unfold causesB
        rw [flat_snoc _ i1]
      have e2 : (if d.causes[i].z.length ≤ 65531 then 0 else 3) = if allShort (d.causes.take (i + 1)) = true then 0 else 3 := by
        rw [allShort_snoc i1, sh, Bool.true_and]
        by_cases g2 : d.causes[i].z.length ≤ 65531
        · rw [if_pos g2, decide_eq_true g2, if_pos rfl]
        · rw [if_neg g2, decide_eq_false g2]; rfl
      generalize d.causes[i].k = xk at *
      generalize d.causes[i].z = xz at *
      generalize d.causes[i].a = xa at *
      generalize d.causes[i].cap = xc at *
      (iterate 19 (first|refine GoR.end ?_|(refine GoR.gd rfl ?_;first|refine GoR.wanted' rfl rfl rfl rfl (g:=?_)|refine GoR.unwanted' rfl rfl rfl rfl (hd:=rfl) (hN:=rfl) (g:=?_)|refine GoR.unwantedU rfl rfl rfl rfl rfl rfl ?_)|(refine GoR.kk 0 rfl ?_;first|refine GoR.move rfl rfl rfl rfl rfl ?_|refine GoR.assign rfl rfl rfl rfl rfl ?_)|(refine GoR.kk 1 rfl ?_;first|refine GoR.load' rfl rfl rfl rfl rfl (g:=?_)|refine GoR.loadA' rfl rfl rfl rfl rfl (hv:=rfl) (g:=?_)|refine GoR.loadV' rfl rfl rfl rfl rfl (g:=?_)|refine GoR.loadVN' rfl rfl rfl rfl rfl (g:=?_))|(refine GoR.kk 2 rfl ?_;first|refine GoR.store' rfl rfl rfl rfl rfl (hl:=rfl) (h1:=rfl) (h3:=rfl) (g:=?_))|(refine GoR.kk 3 rfl ?_;first|refine GoR.fieldAddr rfl rfl rfl rfl rfl ?_|refine GoR.indexN' rfl rfl rfl rfl rfl rfl (g:=?_)|refine GoR.indexNs' rfl rfl rfl rfl rfl rfl (g:=?_)|refine GoR.indexV' rfl rfl rfl rfl rfl rfl (g:=?_)|refine GoR.indexA' rfl rfl rfl rfl rfl rfl (g:=?_)|refine GoR.fieldV' rfl rfl rfl rfl rfl (g:=?_))|(refine GoR.kk 4 rfl ?_;first|refine GoR.eq rfl rfl rfl rfl rfl rfl ?_|refine GoR.ne rfl rfl rfl rfl rfl rfl ?_|refine GoR.lt rfl rfl rfl rfl rfl rfl ?_|refine GoR.le rfl rfl rfl rfl rfl rfl ?_|refine GoR.gt rfl rfl rfl rfl rfl rfl ?_|refine GoR.ge rfl rfl rfl rfl rfl rfl ?_|refine GoR.addN' rfl rfl rfl rfl rfl rfl (g:=?_)|refine GoR.subN' rfl rfl rfl rfl rfl rfl (g:=?_)|refine GoR.add' rfl rfl rfl rfl rfl rfl (g:=?_)|refine GoR.sub' rfl rfl rfl rfl rfl rfl (g:=?_)|refine GoR.addM' rfl rfl rfl rfl rfl rfl (g:=?_)|refine GoR.subM' rfl rfl rfl rfl rfl rfl (g:=?_)|refine GoR.mulM' rfl rfl rfl rfl rfl rfl (g:=?_)|refine GoR.shrN rfl rfl rfl rfl rfl rfl rfl ?_|refine GoR.structEq rfl rfl rfl rfl rfl rfl (by rfl) (by rfl) ?_|refine GoR.structNe rfl rfl rfl rfl rfl rfl (by rfl) (by rfl) ?_|refine GoR.strEq rfl rfl rfl rfl rfl rfl ?_|refine GoR.strNe rfl rfl rfl rfl rfl rfl ?_|refine GoR.remN' rfl rfl rfl rfl rfl rfl (g:=?_)|refine GoR.quoN' rfl rfl rfl rfl rfl rfl (g:=?_)|refine GoR.shlN' rfl rfl rfl rfl rfl rfl rfl (g:=?_)|refine GoR.orN' rfl rfl rfl rfl rfl rfl (g:=?_))|(refine GoR.kk 5 rfl ?_;first|refine GoR.len rfl rfl rfl rfl rfl ?_|refine GoR.lenStr rfl rfl rfl rfl rfl ?_|refine GoR.capB rfl rfl rfl rfl rfl ?_)|(refine GoR.kk 7 rfl ?_;first|refine GoR.pickE' rfl rfl rfl rfl rfl (hx:=rfl) (hy:=rfl) (g:=?_)|refine GoR.pickN' rfl rfl rfl rfl rfl (hx:=rfl) (hy:=rfl) (g:=?_)|refine GoR.pickB rfl rfl rfl rfl rfl rfl rfl ?_)|(refine GoR.kk 8 rfl ?_;first|refine GoR.boxA rfl rfl rfl rfl rfl ?_|refine GoR.boxS rfl rfl rfl rfl rfl rfl ?_|refine GoR.alloc rfl rfl rfl rfl ?_)|(refine GoR.kk 9 rfl ?_;first|refine GoR.strV' rfl rfl rfl rfl rfl (g:=?_)|refine GoR.conv_u8 rfl rfl rfl rfl rfl ?_|refine GoR.convW' rfl rfl rfl rfl rfl (g:=?_)|refine GoR.conv_u16 rfl rfl rfl rfl rfl ?_|refine GoR.conv_u32 rfl rfl rfl rfl rfl ?_)|(refine GoR.kk 10 rfl ?_;first|refine GoR.build' rfl rfl rfl rfl rfl rfl (g:=?_))|(refine GoR.kk 11 rfl ?_;first|refine GoR.extract rfl rfl rfl rfl rfl rfl ?_|refine GoR.not rfl rfl rfl rfl rfl ?_|refine GoR.nilCheck rfl rfl rfl rfl rfl ?_|refine GoR.nilCheckF rfl rfl rfl rfl rfl ?_|refine GoR.makeFunc rfl rfl rfl rfl rfl rfl ?_)|(refine Go.kk 0 rfl ?_;refine Go.seq ?_)|(refine Go.kk 1 rfl ?_;refine Go.region (by kernel_rfl) rfl ?_)|(refine Go.kk 2 rfl ?_;refine Go.drawnQ rfl (by kernel_rfl) rfl ?_)|(refine Go.kk 3 rfl ?_;first|refine Go.cond_t' rfl (g:=?_)|refine Go.cond_f' rfl (g:=?_))|(refine Go.kk 4 rfl ?_;refine Go.block ?_)|(refine Go.kk 5 rfl ?_;first|refine Go.skip ?_|refine Go.ret ?_|refine Go.exit ?_|refine Go.scope ?_)|refine Go.leave_normal ?_|refine Go.leave_same ?_|refine Go.leave_ret ?_|refine Go.ret_code ?_|refine Go.exit_code ?_|refine Go.leave_other rfl ?_|refine Go.sc_normal ?_|refine Go.sc_ret ?_|refine Go.sc_exit ?_|refine Go.exit_back ?_|refine Go.ret_back ?_))
      refine Go.loud (by kernel_rfl) rfl ?_
      (refine Go.runL (g:=?_))
      refine GoL.call rfl rfl rfl rfl rfl rfl rfl (((rparam_spec _ _ _ _ _ w6 xk hx1 xz hx2 (by omega) xa xc (hx3.same w6.same)).args (by first | rfl | (simp; fail_if_success focus skip) | (simp; omega) | (congr 2; omega))).mono ?_)
      rintro _ hh9 ⟨bb9, cc9, rfl, w9⟩ -
      refine ⟨w6.wr (by omega), ?_⟩
      have nn9 := w9.same.1
      (refine Go.runL (g:=?_))
      refine GoL.end_ (hl := by (simp only [List.nil_append, List.cons_append]); repeat (first | exact loudP.nil | refine loudP.none ?_ | refine loudP.new (fun _ hb => absurd hb List.not_mem_nil) ?_ | refine loudP.row (by repeat (first | exact loudRowP.nil | refine loudRowP.none ?_ | refine loudRowP.bef (by decide +kernel) ?_)) ?_)) ?_
      (refine Go.run (g:=?_))
      exact Go.again (i + 1, bb9, cc9, hh9, _) ⟨by simp only; omega, by simp only; rw [e1]; exact w9, e2⟩ (by simp only; omega) ⟨rfl, rfl, by simp only; rw [e1]; rfl, by show some (Value.int .i64 (if xz.length ≤ 65531 then (0 : Int) else 3)) = some (Value.int .i64 ((if xz.length ≤ 65531 then 0 else 3 : Nat) : Int)); split <;> rfl, trivial⟩ rfl rfl
    have hie : i = c.C.n := by omega
    subst hie
    rw [← ok.cl, List.take_length] at w6 sh hil
    rw [if_pos sh] at hcv
    rw [show d.causes.take c.C.n = d.causes by rw [← ok.cl, List.take_length]]
    (refine Go.run (g:=?_))
    (first|refine Go.finT (by first|exact .inr rfl|exact .inl rfl) rfl ?_|refine Go.fin1 (by first|exact .inr rfl|exact .inl rfl) rfl (hq:=?_))
    exact ⟨b6, c6, _, 0, rfl, w6.sv, w6.own.mono (by omega), .inl ⟨rfl, hcv⟩, by show (causesB d.causes).length ≤ _; omega⟩
  · have hcv : cval c d = some (beB 4 c.tsn) := by unfold cval; rw [hk]; rfl
    (refine Go.run (g:=?_))
    refine GoR.call rfl rfl rfl rfl rfl rfl rfl (((rb_spec c.tsn 4 (by omega) (by decide) _).args (by first | rfl | (simp; fail_if_success focus skip) | (simp; omega) | (congr 2; omega))).mono ?_)
    rintro _ hb1 ⟨bb1, cb1, rfl, vb1, ob1⟩ sb1
    (refine Go.run (g:=?_))
    (first|refine Go.finT (by first|exact .inr rfl|exact .inl rfl) rfl ?_|refine Go.fin1 (by first|exact .inr rfl|exact .inl rfl) rfl (hq:=?_))
    exact ⟨bb1, cb1, _, 0, rfl, vb1, ob1.mono (by omega), .inl ⟨rfl, hcv⟩, by simp [beB_length]⟩
  · have hcv : cval c d = some d.data := by
      unfold cval
      split <;> first | rfl | omega
    (refine Go.run (g:=?_))
    refine GoR.appendV rfl rfl rfl rfl rfl rfl w0.sv (ok3.dv.same w0.same) (w0.wr (by omega)) (by simp; omega) (by simp; omega) (by simp [bv, Value.oneCell']) ?_
    intro bc1 cc1 hc1 vc1 kc1 oc1
    have nc1 := kc1.1
    simp only [List.length_nil, Nat.zero_add] at vc1
    have w1 := w0.append (Same.refl _) vc1 kc1 oc1 (by rw [ok.dl]; simp)
    (refine Go.run (g:=?_))
    (first|refine Go.finT (by first|exact .inr rfl|exact .inl rfl) rfl ?_|refine Go.fin1 (by first|exact .inr rfl|exact .inl rfl) rfl (hq:=?_))
    have hdl := ok.dl
    exact ⟨bc1, cc1, [] ++ d.data, 0, by simp only [List.nil_append, ok.dl, Nat.zero_add]; rfl, w1.sv, w1.own.mono (by omega), .inl ⟨rfl, hcv⟩, by simp; omega⟩
end Go.Proofs.Ytjpegoigipbmiaa
namespace Go.Proofs.Ytjpegoigipbmiaa
set_option maxRecDepth 100000
attribute [local irreducible] Go GoR GoL
set_option maxHeartbeats 8000000 in
theorem great_spec (c : Ck) (d : CD) (h : AHeap) (ok : COk h c d) (hD : c.D.n ≤ 140737488355328) (hA : c.A.n ≤ 140737488355328) (hG : c.G.n ≤ 140737488355328) (hU : c.U.n ≤ 140737488355328) (hC : c.C.n ≤ 140737488355328) : CallS Try.prog [] 18 [c.v] h fun v h' => ∃ t : Bool, v = .bool t ∧ (t = false → c.D.n ≤ 100000 ∧ c.C.n ≤ 5000) := by
  unfold Ck.v
  (refine CallS.of1 Try.func18 rfl Try.ntmps18 Try.results18 rfl ?_)
  (iterate 4 (first|refine GoR.end ?_|(refine GoR.gd rfl ?_;first|refine GoR.wanted' rfl rfl rfl rfl (g:=?_)|refine GoR.unwanted' rfl rfl rfl rfl (hd:=rfl) (hN:=rfl) (g:=?_)|refine GoR.unwantedU rfl rfl rfl rfl rfl rfl ?_)|(refine GoR.kk 0 rfl ?_;first|refine GoR.move rfl rfl rfl rfl rfl ?_|refine GoR.assign rfl rfl rfl rfl rfl ?_)|(refine GoR.kk 1 rfl ?_;first|refine GoR.load' rfl rfl rfl rfl rfl (g:=?_)|refine GoR.loadA' rfl rfl rfl rfl rfl (hv:=rfl) (g:=?_)|refine GoR.loadV' rfl rfl rfl rfl rfl (g:=?_)|refine GoR.loadVN' rfl rfl rfl rfl rfl (g:=?_))|(refine GoR.kk 2 rfl ?_;first|refine GoR.store' rfl rfl rfl rfl rfl (hl:=rfl) (h1:=rfl) (h3:=rfl) (g:=?_))|(refine GoR.kk 3 rfl ?_;first|refine GoR.fieldAddr rfl rfl rfl rfl rfl ?_|refine GoR.indexN' rfl rfl rfl rfl rfl rfl (g:=?_)|refine GoR.indexNs' rfl rfl rfl rfl rfl rfl (g:=?_)|refine GoR.indexV' rfl rfl rfl rfl rfl rfl (g:=?_)|refine GoR.indexA' rfl rfl rfl rfl rfl rfl (g:=?_)|refine GoR.fieldV' rfl rfl rfl rfl rfl (g:=?_))|(refine GoR.kk 4 rfl ?_;first|refine GoR.eq rfl rfl rfl rfl rfl rfl ?_|refine GoR.ne rfl rfl rfl rfl rfl rfl ?_|refine GoR.lt rfl rfl rfl rfl rfl rfl ?_|refine GoR.le rfl rfl rfl rfl rfl rfl ?_|refine GoR.gt rfl rfl rfl rfl rfl rfl ?_|refine GoR.ge rfl rfl rfl rfl rfl rfl ?_|refine GoR.addN' rfl rfl rfl rfl rfl rfl (g:=?_)|refine GoR.subN' rfl rfl rfl rfl rfl rfl (g:=?_)|refine GoR.add' rfl rfl rfl rfl rfl rfl (g:=?_)|refine GoR.sub' rfl rfl rfl rfl rfl rfl (g:=?_)|refine GoR.addM' rfl rfl rfl rfl rfl rfl (g:=?_)|refine GoR.subM' rfl rfl rfl rfl rfl rfl (g:=?_)|refine GoR.mulM' rfl rfl rfl rfl rfl rfl (g:=?_)|refine GoR.shrN rfl rfl rfl rfl rfl rfl rfl ?_|refine GoR.structEq rfl rfl rfl rfl rfl rfl (by rfl) (by rfl) ?_|refine GoR.structNe rfl rfl rfl rfl rfl rfl (by rfl) (by rfl) ?_|refine GoR.strEq rfl rfl rfl rfl rfl rfl ?_|refine GoR.strNe rfl rfl rfl rfl rfl rfl ?_|refine GoR.remN' rfl rfl rfl rfl rfl rfl (g:=?_)|refine GoR.quoN' rfl rfl rfl rfl rfl rfl (g:=?_)|refine GoR.shlN' rfl rfl rfl rfl rfl rfl rfl (g:=?_)|refine GoR.orN' rfl rfl rfl rfl rfl rfl (g:=?_))|(refine GoR.kk 5 rfl ?_;first|refine GoR.len rfl rfl rfl rfl rfl ?_|refine GoR.lenStr rfl rfl rfl rfl rfl ?_|refine GoR.capB rfl rfl rfl rfl rfl ?_)|(refine GoR.kk 7 rfl ?_;first|refine GoR.pickE' rfl rfl rfl rfl rfl (hx:=rfl) (hy:=rfl) (g:=?_)|refine GoR.pickN' rfl rfl rfl rfl rfl (hx:=rfl) (hy:=rfl) (g:=?_)|refine GoR.pickB rfl rfl rfl rfl rfl rfl rfl ?_)|(refine GoR.kk 8 rfl ?_;first|refine GoR.boxA rfl rfl rfl rfl rfl ?_|refine GoR.boxS rfl rfl rfl rfl rfl rfl ?_|refine GoR.alloc rfl rfl rfl rfl ?_)|(refine GoR.kk 9 rfl ?_;first|refine GoR.strV' rfl rfl rfl rfl rfl (g:=?_)|refine GoR.conv_u8 rfl rfl rfl rfl rfl ?_|refine GoR.convW' rfl rfl rfl rfl rfl (g:=?_)|refine GoR.conv_u16 rfl rfl rfl rfl rfl ?_|refine GoR.conv_u32 rfl rfl rfl rfl rfl ?_)|(refine GoR.kk 10 rfl ?_;first|refine GoR.build' rfl rfl rfl rfl rfl rfl (g:=?_))|(refine GoR.kk 11 rfl ?_;first|refine GoR.extract rfl rfl rfl rfl rfl rfl ?_|refine GoR.not rfl rfl rfl rfl rfl ?_|refine GoR.nilCheck rfl rfl rfl rfl rfl ?_|refine GoR.nilCheckF rfl rfl rfl rfl rfl ?_|refine GoR.makeFunc rfl rfl rfl rfl rfl rfl ?_)|(refine Go.kk 0 rfl ?_;refine Go.seq ?_)|(refine Go.kk 1 rfl ?_;refine Go.region (by kernel_rfl) rfl ?_)|(refine Go.kk 2 rfl ?_;refine Go.drawnQ rfl (by kernel_rfl) rfl ?_)|(refine Go.kk 3 rfl ?_;first|refine Go.cond_t' rfl (g:=?_)|refine Go.cond_f' rfl (g:=?_))|(refine Go.kk 4 rfl ?_;refine Go.block ?_)|(refine Go.kk 5 rfl ?_;first|refine Go.skip ?_|refine Go.ret ?_|refine Go.exit ?_|refine Go.scope ?_)|refine Go.leave_normal ?_|refine Go.leave_same ?_|refine Go.leave_ret ?_|refine Go.ret_code ?_|refine Go.exit_code ?_|refine Go.leave_other rfl ?_|refine Go.sc_normal ?_|refine Go.sc_ret ?_|refine Go.sc_exit ?_|refine Go.exit_back ?_|refine Go.ret_back ?_))
  refine GoR.name ?_
  intro h3 e3
  have G0 : h3.get h.n = some (.cells c.cs 43) := by
    subst e3
    exact AHeap.get_push_same h _
  have n3 : h3.n = h.n + 1 := by subst e3; rfl
  have S3 : Same h h3 := by subst e3; exact (Same.refl h).push _
  clear e3
  unfold Ck.cs at G0
  (refine Go.run (g:=?_))
  refine Go.loop (α := Nat × Nat) (fun x => [(4, .int .i64 x.1), (3, .int .i64 x.2), (1, .pointer (some ⟨h.n, 0, none⟩))]) (fun _ => []) (fun x => h3)
    (fun x => x.1 ≤ c.C.n ∧ c.D.n / 16 + c.C.n ≤ x.2 ∧ x.2 ≤ 1000000000000000) (fun x => c.C.n - x.1) (0, c.D.n / 16 + c.A.n + c.G.n + c.U.n + c.C.n) ?_ ?_ rfl rfl ?_
  · exact ⟨Nat.zero_le _, by simp only; omega, by simp only; omega⟩
  · exact ⟨rfl, rfl, rfl, trivial⟩
  rintro ⟨i, s⟩ ⟨hi, h1, h2⟩
  simp only at hi h1 h2 ⊢
  have ok3 := ok.same S3
  rcases Nat.lt_or_ge 5000 s with g | g
  · rcases Nat.lt_or_ge i c.C.n with i0 | i0
    all_goals
      (refine Go.run (g:=?_))
      (first|refine Go.finT (by first|exact .inr rfl|exact .inl rfl) rfl ?_|refine Go.fin1 (by first|exact .inr rfl|exact .inl rfl) rfl (hq:=?_))
      exact ⟨true, by simp [retV]; omega, fun e => by cases e⟩
  rcases Nat.lt_or_ge i c.C.n with i0 | i0
  · have i1 : i < d.causes.length := by rw [ok.cl]; exact i0
    have c1 := ccs_1 i1
    obtain ⟨hx1, hx2, -⟩ := ok.cb _ (List.getElem_mem i1)
    have hbe' : i * 2 < (ccs d.causes).length := by rw [ccs_len]; omega
    have hA6 := ok3.cv
    generalize d.causes[i].z.length = xz at *
    generalize d.causes[i].a = xa at *
    generalize d.causes[i].cap = xc at *
    (refine Go.run (g:=?_))
    exact Go.again (i + 1, s + xz / 16) ⟨by simp only; omega, by simp only; omega, by simp only; omega⟩ (by simp only; omega) ⟨rfl, rfl, rfl, trivial⟩ rfl rfl
  · (refine Go.run (g:=?_))
    (first|refine Go.finT (by first|exact .inr rfl|exact .inl rfl) rfl ?_|refine Go.fin1 (by first|exact .inr rfl|exact .inl rfl) rfl (hq:=?_))
    exact ⟨false, by simp [retV]; omega, fun _ => by omega⟩
end Go.Proofs.Ytjpegoigipbmiaa
namespace Go.Proofs.Ytjpegoigipbmiaa
set_option maxRecDepth 100000
attribute [local irreducible] Go GoR GoL
set_option maxHeartbeats 8000000 in
theorem crput_spec (c : Ck) (d : CD) (h : AHeap) (ok : COk h c d) (hD : c.D.n ≤ 1000000000) (hC : c.C.n ≤ 2000000) : CallS Try.prog [] 17 [c.v] h fun v h' => PutR h h' v c d := by
  have hmay := rmay_head c ok.f d.gaps ok.gl ok.gb
  have hkk := ok.k
  have hff := ok.f
  unfold PutR
  unfold Ck.v
  (refine CallS.of1 Try.func17 rfl Try.ntmps17 Try.results17 rfl ?_)
  (iterate 5 (first|refine GoR.end ?_|(refine GoR.gd rfl ?_;first|refine GoR.wanted' rfl rfl rfl rfl (g:=?_)|refine GoR.unwanted' rfl rfl rfl rfl (hd:=rfl) (hN:=rfl) (g:=?_)|refine GoR.unwantedU rfl rfl rfl rfl rfl rfl ?_)|(refine GoR.kk 0 rfl ?_;first|refine GoR.move rfl rfl rfl rfl rfl ?_|refine GoR.assign rfl rfl rfl rfl rfl ?_)|(refine GoR.kk 1 rfl ?_;first|refine GoR.load' rfl rfl rfl rfl rfl (g:=?_)|refine GoR.loadA' rfl rfl rfl rfl rfl (hv:=rfl) (g:=?_)|refine GoR.loadV' rfl rfl rfl rfl rfl (g:=?_)|refine GoR.loadVN' rfl rfl rfl rfl rfl (g:=?_))|(refine GoR.kk 2 rfl ?_;first|refine GoR.store' rfl rfl rfl rfl rfl (hl:=rfl) (h1:=rfl) (h3:=rfl) (g:=?_))|(refine GoR.kk 3 rfl ?_;first|refine GoR.fieldAddr rfl rfl rfl rfl rfl ?_|refine GoR.indexN' rfl rfl rfl rfl rfl rfl (g:=?_)|refine GoR.indexNs' rfl rfl rfl rfl rfl rfl (g:=?_)|refine GoR.indexV' rfl rfl rfl rfl rfl rfl (g:=?_)|refine GoR.indexA' rfl rfl rfl rfl rfl rfl (g:=?_)|refine GoR.fieldV' rfl rfl rfl rfl rfl (g:=?_))|(refine GoR.kk 4 rfl ?_;first|refine GoR.eq rfl rfl rfl rfl rfl rfl ?_|refine GoR.ne rfl rfl rfl rfl rfl rfl ?_|refine GoR.lt rfl rfl rfl rfl rfl rfl ?_|refine GoR.le rfl rfl rfl rfl rfl rfl ?_|refine GoR.gt rfl rfl rfl rfl rfl rfl ?_|refine GoR.ge rfl rfl rfl rfl rfl rfl ?_|refine GoR.addN' rfl rfl rfl rfl rfl rfl (g:=?_)|refine GoR.subN' rfl rfl rfl rfl rfl rfl (g:=?_)|refine GoR.add' rfl rfl rfl rfl rfl rfl (g:=?_)|refine GoR.sub' rfl rfl rfl rfl rfl rfl (g:=?_)|refine GoR.addM' rfl rfl rfl rfl rfl rfl (g:=?_)|refine GoR.subM' rfl rfl rfl rfl rfl rfl (g:=?_)|refine GoR.mulM' rfl rfl rfl rfl rfl rfl (g:=?_)|refine GoR.shrN rfl rfl rfl rfl rfl rfl rfl ?_|refine GoR.structEq rfl rfl rfl rfl rfl rfl (by rfl) (by rfl) ?_|refine GoR.structNe rfl rfl rfl rfl rfl rfl (by rfl) (by rfl) ?_|refine GoR.strEq rfl rfl rfl rfl rfl rfl ?_|refine GoR.strNe rfl rfl rfl rfl rfl rfl ?_|refine GoR.remN' rfl rfl rfl rfl rfl rfl (g:=?_)|refine GoR.quoN' rfl rfl rfl rfl rfl rfl (g:=?_)|refine GoR.shlN' rfl rfl rfl rfl rfl rfl rfl (g:=?_)|refine GoR.orN' rfl rfl rfl rfl rfl rfl (g:=?_))|(refine GoR.kk 5 rfl ?_;first|refine GoR.len rfl rfl rfl rfl rfl ?_|refine GoR.lenStr rfl rfl rfl rfl rfl ?_|refine GoR.capB rfl rfl rfl rfl rfl ?_)|(refine GoR.kk 7 rfl ?_;first|refine GoR.pickE' rfl rfl rfl rfl rfl (hx:=rfl) (hy:=rfl) (g:=?_)|refine GoR.pickN' rfl rfl rfl rfl rfl (hx:=rfl) (hy:=rfl) (g:=?_)|refine GoR.pickB rfl rfl rfl rfl rfl rfl rfl ?_)|(refine GoR.kk 8 rfl ?_;first|refine GoR.boxA rfl rfl rfl rfl rfl ?_|refine GoR.boxS rfl rfl rfl rfl rfl rfl ?_|refine GoR.alloc rfl rfl rfl rfl ?_)|(refine GoR.kk 9 rfl ?_;first|refine GoR.strV' rfl rfl rfl rfl rfl (g:=?_)|refine GoR.conv_u8 rfl rfl rfl rfl rfl ?_|refine GoR.convW' rfl rfl rfl rfl rfl (g:=?_)|refine GoR.conv_u16 rfl rfl rfl rfl rfl ?_|refine GoR.conv_u32 rfl rfl rfl rfl rfl ?_)|(refine GoR.kk 10 rfl ?_;first|refine GoR.build' rfl rfl rfl rfl rfl rfl (g:=?_))|(refine GoR.kk 11 rfl ?_;first|refine GoR.extract rfl rfl rfl rfl rfl rfl ?_|refine GoR.not rfl rfl rfl rfl rfl ?_|refine GoR.nilCheck rfl rfl rfl rfl rfl ?_|refine GoR.nilCheckF rfl rfl rfl rfl rfl ?_|refine GoR.makeFunc rfl rfl rfl rfl rfl rfl ?_)|(refine Go.kk 0 rfl ?_;refine Go.seq ?_)|(refine Go.kk 1 rfl ?_;refine Go.region (by kernel_rfl) rfl ?_)|(refine Go.kk 2 rfl ?_;refine Go.drawnQ rfl (by kernel_rfl) rfl ?_)|(refine Go.kk 3 rfl ?_;first|refine Go.cond_t' rfl (g:=?_)|refine Go.cond_f' rfl (g:=?_))|(refine Go.kk 4 rfl ?_;refine Go.block ?_)|(refine Go.kk 5 rfl ?_;first|refine Go.skip ?_|refine Go.ret ?_|refine Go.exit ?_|refine Go.scope ?_)|refine Go.leave_normal ?_|refine Go.leave_same ?_|refine Go.leave_ret ?_|refine Go.ret_code ?_|refine Go.exit_code ?_|refine Go.leave_other rfl ?_|refine Go.sc_normal ?_|refine Go.sc_ret ?_|refine Go.sc_exit ?_|refine Go.exit_back ?_|refine Go.ret_back ?_))
  refine GoR.name ?_
  intro h3 e3
  have G0 : h3.get h.n = some (.cells c.cs 43) := by
    subst e3
    exact AHeap.get_push_same h _
  have n3 : h3.n = h.n + 1 := by subst e3; rfl
  have S3 : Same h h3 := by subst e3; exact (Same.refl h).push _
  clear e3
  unfold Ck.cs at G0
  (refine Go.run (g:=?_))
  have hmay3 := hmay h3 (ok.gv.same S3)
  clear hmay
  cases hm : may c d.gaps
  · rw [hm] at hmay3
    simp only [Bool.false_eq_true, if_false]
    refine GoR.call rfl rfl rfl rfl rfl rfl rfl (((hmay3).args (by first | rfl | (simp; fail_if_success focus skip) | (simp; omega) | (congr 2; omega))).mono ?_)
    rintro _ h4 rfl s4
    (refine Go.run (g:=?_))
    (first|refine Go.finT (by first|exact .inr rfl|exact .inl rfl) rfl ?_|refine Go.fin1 (by first|exact .inr rfl|exact .inl rfl) rfl (hq:=?_))
    rfl
  rw [hm] at hmay3
  simp only [if_true]
  have hmf : MayF c := by
    unfold may at hm
    simp only [Bool.and_eq_true, decide_eq_true_eq] at hm
    exact hm.1
  refine GoR.call rfl rfl rfl rfl rfl rfl rfl (((hmay3).args (by first | rfl | (simp; fail_if_success focus skip) | (simp; omega) | (congr 2; omega))).mono ?_)
  rintro _ h4 rfl s4
  (have nn := (s4).1; try simp only [AHeap.n_push, AHeap.n_put] at nn)
  have ok4 := (ok.same S3).same s4
  have S4 := S3.trans s4
  have G4 := s4.get G0
  clear s4 S3 G0 hmay3
  (refine Go.run (g:=?_))
  refine GoR.call rfl rfl rfl rfl rfl rfl rfl (((rvalue_spec c d h4 ok4 hmf hD hC).args (by first | rfl | (simp; fail_if_success focus skip) | (simp; omega) | (congr 2; omega))).mono ?_)
  rintro _ h5 ⟨b5, c5, x, e, rfl, hb5, ob5, hv, hx⟩ s5
  (have nn := (s5).1; try simp only [AHeap.n_push, AHeap.n_put] at nn)
  have G5 := s5.get G4
  rcases hv with ⟨rfl, hcv⟩ | ⟨rfl, hcv⟩
  · rw [hcv]
    simp only [PutV]
    rcases Nat.lt_or_ge 65531 x.length with g | g
    · simp only [if_neg (show ¬ x.length ≤ 65531 by omega)]
      (refine Go.run (g:=?_))
      refine GoR.call rfl rfl rfl rfl rfl rfl rfl (((rput_err3' true c.k c.f b5 x.length c5 hx (fun _ => by omega) (by simp) g _).args (by first | rfl | (simp; fail_if_success focus skip) | (simp; omega) | (congr 2; omega))).mono ?_)
      rintro _ h7 rfl s7
      (refine Go.run (g:=?_))
      (first|refine Go.finT (by first|exact .inr rfl|exact .inl rfl) rfl ?_|refine Go.fin1 (by first|exact .inr rfl|exact .inl rfl) rfl (hq:=?_))
      rfl
    · simp only [if_pos g]
      (refine Go.run (g:=?_))
      refine GoR.call rfl rfl rfl rfl rfl rfl rfl (((rput_ok true c.k c.f b5 c5 (fun _ => by omega) (by simp) hff (by omega) x g _ (Sv.rv hb5)).args (by first | rfl | (simp; fail_if_success focus skip) | (simp; omega) | (congr 2; omega))).mono ?_)
      rintro _ h7 ⟨b7, c7, rfl, hb7, ob7⟩ s7
      (refine Go.run (g:=?_))
      (first|refine Go.finT (by first|exact .inr rfl|exact .inl rfl) rfl ?_|refine Go.fin1 (by first|exact .inr rfl|exact .inl rfl) rfl (hq:=?_))
      exact ⟨b7, _, rfl, hb7, ob7.mono (by omega)⟩
  · rw [hcv]
    simp only [PutV]
    (refine Go.run (g:=?_))
    (first|refine Go.finT (by first|exact .inr rfl|exact .inl rfl) rfl ?_|refine Go.fin1 (by first|exact .inr rfl|exact .inl rfl) rfl (hq:=?_))
    rfl
end Go.Proofs.Ytjpegoigipbmiaa
namespace Go.Proofs.Ytjpegoigipbmiaa
set_option maxRecDepth 100000
attribute [local irreducible] Go GoR GoL
def rOk (g n : Nat) (x : CP) : Bool := !(aloneB x.1.k && decide (1 < n)) && (startB x.1.k == decide (g = 0))
theorem rmay6_eq (g : Nat) (l : List CP) : pmay g l = (decide (0 < l.length) && l.all (rOk g l.length)) := by
  cases l with
  | nil => rfl
  | cons x l =>
    cases l with
    | nil => simp [pmay, rOk, anyS, anyA]
    | cons y l =>
      have h1 : 1 < (x :: y :: l).length := by simp
      have e : rOk g (x :: y :: l).length = fun x : CP => !aloneB x.1.k && (startB x.1.k == decide (g = 0)) := by funext z; simp [rOk]
      rw [e]
      unfold pmay
      rw [decide_eq_true (show 0 < (x :: y :: l).length by simp), decide_eq_false (show ¬ (x :: y :: l).length ≤ 1 by simp), Bool.true_and, Bool.false_or, Bool.true_and]
      have key : ∀ l : List CP, anyA l = false → anyS l = false := fun l h => by
        unfold anyA at h
        unfold anyS
        rw [List.any_eq_false] at h ⊢
        intro z hz hs
        refine h z hz ?_
        simp only [startB, decide_eq_true_eq] at hs
        simp [aloneB, hs]
      cases ha : anyA (x :: y :: l) with
      | true =>
        symm
        obtain ⟨z, hz, hz2⟩ := List.any_eq_true.1 ha
        rw [Bool.not_true, Bool.false_and, List.all_eq_false]
        exact ⟨z, hz, by simp [hz2]⟩
      | false =>
        rw [key _ ha, Bool.not_false, Bool.true_and]
        unfold anyA at ha
        rw [List.any_eq_false] at ha
        by_cases g0 : g = 0
        · simp only [g0, decide_true]
          symm
          rw [show (false == true) = false from rfl, List.all_eq_false]
          have := ha x (by simp)
          refine ⟨x, by simp, ?_⟩
          have hk : ¬ x.1.k = 1 := fun e => this (by simp [aloneB, e])
          simp [startB, hk]
        · simp only [g0, decide_false]
          symm
          rw [show (false == false) = true from rfl, List.all_eq_true]
          intro z hz
          have := ha z hz
          have hk : ¬ z.1.k = 1 := fun e => this (by simp [aloneB, e])
          simp only [Bool.not_eq_true] at this
          simp [startB, hk, this]
theorem rfail {g : Nat} {l : List CP} {x : CP} (hx : x ∈ l) (h : rOk g l.length x = false) : pmay g l = false := by
  rw [rmay6_eq, List.all_eq_false.2 ⟨x, hx, by simp [h]⟩, Bool.and_false]
theorem all_snoc {α : Type} (p : α → Bool) {l : List α} {i : Nat} (hi : i < l.length) : (l.take (i + 1)).all p = ((l.take i).all p && p l[i]) := by
  rw [List.take_succ_eq_append_getElem hi, List.all_append]; simp
set_option maxHeartbeats 8000000 in
theorem rmay6_spec (f t g : Nat) (a : Option Addr) (n cap : Nat) (l : List CP) (h : AHeap) (k : KS h a n cap l) (hn : n ≤ 140737488355328) : CallS Try.prog [] 13 [pkV f t g a n cap] h fun v h' => v = .bool (pmay g l) := by
  (refine CallS.of1 Try.func13 rfl Try.ntmps13 Try.results13 rfl ?_)
  (iterate 4 (first|refine GoR.end ?_|(refine GoR.gd rfl ?_;first|refine GoR.wanted' rfl rfl rfl rfl (g:=?_)|refine GoR.unwanted' rfl rfl rfl rfl (hd:=rfl) (hN:=rfl) (g:=?_)|refine GoR.unwantedU rfl rfl rfl rfl rfl rfl ?_)|(refine GoR.kk 0 rfl ?_;first|refine GoR.move rfl rfl rfl rfl rfl ?_|refine GoR.assign rfl rfl rfl rfl rfl ?_)|(refine GoR.kk 1 rfl ?_;first|refine GoR.load' rfl rfl rfl rfl rfl (g:=?_)|refine GoR.loadA' rfl rfl rfl rfl rfl (hv:=rfl) (g:=?_)|refine GoR.loadV' rfl rfl rfl rfl rfl (g:=?_)|refine GoR.loadVN' rfl rfl rfl rfl rfl (g:=?_))|(refine GoR.kk 2 rfl ?_;first|refine GoR.store' rfl rfl rfl rfl rfl (hl:=rfl) (h1:=rfl) (h3:=rfl) (g:=?_))|(refine GoR.kk 3 rfl ?_;first|refine GoR.fieldAddr rfl rfl rfl rfl rfl ?_|refine GoR.indexN' rfl rfl rfl rfl rfl rfl (g:=?_)|refine GoR.indexNs' rfl rfl rfl rfl rfl rfl (g:=?_)|refine GoR.indexV' rfl rfl rfl rfl rfl rfl (g:=?_)|refine GoR.indexA' rfl rfl rfl rfl rfl rfl (g:=?_)|refine GoR.fieldV' rfl rfl rfl rfl rfl (g:=?_))|(refine GoR.kk 4 rfl ?_;first|refine GoR.eq rfl rfl rfl rfl rfl rfl ?_|refine GoR.ne rfl rfl rfl rfl rfl rfl ?_|refine GoR.lt rfl rfl rfl rfl rfl rfl ?_|refine GoR.le rfl rfl rfl rfl rfl rfl ?_|refine GoR.gt rfl rfl rfl rfl rfl rfl ?_|refine GoR.ge rfl rfl rfl rfl rfl rfl ?_|refine GoR.addN' rfl rfl rfl rfl rfl rfl (g:=?_)|refine GoR.subN' rfl rfl rfl rfl rfl rfl (g:=?_)|refine GoR.add' rfl rfl rfl rfl rfl rfl (g:=?_)|refine GoR.sub' rfl rfl rfl rfl rfl rfl (g:=?_)|refine GoR.addM' rfl rfl rfl rfl rfl rfl (g:=?_)|refine GoR.subM' rfl rfl rfl rfl rfl rfl (g:=?_)|refine GoR.mulM' rfl rfl rfl rfl rfl rfl (g:=?_)|refine GoR.shrN rfl rfl rfl rfl rfl rfl rfl ?_|refine GoR.structEq rfl rfl rfl rfl rfl rfl (by rfl) (by rfl) ?_|refine GoR.structNe rfl rfl rfl rfl rfl rfl (by rfl) (by rfl) ?_|refine GoR.strEq rfl rfl rfl rfl rfl rfl ?_|refine GoR.strNe rfl rfl rfl rfl rfl rfl ?_|refine GoR.remN' rfl rfl rfl rfl rfl rfl (g:=?_)|refine GoR.quoN' rfl rfl rfl rfl rfl rfl (g:=?_)|refine GoR.shlN' rfl rfl rfl rfl rfl rfl rfl (g:=?_)|refine GoR.orN' rfl rfl rfl rfl rfl rfl (g:=?_))|(refine GoR.kk 5 rfl ?_;first|refine GoR.len rfl rfl rfl rfl rfl ?_|refine GoR.lenStr rfl rfl rfl rfl rfl ?_|refine GoR.capB rfl rfl rfl rfl rfl ?_)|(refine GoR.kk 7 rfl ?_;first|refine GoR.pickE' rfl rfl rfl rfl rfl (hx:=rfl) (hy:=rfl) (g:=?_)|refine GoR.pickN' rfl rfl rfl rfl rfl (hx:=rfl) (hy:=rfl) (g:=?_)|refine GoR.pickB rfl rfl rfl rfl rfl rfl rfl ?_)|(refine GoR.kk 8 rfl ?_;first|refine GoR.boxA rfl rfl rfl rfl rfl ?_|refine GoR.boxS rfl rfl rfl rfl rfl rfl ?_|refine GoR.alloc rfl rfl rfl rfl ?_)|(refine GoR.kk 9 rfl ?_;first|refine GoR.strV' rfl rfl rfl rfl rfl (g:=?_)|refine GoR.conv_u8 rfl rfl rfl rfl rfl ?_|refine GoR.convW' rfl rfl rfl rfl rfl (g:=?_)|refine GoR.conv_u16 rfl rfl rfl rfl rfl ?_|refine GoR.conv_u32 rfl rfl rfl rfl rfl ?_)|(refine GoR.kk 10 rfl ?_;first|refine GoR.build' rfl rfl rfl rfl rfl rfl (g:=?_))|(refine GoR.kk 11 rfl ?_;first|refine GoR.extract rfl rfl rfl rfl rfl rfl ?_|refine GoR.not rfl rfl rfl rfl rfl ?_|refine GoR.nilCheck rfl rfl rfl rfl rfl ?_|refine GoR.nilCheckF rfl rfl rfl rfl rfl ?_|refine GoR.makeFunc rfl rfl rfl rfl rfl rfl ?_)|(refine Go.kk 0 rfl ?_;refine Go.seq ?_)|(refine Go.kk 1 rfl ?_;refine Go.region (by kernel_rfl) rfl ?_)|(refine Go.kk 2 rfl ?_;refine Go.drawnQ rfl (by kernel_rfl) rfl ?_)|(refine Go.kk 3 rfl ?_;first|refine Go.cond_t' rfl (g:=?_)|refine Go.cond_f' rfl (g:=?_))|(refine Go.kk 4 rfl ?_;refine Go.block ?_)|(refine Go.kk 5 rfl ?_;first|refine Go.skip ?_|refine Go.ret ?_|refine Go.exit ?_|refine Go.scope ?_)|refine Go.leave_normal ?_|refine Go.leave_same ?_|refine Go.leave_ret ?_|refine Go.ret_code ?_|refine Go.exit_code ?_|refine Go.leave_other rfl ?_|refine Go.sc_normal ?_|refine Go.sc_ret ?_|refine Go.sc_exit ?_|refine Go.exit_back ?_|refine Go.ret_back ?_))
  refine GoR.name ?_
  intro h3 e3
  have G0 : h3.get h.n = some (.cells [.int .u16 f, .int .u16 t, .int .u32 g, .slice a n cap] 28) := by subst e3; exact AHeap.get_push_same h _
  have n3 : h3.n = h.n + 1 := by subst e3; rfl
  have S3 : Same h h3 := by subst e3; exact (Same.refl h).push _
  clear e3
  have k3 := k.same S3
  have hA3 := k3.rv
  (refine Go.run (g:=?_))
  refine Go.loop (α := Nat) (fun i => [(3, .int .i64 i), (1, .pointer (some ⟨h.n, 0, none⟩))]) (fun _ => []) (fun _ => h3) (fun i => i ≤ n ∧ (l.take i).all (rOk g n) = true) (fun i => n - i) 0 ⟨Nat.zero_le _, rfl⟩ ⟨rfl, rfl, trivial⟩ rfl rfl ?_
  rintro i ⟨hi, hp⟩
  rcases Nat.lt_or_ge i n with i0 | i0
  · have i1 : i < l.length := by rw [k.len]; exact i0
    have c0 := kcs_0 i1
    have hbe : i * 15 < (kcs l).length := by rw [kcs_len]; omega
    have hs := all_snoc (rOk g n) i1
    rw [hp, Bool.true_and] at hs
    have hmem : l[i] ∈ l := List.getElem_mem i1
    generalize l[i] = x at *
    by_cases c1 : x.1.k = 1
    · have c1' : (x.1.k : Int) = 1 := by omega
      rcases Nat.lt_or_ge 1 n with q1 | q1
      · have hr : rOk g n x = false := by simp [rOk, aloneB, c1, q1]
        (refine Go.run (g:=?_))
        (first|refine Go.finT (by first|exact .inr rfl|exact .inl rfl) rfl ?_|refine Go.fin1 (by first|exact .inr rfl|exact .inl rfl) rfl (hq:=?_))
        rw [rfail hmem (by rw [k.len]; exact hr)]
        rfl
      · have q1' : ¬ 1 < n := by omega
        by_cases g0 : g = 0
        case pos =>
          have g0' : (g : Int) = 0 := by omega
          have hr : rOk g n x = true := by simp [rOk, aloneB, startB, g0, c1, q1']
          (refine Go.run (g:=?_))
          refine GoR.boolNe rfl rfl rfl rfl rfl rfl boolU6 ?_
          rw [show (!(decide ((x.1.k : Int) = 1) == decide ((g : Int) = 0))) = false from by rw [decide_eq_true c1', decide_eq_true g0']; rfl]
          (refine Go.run (g:=?_))
          exact Go.again (i + 1) ⟨by first | omega | (simp only; omega), by rw [hs, hr]⟩ (by first | omega | (simp only; omega)) ⟨rfl, rfl, trivial⟩ rfl rfl
        case neg =>
          have g0' : ¬ (g : Int) = 0 := by omega
          have hr : rOk g n x = false := by simp [rOk, aloneB, startB, g0, c1, q1']
          (refine Go.run (g:=?_))
          refine GoR.boolNe rfl rfl rfl rfl rfl rfl boolU6 ?_
          rw [show (!(decide ((x.1.k : Int) = 1) == decide ((g : Int) = 0))) = true from by rw [decide_eq_true c1', decide_eq_false g0']; rfl]
          (refine Go.run (g:=?_))
          (first|refine Go.finT (by first|exact .inr rfl|exact .inl rfl) rfl ?_|refine Go.fin1 (by first|exact .inr rfl|exact .inl rfl) rfl (hq:=?_))
          rw [rfail hmem (by rw [k.len]; exact hr)]
          rfl
    have c1' : ¬ (x.1.k : Int) = 1 := by omega
    by_cases c2 : x.1.k = 2
    · have c2' : (x.1.k : Int) = 2 := by omega
      rcases Nat.lt_or_ge 1 n with q1 | q1
      · have hr : rOk g n x = false := by simp [rOk, aloneB, c2, q1]
        (refine Go.run (g:=?_))
        (first|refine Go.finT (by first|exact .inr rfl|exact .inl rfl) rfl ?_|refine Go.fin1 (by first|exact .inr rfl|exact .inl rfl) rfl (hq:=?_))
        rw [rfail hmem (by rw [k.len]; exact hr)]
        rfl
      · have q1' : ¬ 1 < n := by omega
        by_cases g0 : g = 0
        case pos =>
          have g0' : (g : Int) = 0 := by omega
          have hr : rOk g n x = false := by simp [rOk, aloneB, startB, g0, c2, q1']
          (refine Go.run (g:=?_))
          refine GoR.boolNe rfl rfl rfl rfl rfl rfl boolU6 ?_
          rw [show (!(decide ((x.1.k : Int) = 1) == decide ((g : Int) = 0))) = true from by rw [decide_eq_false c1', decide_eq_true g0']; rfl]
          (refine Go.run (g:=?_))
          (first|refine Go.finT (by first|exact .inr rfl|exact .inl rfl) rfl ?_|refine Go.fin1 (by first|exact .inr rfl|exact .inl rfl) rfl (hq:=?_))
          rw [rfail hmem (by rw [k.len]; exact hr)]
          rfl
        case neg =>
          have g0' : ¬ (g : Int) = 0 := by omega
          have hr : rOk g n x = true := by simp [rOk, aloneB, startB, g0, c2, q1']
          (refine Go.run (g:=?_))
          refine GoR.boolNe rfl rfl rfl rfl rfl rfl boolU6 ?_
          rw [show (!(decide ((x.1.k : Int) = 1) == decide ((g : Int) = 0))) = false from by rw [decide_eq_false c1', decide_eq_false g0']; rfl]
          (refine Go.run (g:=?_))
          exact Go.again (i + 1) ⟨by first | omega | (simp only; omega), by rw [hs, hr]⟩ (by first | omega | (simp only; omega)) ⟨rfl, rfl, trivial⟩ rfl rfl
    have c2' : ¬ (x.1.k : Int) = 2 := by omega
    by_cases c3 : x.1.k = 14
    · have c3' : (x.1.k : Int) = 14 := by omega
      rcases Nat.lt_or_ge 1 n with q1 | q1
      · have hr : rOk g n x = false := by simp [rOk, aloneB, c3, q1]
        (refine Go.run (g:=?_))
        (first|refine Go.finT (by first|exact .inr rfl|exact .inl rfl) rfl ?_|refine Go.fin1 (by first|exact .inr rfl|exact .inl rfl) rfl (hq:=?_))
        rw [rfail hmem (by rw [k.len]; exact hr)]
        rfl
      · have q1' : ¬ 1 < n := by omega
        by_cases g0 : g = 0
        case pos =>
          have g0' : (g : Int) = 0 := by omega
          have hr : rOk g n x = false := by simp [rOk, aloneB, startB, g0, c3, q1']
          (refine Go.run (g:=?_))
          refine GoR.boolNe rfl rfl rfl rfl rfl rfl boolU6 ?_
          rw [show (!(decide ((x.1.k : Int) = 1) == decide ((g : Int) = 0))) = true from by rw [decide_eq_false c1', decide_eq_true g0']; rfl]
          (refine Go.run (g:=?_))
          (first|refine Go.finT (by first|exact .inr rfl|exact .inl rfl) rfl ?_|refine Go.fin1 (by first|exact .inr rfl|exact .inl rfl) rfl (hq:=?_))
          rw [rfail hmem (by rw [k.len]; exact hr)]
          rfl
        case neg =>
          have g0' : ¬ (g : Int) = 0 := by omega
          have hr : rOk g n x = true := by simp [rOk, aloneB, startB, g0, c3, q1']
          (refine Go.run (g:=?_))
          refine GoR.boolNe rfl rfl rfl rfl rfl rfl boolU6 ?_
          rw [show (!(decide ((x.1.k : Int) = 1) == decide ((g : Int) = 0))) = false from by rw [decide_eq_false c1', decide_eq_false g0']; rfl]
          (refine Go.run (g:=?_))
          exact Go.again (i + 1) ⟨by first | omega | (simp only; omega), by rw [hs, hr]⟩ (by first | omega | (simp only; omega)) ⟨rfl, rfl, trivial⟩ rfl rfl
    have c3' : ¬ (x.1.k : Int) = 14 := by omega
    by_cases g0 : g = 0
    case pos =>
      have g0' : (g : Int) = 0 := by omega
      have hr : rOk g n x = false := by simp [rOk, aloneB, startB, g0, c1, c2, c3]
      (refine Go.run (g:=?_))
      refine GoR.boolNe rfl rfl rfl rfl rfl rfl boolU6 ?_
      rw [show (!(decide ((x.1.k : Int) = 1) == decide ((g : Int) = 0))) = true from by rw [decide_eq_false c1', decide_eq_true g0']; rfl]
      (refine Go.run (g:=?_))
      (first|refine Go.finT (by first|exact .inr rfl|exact .inl rfl) rfl ?_|refine Go.fin1 (by first|exact .inr rfl|exact .inl rfl) rfl (hq:=?_))
      rw [rfail hmem (by rw [k.len]; exact hr)]
      rfl
    case neg =>
      have g0' : ¬ (g : Int) = 0 := by omega
      have hr : rOk g n x = true := by simp [rOk, aloneB, startB, g0, c1, c2, c3]
      (refine Go.run (g:=?_))
      refine GoR.boolNe rfl rfl rfl rfl rfl rfl boolU6 ?_
      rw [show (!(decide ((x.1.k : Int) = 1) == decide ((g : Int) = 0))) = false from by rw [decide_eq_false c1', decide_eq_false g0']; rfl]
      (refine Go.run (g:=?_))
      exact Go.again (i + 1) ⟨by first | omega | (simp only; omega), by rw [hs, hr]⟩ (by first | omega | (simp only; omega)) ⟨rfl, rfl, trivial⟩ rfl rfl
  · have hie : i = n := by omega
    subst hie
    rw [← k.len, List.take_length] at hp
    have e := rmay6_eq g l
    rw [hp, Bool.and_true, k.len] at e
    rw [e]
    by_cases n0 : 0 < i
    · (refine Go.run (g:=?_))
      (first|refine Go.finT (by first|exact .inr rfl|exact .inl rfl) rfl ?_|refine Go.fin1 (by first|exact .inr rfl|exact .inl rfl) rfl (hq:=?_))
      simp [retV, n0]
    · (refine Go.run (g:=?_))
      (first|refine Go.finT (by first|exact .inr rfl|exact .inl rfl) rfl ?_|refine Go.fin1 (by first|exact .inr rfl|exact .inl rfl) rfl (hq:=?_))
      simp [retV, n0]
end Go.Proofs.Ytjpegoigipbmiaa
namespace Go.Proofs.Ytjpegoigipbmiaa
set_option maxRecDepth 100000
attribute [local irreducible] Go GoR GoL
set_option maxHeartbeats 8000000 in
theorem rput6_spec (f t g : Nat) (hf : f < 65536) (ht : t < 65536) (hg : g < 4294967296) (a : Option Addr) (n cap : Nat) (l : List CP) (h : AHeap) (k : KS h a n cap l) (hn : n ≤ 2000) (hD : ∀ x ∈ l, x.1.D.n ≤ 1000000000 ∧ x.1.C.n ≤ 2000000) : CallS Try.prog [] 11 [pkV f t g a n cap] h fun v h' => PktR h h' v f t g l := by
  unfold PktR
  (refine CallS.of1 Try.func11 rfl Try.ntmps11 Try.results11 rfl ?_)
  (iterate 4 (first|refine GoR.end ?_|(refine GoR.gd rfl ?_;first|refine GoR.wanted' rfl rfl rfl rfl (g:=?_)|refine GoR.unwanted' rfl rfl rfl rfl (hd:=rfl) (hN:=rfl) (g:=?_)|refine GoR.unwantedU rfl rfl rfl rfl rfl rfl ?_)|(refine GoR.kk 0 rfl ?_;first|refine GoR.move rfl rfl rfl rfl rfl ?_|refine GoR.assign rfl rfl rfl rfl rfl ?_)|(refine GoR.kk 1 rfl ?_;first|refine GoR.load' rfl rfl rfl rfl rfl (g:=?_)|refine GoR.loadA' rfl rfl rfl rfl rfl (hv:=rfl) (g:=?_)|refine GoR.loadV' rfl rfl rfl rfl rfl (g:=?_)|refine GoR.loadVN' rfl rfl rfl rfl rfl (g:=?_))|(refine GoR.kk 2 rfl ?_;first|refine GoR.store' rfl rfl rfl rfl rfl (hl:=rfl) (h1:=rfl) (h3:=rfl) (g:=?_))|(refine GoR.kk 3 rfl ?_;first|refine GoR.fieldAddr rfl rfl rfl rfl rfl ?_|refine GoR.indexN' rfl rfl rfl rfl rfl rfl (g:=?_)|refine GoR.indexNs' rfl rfl rfl rfl rfl rfl (g:=?_)|refine GoR.indexV' rfl rfl rfl rfl rfl rfl (g:=?_)|refine GoR.indexA' rfl rfl rfl rfl rfl rfl (g:=?_)|refine GoR.fieldV' rfl rfl rfl rfl rfl (g:=?_))|(refine GoR.kk 4 rfl ?_;first|refine GoR.eq rfl rfl rfl rfl rfl rfl ?_|refine GoR.ne rfl rfl rfl rfl rfl rfl ?_|refine GoR.lt rfl rfl rfl rfl rfl rfl ?_|refine GoR.le rfl rfl rfl rfl rfl rfl ?_|refine GoR.gt rfl rfl rfl rfl rfl rfl ?_|refine GoR.ge rfl rfl rfl rfl rfl rfl ?_|refine GoR.addN' rfl rfl rfl rfl rfl rfl (g:=?_)|refine GoR.subN' rfl rfl rfl rfl rfl rfl (g:=?_)|refine GoR.add' rfl rfl rfl rfl rfl rfl (g:=?_)|refine GoR.sub' rfl rfl rfl rfl rfl rfl (g:=?_)|refine GoR.addM' rfl rfl rfl rfl rfl rfl (g:=?_)|refine GoR.subM' rfl rfl rfl rfl rfl rfl (g:=?_)|refine GoR.mulM' rfl rfl rfl rfl rfl rfl (g:=?_)|refine GoR.shrN rfl rfl rfl rfl rfl rfl rfl ?_|refine GoR.structEq rfl rfl rfl rfl rfl rfl (by rfl) (by rfl) ?_|refine GoR.structNe rfl rfl rfl rfl rfl rfl (by rfl) (by rfl) ?_|refine GoR.strEq rfl rfl rfl rfl rfl rfl ?_|refine GoR.strNe rfl rfl rfl rfl rfl rfl ?_|refine GoR.remN' rfl rfl rfl rfl rfl rfl (g:=?_)|refine GoR.quoN' rfl rfl rfl rfl rfl rfl (g:=?_)|refine GoR.shlN' rfl rfl rfl rfl rfl rfl rfl (g:=?_)|refine GoR.orN' rfl rfl rfl rfl rfl rfl (g:=?_))|(refine GoR.kk 5 rfl ?_;first|refine GoR.len rfl rfl rfl rfl rfl ?_|refine GoR.lenStr rfl rfl rfl rfl rfl ?_|refine GoR.capB rfl rfl rfl rfl rfl ?_)|(refine GoR.kk 7 rfl ?_;first|refine GoR.pickE' rfl rfl rfl rfl rfl (hx:=rfl) (hy:=rfl) (g:=?_)|refine GoR.pickN' rfl rfl rfl rfl rfl (hx:=rfl) (hy:=rfl) (g:=?_)|refine GoR.pickB rfl rfl rfl rfl rfl rfl rfl ?_)|(refine GoR.kk 8 rfl ?_;first|refine GoR.boxA rfl rfl rfl rfl rfl ?_|refine GoR.boxS rfl rfl rfl rfl rfl rfl ?_|refine GoR.alloc rfl rfl rfl rfl ?_)|(refine GoR.kk 9 rfl ?_;first|refine GoR.strV' rfl rfl rfl rfl rfl (g:=?_)|refine GoR.conv_u8 rfl rfl rfl rfl rfl ?_|refine GoR.convW' rfl rfl rfl rfl rfl (g:=?_)|refine GoR.conv_u16 rfl rfl rfl rfl rfl ?_|refine GoR.conv_u32 rfl rfl rfl rfl rfl ?_)|(refine GoR.kk 10 rfl ?_;first|refine GoR.build' rfl rfl rfl rfl rfl rfl (g:=?_))|(refine GoR.kk 11 rfl ?_;first|refine GoR.extract rfl rfl rfl rfl rfl rfl ?_|refine GoR.not rfl rfl rfl rfl rfl ?_|refine GoR.nilCheck rfl rfl rfl rfl rfl ?_|refine GoR.nilCheckF rfl rfl rfl rfl rfl ?_|refine GoR.makeFunc rfl rfl rfl rfl rfl rfl ?_)|(refine Go.kk 0 rfl ?_;refine Go.seq ?_)|(refine Go.kk 1 rfl ?_;refine Go.region (by kernel_rfl) rfl ?_)|(refine Go.kk 2 rfl ?_;refine Go.drawnQ rfl (by kernel_rfl) rfl ?_)|(refine Go.kk 3 rfl ?_;first|refine Go.cond_t' rfl (g:=?_)|refine Go.cond_f' rfl (g:=?_))|(refine Go.kk 4 rfl ?_;refine Go.block ?_)|(refine Go.kk 5 rfl ?_;first|refine Go.skip ?_|refine Go.ret ?_|refine Go.exit ?_|refine Go.scope ?_)|refine Go.leave_normal ?_|refine Go.leave_same ?_|refine Go.leave_ret ?_|refine Go.ret_code ?_|refine Go.exit_code ?_|refine Go.leave_other rfl ?_|refine Go.sc_normal ?_|refine Go.sc_ret ?_|refine Go.sc_exit ?_|refine Go.exit_back ?_|refine Go.ret_back ?_))
  refine GoR.name ?_
  intro h3 e3
  have G0 : h3.get h.n = some (.cells [.int .u16 f, .int .u16 t, .int .u32 g, .slice a n cap] 28) := by subst e3; exact AHeap.get_push_same h _
  have n3 : h3.n = h.n + 1 := by subst e3; rfl
  have S3 : Same h h3 := by subst e3; exact (Same.refl h).push _
  clear e3
  (refine Go.run (g:=?_))
  refine GoR.call rfl rfl rfl rfl rfl rfl rfl (((rmay6_spec f t g a n cap l _ (k.same S3) (by omega)).args (by first | rfl | (simp; fail_if_success focus skip) | (simp; omega) | (congr 2; omega))).mono ?_)
  rintro _ h4 rfl s4
  have G4 := s4.get G0
  have n4 := s4.1
  have S4 := S3.trans s4
  clear G0
  cases hm : pmay g l
  · simp only [Bool.false_eq_true, if_false]
    (refine Go.run (g:=?_))
    (first|refine Go.finT (by first|exact .inr rfl|exact .inl rfl) rfl ?_|refine Go.fin1 (by first|exact .inr rfl|exact .inl rfl) rfl (hq:=?_))
    rfl
  simp only [if_true]
  (refine Go.run (g:=?_))
  refine Go.loop (α := Nat × Option Addr × Nat × List UInt8 × AHeap) (fun x => [(4, .slice x.2.1 x.2.2.2.1.length x.2.2.1), (5, .int .i64 x.1), (1, .pointer (some ⟨h.n, 0, none⟩))]) (fun _ => []) (fun x => x.2.2.2.2) (fun x => Same h4 x.2.2.2.2 ∧ x.1 ≤ n ∧ bodyP (l.take x.1) = .ok x.2.2.2.1 ∧ x.2.2.2.1.length ≤ x.1 * 65540 ∧ x.2.2.2.1.length % 4 = 0 ∧ Sv x.2.2.2.2 5 1 x.2.1 x.2.2.2.1.length x.2.2.1 (x.2.2.2.1.map bv) ∧ Own h4.n x.2.1) (fun x => n - x.1) (0, none, 0, [], h4) ?_ ?_ rfl rfl ?_
  · exact ⟨Same.refl _, Nat.zero_le _, rfl, Nat.zero_le _, rfl, .nil, Own.nil _⟩
  · exact ⟨rfl, rfl, rfl, trivial⟩
  rintro ⟨i, b5, c5, z, h5⟩ ⟨s5, hi, hb, hl, h4m, v5, o5⟩
  simp only at s5 hi hb hl h4m v5 o5 ⊢
  have k5 := k.same (S4.trans s5)
  have n5 := s5.1
  have G5 := s5.get G4
  rcases Nat.lt_or_ge i n with i0 | i0
  · have i1 : i < l.length := by rw [k.len]; exact i0
    have c0 := kcs_get i1
    have hbe : i * 15 + 15 ≤ (kcs l).length := by rw [kcs_len]; omega
    have hA5 := k5.rv
    have hs := body_snoc (l.take i) l[i]
    rw [← List.take_succ_eq_append_getElem i1, hb] at hs
    have hmem : l[i] ∈ l := List.getElem_mem i1
    generalize l[i] = x at *
    obtain ⟨c, d⟩ := x
    obtain ⟨hD1, hD2⟩ := hD _ hmem
    simp only at c0 hs hD1 hD2
    unfold Ck.cs at c0
    (refine Go.run (g:=?_))
    refine GoR.call rfl rfl rfl rfl rfl rfl rfl (((crput_spec c d _ (k5.ok _ hmem) hD1 hD2).args (by first | rfl | (simp; fail_if_success focus skip) | (simp; omega) | (congr 2; omega))).mono ?_)
    intro v7 h7 hv7 s7
    have n7 := s7.1
    have S7 := s5.trans s7
    rcases putR_bytes hv7 with ⟨e, he, rfl⟩ | ⟨y, b7, c7, he, rfl, r7⟩
    · have e0 := cbytes_err he
      have e0' : ¬ (e : Int) = 0 := by omega
      rw [he] at hs
      have hs := body_err hs
      rw [hs]
      (refine Go.run (g:=?_))
      (first|refine Go.finT (by first|exact .inr rfl|exact .inl rfl) rfl ?_|refine Go.fin1 (by first|exact .inr rfl|exact .inl rfl) rfl (hq:=?_))
      rfl
    · rw [he] at hs
      obtain ⟨y1, y2⟩ := cbytes_len he
      (refine Go.run (g:=?_))
      refine GoR.appendV rfl rfl rfl rfl rfl rfl (v5.same s7) r7 (fun i hi => .inr (by have := o5 i hi; omega)) (by omega) (by omega) (oneB6 _) ?_
      intro b8 c8 h8 v8 k8 o8
      have s8 : Same h4 h8 := S7.ownO k8 o5 (Nat.le_refl _)
      rw [← List.map_append, ← List.length_append] at v8
      rw [← List.length_append]
      (refine Go.run (g:=?_))
      exact Go.again (i + 1, b8, c8, z ++ y, h8) ⟨s8, by simp only; omega, hs, by simp only [List.length_append]; omega, by simp only [List.length_append]; omega, v8, o5.app (by omega) o8⟩ (by simp only; omega) ⟨rfl, rfl, rfl, trivial⟩ rfl rfl
  · have hie : i = n := by omega
    subst hie
    rw [← k.len, List.take_length] at hb
    rw [hb]
    simp only
    have hA5 := k5.rv
    split
    · rename_i hz
      (refine Go.run (g:=?_))
      refine GoR.call rfl rfl rfl rfl rfl rfl rfl (((refPut_err2 f t g _ _ _ h4m hz (by omega) _).args (by first | rfl | (simp; fail_if_success focus skip) | (simp; omega) | (congr 2; omega))).mono ?_)
      rintro _ h9 rfl s9
      (refine Go.run (g:=?_))
      (first|refine Go.finT (by first|exact .inr rfl|exact .inl rfl) rfl ?_|refine Go.fin1 (by first|exact .inr rfl|exact .inl rfl) rfl (hq:=?_))
      rfl
    · rename_i hz
      (refine Go.run (g:=?_))
      refine GoR.call rfl rfl rfl rfl rfl rfl rfl (((refPut_ok f t g hf ht hg _ _ _ z rfl h4m (by omega) _ v5.rv).args (by first | rfl | (simp; fail_if_success focus skip) | (simp; omega) | (congr 2; omega))).mono ?_)
      rintro _ h9 ⟨b9, c9, rfl, v9, o9⟩ s9
      (refine Go.run (g:=?_))
      (first|refine Go.finT (by first|exact .inr rfl|exact .inl rfl) rfl ?_|refine Go.fin1 (by first|exact .inr rfl|exact .inl rfl) rfl (hq:=?_))
      exact ⟨b9, c9, rfl, v9, o9.mono (by omega)⟩
def CB (c : Ck) : Prop := c.D.n ≤ 140737488355328 ∧ c.A.n ≤ 140737488355328 ∧ c.G.n ≤ 140737488355328 ∧ c.U.n ≤ 140737488355328 ∧ c.C.n ≤ 4398046511104
set_option maxHeartbeats 8000000 in
theorem great6_spec (f t g : Nat) (a : Option Addr) (n cap : Nat) (l : List CP) (h : AHeap) (k : KS h a n cap l) (hn : n ≤ 140737488355328) (hC : ∀ x ∈ l, CB x.1) : CallS Try.prog [] 9 [pkV f t g a n cap] h fun v h' => ∃ b : Bool, v = .bool b ∧ (b = false → n ≤ 300 ∧ ∀ x ∈ l, x.1.D.n ≤ 100000 ∧ x.1.C.n ≤ 5000) := by
  (refine CallS.of1 Try.func9 rfl Try.ntmps9 Try.results9 rfl ?_)
  (iterate 4 (first|refine GoR.end ?_|(refine GoR.gd rfl ?_;first|refine GoR.wanted' rfl rfl rfl rfl (g:=?_)|refine GoR.unwanted' rfl rfl rfl rfl (hd:=rfl) (hN:=rfl) (g:=?_)|refine GoR.unwantedU rfl rfl rfl rfl rfl rfl ?_)|(refine GoR.kk 0 rfl ?_;first|refine GoR.move rfl rfl rfl rfl rfl ?_|refine GoR.assign rfl rfl rfl rfl rfl ?_)|(refine GoR.kk 1 rfl ?_;first|refine GoR.load' rfl rfl rfl rfl rfl (g:=?_)|refine GoR.loadA' rfl rfl rfl rfl rfl (hv:=rfl) (g:=?_)|refine GoR.loadV' rfl rfl rfl rfl rfl (g:=?_)|refine GoR.loadVN' rfl rfl rfl rfl rfl (g:=?_))|(refine GoR.kk 2 rfl ?_;first|refine GoR.store' rfl rfl rfl rfl rfl (hl:=rfl) (h1:=rfl) (h3:=rfl) (g:=?_))|(refine GoR.kk 3 rfl ?_;first|refine GoR.fieldAddr rfl rfl rfl rfl rfl ?_|refine GoR.indexN' rfl rfl rfl rfl rfl rfl (g:=?_)|refine GoR.indexNs' rfl rfl rfl rfl rfl rfl (g:=?_)|refine GoR.indexV' rfl rfl rfl rfl rfl rfl (g:=?_)|refine GoR.indexA' rfl rfl rfl rfl rfl rfl (g:=?_)|refine GoR.fieldV' rfl rfl rfl rfl rfl (g:=?_))|(refine GoR.kk 4 rfl ?_;first|refine GoR.eq rfl rfl rfl rfl rfl rfl ?_|refine GoR.ne rfl rfl rfl rfl rfl rfl ?_|refine GoR.lt rfl rfl rfl rfl rfl rfl ?_|refine GoR.le rfl rfl rfl rfl rfl rfl ?_|refine GoR.gt rfl rfl rfl rfl rfl rfl ?_|refine GoR.ge rfl rfl rfl rfl rfl rfl ?_|refine GoR.addN' rfl rfl rfl rfl rfl rfl (g:=?_)|refine GoR.subN' rfl rfl rfl rfl rfl rfl (g:=?_)|refine GoR.add' rfl rfl rfl rfl rfl rfl (g:=?_)|refine GoR.sub' rfl rfl rfl rfl rfl rfl (g:=?_)|refine GoR.addM' rfl rfl rfl rfl rfl rfl (g:=?_)|refine GoR.subM' rfl rfl rfl rfl rfl rfl (g:=?_)|refine GoR.mulM' rfl rfl rfl rfl rfl rfl (g:=?_)|refine GoR.shrN rfl rfl rfl rfl rfl rfl rfl ?_|refine GoR.structEq rfl rfl rfl rfl rfl rfl (by rfl) (by rfl) ?_|refine GoR.structNe rfl rfl rfl rfl rfl rfl (by rfl) (by rfl) ?_|refine GoR.strEq rfl rfl rfl rfl rfl rfl ?_|refine GoR.strNe rfl rfl rfl rfl rfl rfl ?_|refine GoR.remN' rfl rfl rfl rfl rfl rfl (g:=?_)|refine GoR.quoN' rfl rfl rfl rfl rfl rfl (g:=?_)|refine GoR.shlN' rfl rfl rfl rfl rfl rfl rfl (g:=?_)|refine GoR.orN' rfl rfl rfl rfl rfl rfl (g:=?_))|(refine GoR.kk 5 rfl ?_;first|refine GoR.len rfl rfl rfl rfl rfl ?_|refine GoR.lenStr rfl rfl rfl rfl rfl ?_|refine GoR.capB rfl rfl rfl rfl rfl ?_)|(refine GoR.kk 7 rfl ?_;first|refine GoR.pickE' rfl rfl rfl rfl rfl (hx:=rfl) (hy:=rfl) (g:=?_)|refine GoR.pickN' rfl rfl rfl rfl rfl (hx:=rfl) (hy:=rfl) (g:=?_)|refine GoR.pickB rfl rfl rfl rfl rfl rfl rfl ?_)|(refine GoR.kk 8 rfl ?_;first|refine GoR.boxA rfl rfl rfl rfl rfl ?_|refine GoR.boxS rfl rfl rfl rfl rfl rfl ?_|refine GoR.alloc rfl rfl rfl rfl ?_)|(refine GoR.kk 9 rfl ?_;first|refine GoR.strV' rfl rfl rfl rfl rfl (g:=?_)|refine GoR.conv_u8 rfl rfl rfl rfl rfl ?_|refine GoR.convW' rfl rfl rfl rfl rfl (g:=?_)|refine GoR.conv_u16 rfl rfl rfl rfl rfl ?_|refine GoR.conv_u32 rfl rfl rfl rfl rfl ?_)|(refine GoR.kk 10 rfl ?_;first|refine GoR.build' rfl rfl rfl rfl rfl rfl (g:=?_))|(refine GoR.kk 11 rfl ?_;first|refine GoR.extract rfl rfl rfl rfl rfl rfl ?_|refine GoR.not rfl rfl rfl rfl rfl ?_|refine GoR.nilCheck rfl rfl rfl rfl rfl ?_|refine GoR.nilCheckF rfl rfl rfl rfl rfl ?_|refine GoR.makeFunc rfl rfl rfl rfl rfl rfl ?_)|(refine Go.kk 0 rfl ?_;refine Go.seq ?_)|(refine Go.kk 1 rfl ?_;refine Go.region (by kernel_rfl) rfl ?_)|(refine Go.kk 2 rfl ?_;refine Go.drawnQ rfl (by kernel_rfl) rfl ?_)|(refine Go.kk 3 rfl ?_;first|refine Go.cond_t' rfl (g:=?_)|refine Go.cond_f' rfl (g:=?_))|(refine Go.kk 4 rfl ?_;refine Go.block ?_)|(refine Go.kk 5 rfl ?_;first|refine Go.skip ?_|refine Go.ret ?_|refine Go.exit ?_|refine Go.scope ?_)|refine Go.leave_normal ?_|refine Go.leave_same ?_|refine Go.leave_ret ?_|refine Go.ret_code ?_|refine Go.exit_code ?_|refine Go.leave_other rfl ?_|refine Go.sc_normal ?_|refine Go.sc_ret ?_|refine Go.sc_exit ?_|refine Go.exit_back ?_|refine Go.ret_back ?_))
  refine GoR.name ?_
  intro h3 e3
  have G0 : h3.get h.n = some (.cells [.int .u16 f, .int .u16 t, .int .u32 g, .slice a n cap] 28) := by subst e3; exact AHeap.get_push_same h _
  have n3 : h3.n = h.n + 1 := by subst e3; rfl
  have S3 : Same h h3 := by subst e3; exact (Same.refl h).push _
  clear e3
  rcases Nat.lt_or_ge 300 n with q | q
  · (refine Go.run (g:=?_))
    (first|refine Go.finT (by first|exact .inr rfl|exact .inl rfl) rfl ?_|refine Go.fin1 (by first|exact .inr rfl|exact .inl rfl) rfl (hq:=?_))
    exact ⟨true, rfl, fun e => by cases e⟩
  (refine Go.run (g:=?_))
  refine Go.loop (α := Nat × Nat × AHeap) (fun x => [(4, .int .i64 x.1), (3, .int .i64 x.2.1), (1, .pointer (some ⟨h.n, 0, none⟩))]) (fun _ => []) (fun x => x.2.2) (fun x => Same h3 x.2.2 ∧ x.1 ≤ n ∧ x.2.1 ≤ x.1 * 600000000000000 ∧ ∀ y ∈ l.take x.1, y.1.D.n ≤ 100000 ∧ y.1.C.n ≤ 5000) (fun x => n - x.1) (0, 0, h3) ?_ ?_ rfl rfl ?_
  · exact ⟨Same.refl _, Nat.zero_le _, Nat.zero_le _, fun y hy => by cases hy⟩
  · exact ⟨rfl, rfl, rfl, trivial⟩
  rintro ⟨i, s, h5⟩ ⟨s5, hi, hl, hb⟩
  simp only at s5 hi hl hb ⊢
  have k5 := k.same (S3.trans s5)
  have n5 := s5.1
  have G5 := s5.get G0
  rcases Nat.lt_or_ge i n with i0 | i0
  · have i1 : i < l.length := by rw [k.len]; exact i0
    have c0 := kcs_get i1
    have c10 := kcs_at (j := 10) i1 (by decide)
    have c12 := kcs_at (j := 12) i1 (by decide)
    have hbe : i * 15 + 15 ≤ (kcs l).length := by rw [kcs_len]; omega
    have hbe' : i * 15 < (kcs l).length := by omega
    have hA5 := k5.rv
    have hmem : l[i] ∈ l := List.getElem_mem i1
    have hs : ∀ y ∈ l.take (i + 1), y ∈ l.take i ∨ y = l[i] := fun y hy => by
      rw [List.take_succ_eq_append_getElem i1, List.mem_append, List.mem_singleton] at hy
      exact hy
    generalize l[i] = x at *
    obtain ⟨c, d⟩ := x
    obtain ⟨h1, h2, h3', h4', h5'⟩ := hC _ hmem
    simp only at c0 c10 c12 h1 h2 h3' h4' h5'
    have c10' : (kcs l)[i * 15 + 10]? = some (.slice c.D.a c.D.n c.D.cap) := c10
    have c12' : (kcs l)[i * 15 + 12]? = some (.slice c.G.a c.G.n c.G.cap) := c12
    clear c10 c12
    unfold Ck.cs at c0
    (refine Go.run (g:=?_))
    refine GoR.call rfl rfl rfl rfl rfl rfl rfl (((great_spec c d _ (k5.ok _ hmem) h1 h2 h3' h4' (by omega)).args (by first | rfl | (simp; fail_if_success focus skip) | (simp; omega) | (congr 2; omega))).mono ?_)
    rintro _ h6 ⟨b, rfl, hbb⟩ s6
    have G6 := s6.get G5
    have n6 := s6.1
    have hA6 := hA5.same s6
    cases b
    case true =>
      (refine Go.run (g:=?_))
      (first|refine Go.finT (by first|exact .inr rfl|exact .inl rfl) rfl ?_|refine Go.fin1 (by first|exact .inr rfl|exact .inl rfl) rfl (hq:=?_))
      exact ⟨true, rfl, fun e => by cases e⟩
    obtain ⟨u1, u2⟩ := hbb rfl
    (refine Go.run (g:=?_))
    exact Go.again (i + 1, s + c.D.n + 4 * c.G.n, h6) ⟨s5.trans s6, by simp only; omega, by simp only; omega, fun y hy => (hs y hy).elim (hb y) (fun e => by subst e; exact ⟨u1, u2⟩)⟩ (by simp only; omega) ⟨rfl, rfl, rfl, trivial⟩ rfl rfl
  · have hie : i = n := by omega
    subst hie
    rw [← k.len, List.take_length] at hb
    rcases Nat.lt_or_ge 100000 s with z | z
    all_goals
      (refine Go.run (g:=?_))
      (first|refine Go.finT (by first|exact .inr rfl|exact .inl rfl) rfl ?_|refine Go.fin1 (by first|exact .inr rfl|exact .inl rfl) rfl (hq:=?_))
      exact ⟨_, rfl, fun _ => ⟨q, hb⟩⟩
end Go.Proofs.Ytjpegoigipbmiaa
namespace Go.Proofs.Ytjpegoigipbmiaa
open Go.RowKit
set_option maxRecDepth 100000
attribute [local irreducible] Go GoR GoL
def asB6 : Value → AHeap → List Nat → Option Bool
  | .bool b, _, _ => some b
  | _, _, _ => none
theorem asB6_true {v : Value} {h : AHeap} {wr : List Nat} (e : asB6 v h wr = some true) : v = .bool true := by
  unfold asB6 at e
  split at e
  · cases e; rfl
  · cases e
theorem known06Run : callK (A := Bool) Try.prog rowS (fev Try.prog rowS 20000) 8 [] emptyH asB6 = some true := by kernel_rfl
theorem known06 (h : AHeap) : CallS Try.prog [] 8 [] h fun u h' => u = .bool true ∧ h' = h := by
  obtain ⟨v, h', wr, hc, he⟩ := callRun_of rowS_ok known06Run
  obtain rfl := asB6_true he
  exact CallS.known noGlobals hc rfl h
end Go.Proofs.Ytjpegoigipbmiaa