/- What the law leans on, part 8. No conditions. -/
import Derived.ProofKit
import Derived.OpenShut
import Derived.ChangeOld
import Derived.WideShapes
import Derived.Test.YtjpegoigipbmiaaPktPutsPart7
namespace Go.Proofs.Ytjpegoigipbmiaa
set_option maxRecDepth 100000
attribute [local irreducible] Go GoR GoL
set_option maxHeartbeats 8000000 in
theorem pktPuts_spec (f t g : Nat) (hf : f < 65536) (ht : t < 65536) (hg : g < 4294967296) (a : Option Addr) (n cap : Nat) (l : List CP) (h : AHeap) (k : KS h a n cap l) (hn : n ≤ 140737488355328) (hC : ∀ x ∈ l, CB x.1) : CallS Try.prog [] 3 [pkV f t g a n cap] h fun v h' => v = .bool true := by
  (refine CallS.of1 Try.func3 rfl Try.ntmps3 Try.results3 rfl ?_)
  (iterate 4 (first|refine GoR.end ?_|(refine GoR.gd rfl ?_;first|refine GoR.wanted' rfl rfl rfl rfl (g:=?_)|refine GoR.unwanted' rfl rfl rfl rfl (hd:=rfl) (hN:=rfl) (g:=?_)|refine GoR.unwantedU rfl rfl rfl rfl rfl rfl ?_)|(refine GoR.kk 0 rfl ?_;first|refine GoR.move rfl rfl rfl rfl rfl ?_|refine GoR.assign rfl rfl rfl rfl rfl ?_)|(refine GoR.kk 1 rfl ?_;first|refine GoR.load' rfl rfl rfl rfl rfl (g:=?_)|refine GoR.loadA' rfl rfl rfl rfl rfl (hv:=rfl) (g:=?_)|refine GoR.loadV' rfl rfl rfl rfl rfl (g:=?_)|refine GoR.loadVN' rfl rfl rfl rfl rfl (g:=?_))|(refine GoR.kk 2 rfl ?_;first|refine GoR.store' rfl rfl rfl rfl rfl (hl:=rfl) (h1:=rfl) (h3:=rfl) (g:=?_))|(refine GoR.kk 3 rfl ?_;first|refine GoR.fieldAddr rfl rfl rfl rfl rfl ?_|refine GoR.indexN' rfl rfl rfl rfl rfl rfl (g:=?_)|refine GoR.indexNs' rfl rfl rfl rfl rfl rfl (g:=?_)|refine GoR.indexV' rfl rfl rfl rfl rfl rfl (g:=?_)|refine GoR.indexA' rfl rfl rfl rfl rfl rfl (g:=?_)|refine GoR.fieldV' rfl rfl rfl rfl rfl (g:=?_))|(refine GoR.kk 4 rfl ?_;first|refine GoR.eq rfl rfl rfl rfl rfl rfl ?_|refine GoR.ne rfl rfl rfl rfl rfl rfl ?_|refine GoR.lt rfl rfl rfl rfl rfl rfl ?_|refine GoR.le rfl rfl rfl rfl rfl rfl ?_|refine GoR.gt rfl rfl rfl rfl rfl rfl ?_|refine GoR.ge rfl rfl rfl rfl rfl rfl ?_|refine GoR.addN' rfl rfl rfl rfl rfl rfl (g:=?_)|refine GoR.subN' rfl rfl rfl rfl rfl rfl (g:=?_)|refine GoR.add' rfl rfl rfl rfl rfl rfl (g:=?_)|refine GoR.sub' rfl rfl rfl rfl rfl rfl (g:=?_)|refine GoR.addM' rfl rfl rfl rfl rfl rfl (g:=?_)|refine GoR.subM' rfl rfl rfl rfl rfl rfl (g:=?_)|refine GoR.mulM' rfl rfl rfl rfl rfl rfl (g:=?_)|refine GoR.shrN rfl rfl rfl rfl rfl rfl rfl ?_|refine GoR.structEq rfl rfl rfl rfl rfl rfl (by rfl) (by rfl) ?_|refine GoR.structNe rfl rfl rfl rfl rfl rfl (by rfl) (by rfl) ?_|refine GoR.strEq rfl rfl rfl rfl rfl rfl ?_|refine GoR.strNe rfl rfl rfl rfl rfl rfl ?_|refine GoR.remN' rfl rfl rfl rfl rfl rfl (g:=?_)|refine GoR.quoN' rfl rfl rfl rfl rfl rfl (g:=?_)|refine GoR.shlN' rfl rfl rfl rfl rfl rfl rfl (g:=?_)|refine GoR.orN' rfl rfl rfl rfl rfl rfl (g:=?_))|(refine GoR.kk 5 rfl ?_;first|refine GoR.len rfl rfl rfl rfl rfl ?_|refine GoR.lenStr rfl rfl rfl rfl rfl ?_|refine GoR.capB rfl rfl rfl rfl rfl ?_)|(refine GoR.kk 7 rfl ?_;first|refine GoR.pickE' rfl rfl rfl rfl rfl (hx:=rfl) (hy:=rfl) (g:=?_)|refine GoR.pickN' rfl rfl rfl rfl rfl (hx:=rfl) (hy:=rfl) (g:=?_)|refine GoR.pickB rfl rfl rfl rfl rfl rfl rfl ?_)|(refine GoR.kk 8 rfl ?_;first|refine GoR.boxA rfl rfl rfl rfl rfl ?_|refine GoR.boxS rfl rfl rfl rfl rfl rfl ?_|refine GoR.alloc rfl rfl rfl rfl ?_)|(refine GoR.kk 9 rfl ?_;first|refine GoR.strV' rfl rfl rfl rfl rfl (g:=?_)|refine GoR.conv_u8 rfl rfl rfl rfl rfl ?_|refine GoR.convW' rfl rfl rfl rfl rfl (g:=?_)|refine GoR.conv_u16 rfl rfl rfl rfl rfl ?_|refine GoR.conv_u32 rfl rfl rfl rfl rfl ?_)|(refine GoR.kk 10 rfl ?_;first|refine GoR.build' rfl rfl rfl rfl rfl rfl (g:=?_))|(refine GoR.kk 11 rfl ?_;first|refine GoR.extract rfl rfl rfl rfl rfl rfl ?_|refine GoR.not rfl rfl rfl rfl rfl ?_|refine GoR.nilCheck rfl rfl rfl rfl rfl ?_|refine GoR.nilCheckF rfl rfl rfl rfl rfl ?_|refine GoR.makeFunc rfl rfl rfl rfl rfl rfl ?_)|(refine Go.kk 0 rfl ?_;refine Go.seq ?_)|(refine Go.kk 1 rfl ?_;refine Go.region (by kernel_rfl) rfl ?_)|(refine Go.kk 2 rfl ?_;refine Go.drawnQ rfl (by kernel_rfl) rfl ?_)|(refine Go.kk 3 rfl ?_;first|refine Go.cond_t' rfl (g:=?_)|refine Go.cond_f' rfl (g:=?_))|(refine Go.kk 4 rfl ?_;refine Go.block ?_)|(refine Go.kk 5 rfl ?_;first|refine Go.skip ?_|refine Go.ret ?_|refine Go.exit ?_|refine Go.scope ?_)|refine Go.leave_normal ?_|refine Go.leave_same ?_|refine Go.leave_ret ?_|refine Go.ret_code ?_|refine Go.exit_code ?_|refine Go.leave_other rfl ?_|refine Go.sc_normal ?_|refine Go.sc_ret ?_|refine Go.sc_exit ?_|refine Go.exit_back ?_|refine Go.ret_back ?_))
  refine GoR.name ?_
  intro h3 e3
  have G0 : h3.get h.n = some (.cells [.int .u16 f, .int .u16 t, .int .u32 g, .slice a n cap] 28) := by subst e3; exact AHeap.get_push_same h _
  have n3 : h3.n = h.n + 1 := by subst e3; rfl
  have S3 : Same h h3 := by subst e3; exact (Same.refl h).push _
  clear e3
  (refine Go.run (g:=?_))
  refine GoR.call rfl rfl rfl rfl rfl rfl rfl (((known06 _).args (by first | rfl | (simp; fail_if_success focus skip) | (simp; omega) | (congr 2; omega))).mono ?_)
  rintro _ h3' ⟨rfl, rfl⟩ -
  (refine Go.run (g:=?_))
  refine GoR.call rfl rfl rfl rfl rfl rfl rfl (((great6_spec f t g a n cap l _ (k.same S3) hn hC).args (by first | rfl | (simp; fail_if_success focus skip) | (simp; omega) | (congr 2; omega))).mono ?_)
  rintro _ h5 ⟨b, rfl, hb⟩ s5
  have n5 := s5.1
  have G5 := s5.get G0
  have S5 := S3.trans s5
  cases b
  case true =>
    (refine Go.run (g:=?_))
    (first|refine Go.finT (by first|exact .inr rfl|exact .inl rfl) rfl ?_|refine Go.fin1 (by first|exact .inr rfl|exact .inl rfl) rfl (hq:=?_))
    rfl
  obtain ⟨hn3, hD⟩ := hb rfl
  have hD2 : ∀ x ∈ l, x.1.D.n ≤ 1000000000 ∧ x.1.C.n ≤ 2000000 := fun x hx => by obtain ⟨u1, u2⟩ := hD x hx; omega
  clear hb hD G0
  (refine Go.run (g:=?_))
  refine GoR.call rfl rfl rfl rfl rfl rfl rfl (((pput_spec f t g hf ht hg a n cap l _ (k.same S5) (by omega) hD2).args (by first | rfl | (simp; fail_if_success focus skip) | (simp; omega) | (congr 2; omega))).mono ?_)
  intro v6 h6 hv6 s6
  have n6 := s6.1
  have G6 := s6.get G5
  have S6 := S5.trans s6
  have hp2 := rput6_spec f t g hf ht hg a n cap l h6 (k.same S6) (by omega) hD2
  unfold PktR at hv6 hp2
  by_cases hm : pmay g l = true
  · simp only [if_pos hm] at hv6 hp2
    cases hb : bodyP l with
    | error e =>
      simp only [hb] at hv6 hp2
      subst hv6
      (refine Go.run (g:=?_))
      refine GoR.call rfl rfl rfl rfl rfl rfl rfl (((hp2).args (by first | rfl | (simp; fail_if_success focus skip) | (simp; omega) | (congr 2; omega))).mono ?_)
      rintro _ h7 rfl s7
      have n7 := s7.1
      have GX := s7.get G6
      have SX := S6.trans s7
      (refine Go.run (g:=?_))
      refine GoR.strV (zs := []) rfl rfl rfl rfl rfl Rv.nil ?_
      (refine Go.run (g:=?_))
      refine GoR.strV (zs := []) rfl rfl rfl rfl rfl Rv.nil ?_
      (refine Go.run (g:=?_))
      refine GoR.call rfl rfl rfl rfl rfl rfl rfl (((pmay_spec f t g a n cap l _ (k.same SX) hn).args (by first | rfl | (simp; fail_if_success focus skip) | (simp; omega) | (congr 2; omega))).mono ?_)
      rintro _ h8 rfl s8
      have n8 := s8.1
      have G8 := s8.get GX
      (refine Go.run (g:=?_))
      refine GoR.call rfl rfl rfl rfl rfl rfl rfl (((rmay6_spec f t g a n cap l _ (k.same (SX.trans s8)) hn).args (by first | rfl | (simp; fail_if_success focus skip) | (simp; omega) | (congr 2; omega))).mono ?_)
      rintro _ h9 rfl s9
      (refine Go.run (g:=?_))
      refine GoR.boolEq rfl rfl rfl rfl rfl rfl boolU6 ?_
      rw [show (pmay g l == pmay g l) = true from by cases pmay g l <;> rfl]
      (refine Go.run (g:=?_))
      (first|refine Go.finT (by first|exact .inr rfl|exact .inl rfl) rfl ?_|refine Go.fin1 (by first|exact .inr rfl|exact .inl rfl) rfl (hq:=?_))
      rfl
    | ok z =>
      simp only [hb] at hv6 hp2
      by_cases hz : 1488 < z.length
      · simp only [if_pos hz] at hv6 hp2
        subst hv6
        (refine Go.run (g:=?_))
        refine GoR.call rfl rfl rfl rfl rfl rfl rfl (((hp2).args (by first | rfl | (simp; fail_if_success focus skip) | (simp; omega) | (congr 2; omega))).mono ?_)
        rintro _ h7 rfl s7
        have n7 := s7.1
        have GX := s7.get G6
        have SX := S6.trans s7
        (refine Go.run (g:=?_))
        refine GoR.strV (zs := []) rfl rfl rfl rfl rfl Rv.nil ?_
        (refine Go.run (g:=?_))
        refine GoR.strV (zs := []) rfl rfl rfl rfl rfl Rv.nil ?_
        (refine Go.run (g:=?_))
        refine GoR.call rfl rfl rfl rfl rfl rfl rfl (((pmay_spec f t g a n cap l _ (k.same SX) hn).args (by first | rfl | (simp; fail_if_success focus skip) | (simp; omega) | (congr 2; omega))).mono ?_)
        rintro _ h8 rfl s8
        have n8 := s8.1
        have G8 := s8.get GX
        (refine Go.run (g:=?_))
        refine GoR.call rfl rfl rfl rfl rfl rfl rfl (((rmay6_spec f t g a n cap l _ (k.same (SX.trans s8)) hn).args (by first | rfl | (simp; fail_if_success focus skip) | (simp; omega) | (congr 2; omega))).mono ?_)
        rintro _ h9 rfl s9
        (refine Go.run (g:=?_))
        refine GoR.boolEq rfl rfl rfl rfl rfl rfl boolU6 ?_
        rw [show (pmay g l == pmay g l) = true from by cases pmay g l <;> rfl]
        (refine Go.run (g:=?_))
        (first|refine Go.finT (by first|exact .inr rfl|exact .inl rfl) rfl ?_|refine Go.fin1 (by first|exact .inr rfl|exact .inl rfl) rfl (hq:=?_))
        rfl
      · simp only [if_neg hz] at hv6 hp2
        obtain ⟨b6, c6, rfl, v6, o6⟩ := hv6
        generalize hput f t g z = y at *
        (refine Go.run (g:=?_))
        refine GoR.call rfl rfl rfl rfl rfl rfl rfl (((hp2).args (by first | rfl | (simp; fail_if_success focus skip) | (simp; omega) | (congr 2; omega))).mono ?_)
        rintro _ h7 ⟨b7, c7, rfl, v7, o7⟩ s7
        have n7 := s7.1
        have GX := s7.get G6
        have SX := S6.trans s7
        have r1 := (v6.same s7).rv (P := Try.prog)
        have r2 := v7.rv (P := Try.prog)
        clear v6 v7
        (refine Go.run (g:=?_))
        refine GoR.call rfl rfl rfl rfl rfl rfl rfl (((pmay_spec f t g a n cap l _ (k.same SX) hn).args (by first | rfl | (simp; fail_if_success focus skip) | (simp; omega) | (congr 2; omega))).mono ?_)
        rintro _ h8 rfl s8
        have n8 := s8.1
        have G8 := s8.get GX
        (refine Go.run (g:=?_))
        refine GoR.call rfl rfl rfl rfl rfl rfl rfl (((rmay6_spec f t g a n cap l _ (k.same (SX.trans s8)) hn).args (by first | rfl | (simp; fail_if_success focus skip) | (simp; omega) | (congr 2; omega))).mono ?_)
        rintro _ h9 rfl s9
        (refine Go.run (g:=?_))
        refine GoR.boolEq rfl rfl rfl rfl rfl rfl boolU6 ?_
        rw [show (pmay g l == pmay g l) = true from by cases pmay g l <;> rfl]
        (refine Go.run (g:=?_))
        (first|refine Go.finT (by first|exact .inr rfl|exact .inl rfl) rfl ?_|refine Go.fin1 (by first|exact .inr rfl|exact .inl rfl) rfl (hq:=?_))
        rfl
  · simp only [if_neg hm] at hv6 hp2
    subst hv6
    (refine Go.run (g:=?_))
    refine GoR.call rfl rfl rfl rfl rfl rfl rfl (((hp2).args (by first | rfl | (simp; fail_if_success focus skip) | (simp; omega) | (congr 2; omega))).mono ?_)
    rintro _ h7 rfl s7
    have n7 := s7.1
    have GX := s7.get G6
    have SX := S6.trans s7
    (refine Go.run (g:=?_))
    refine GoR.strV (zs := []) rfl rfl rfl rfl rfl Rv.nil ?_
    (refine Go.run (g:=?_))
    refine GoR.strV (zs := []) rfl rfl rfl rfl rfl Rv.nil ?_
    (refine Go.run (g:=?_))
    refine GoR.call rfl rfl rfl rfl rfl rfl rfl (((pmay_spec f t g a n cap l _ (k.same SX) hn).args (by first | rfl | (simp; fail_if_success focus skip) | (simp; omega) | (congr 2; omega))).mono ?_)
    rintro _ h8 rfl s8
    have n8 := s8.1
    have G8 := s8.get GX
    (refine Go.run (g:=?_))
    refine GoR.call rfl rfl rfl rfl rfl rfl rfl (((rmay6_spec f t g a n cap l _ (k.same (SX.trans s8)) hn).args (by first | rfl | (simp; fail_if_success focus skip) | (simp; omega) | (congr 2; omega))).mono ?_)
    rintro _ h9 rfl s9
    (refine Go.run (g:=?_))
    refine GoR.boolEq rfl rfl rfl rfl rfl rfl boolU6 ?_
    rw [show (pmay g l == pmay g l) = true from by cases pmay g l <;> rfl]
    (refine Go.run (g:=?_))
    (first|refine Go.finT (by first|exact .inr rfl|exact .inl rfl) rfl ?_|refine Go.fin1 (by first|exact .inr rfl|exact .inl rfl) rfl (hq:=?_))
    rfl
end Go.Proofs.Ytjpegoigipbmiaa
namespace Go.Proofs.Ytjpegoigipbmiaa
theorem u8b : Try.prog.underlying 5 = some (.int .u8) := by kernel_rfl
theorem u16b : Try.prog.underlying 22 = some (.int .u16) := by kernel_rfl
theorem bytesB : Try.prog.underlying 31 = some (.slice 5) := by kernel_rfl
end Go.Proofs.Ytjpegoigipbmiaa
namespace Go.Proofs.Ytjpegoigipbmiaa
set_option maxRecDepth 100000
open Go.ChangeShapes Go.WideShapes Go.ChangeAt Go.RowKit
theorem u8W5 : Try.prog.bytesOf 5 = 1 := by kernel_rfl
theorem u32b : Try.prog.underlying 23 = some (.int .u32) := by kernel_rfl
theorem u32sB : Try.prog.underlying 39 = some (.slice 23) := by kernel_rfl
theorem gapsB' : Try.prog.underlying 40 = some (.slice 78) := by kernel_rfl
theorem causesB' : Try.prog.underlying 41 = some (.slice 69) := by kernel_rfl
theorem cells_of {α : Type} {f : α → List Value} {sz : Nat} : ∀ (len : Nat) (c : List Value), c.length = len * sz → (∀ i, i < len → ∃ x, (c.drop (i * sz)).take sz = f x) → ∃ l : List α, l.length = len ∧ c = (l.map f).flatten
  | 0, c, hl, _ => ⟨[], rfl, by simpa using hl⟩
  | n + 1, c, hl, each => by
    obtain ⟨x, e⟩ := each 0 (by omega)
    rw [Nat.zero_mul, List.drop_zero] at e
    obtain ⟨l, i1, i2⟩ := cells_of (f := f) (sz := sz) n (c.drop sz) (by rw [List.length_drop, hl, Nat.add_mul]; omega) fun i hi => by
      have := each (i + 1) (by omega)
      rwa [Nat.add_mul, Nat.one_mul, Nat.add_comm, ← List.drop_drop] at this
    exact ⟨x :: l, by simp [i1], by rw [List.map_cons, List.flatten_cons, ← e, ← i2, List.take_append_drop]⟩
theorem gap_of {h : AHeap} {H : Type} {cs : List Value} {d : DataW H} (r : ARd Try.prog h 78 cs d) : ∃ x : Nat × Nat, cs = gC x ∧ x.1 < 65536 ∧ x.2 < 65536 := by
  obtain ⟨hl, hf⟩ := r.field Try.underlying78
  rw [show Try.prog.cellsOf 78 = 2 from by kernel_rfl] at hl
  match cs, hl with
  | [c0, c1], _ =>
    obtain ⟨d0, r0⟩ := hf 0 22 0 1 rfl (by kernel_rfl)
    obtain ⟨d1, r1⟩ := hf 1 22 1 1 rfl (by kernel_rfl)
    obtain ⟨n, e0, b0⟩ := r0.u_inv rfl u16b
    obtain ⟨k, e1, b1⟩ := r1.u_inv rfl u16b
    simp at e0 e1
    subst e0 e1
    exact ⟨(n, k), rfl, b0, b1⟩
theorem cause_of {h : AHeap} {H : Type} {cs : List Value} {d : DataW H} (r : ARd Try.prog h 69 cs d) (z : Sized Try.prog 69 d) : ∃ x : CV, cs = cvC x ∧ x.k < 65536 ∧ x.z.length ≤ 140737488355328 ∧ Rv Try.prog h 1 x.a x.z.length x.cap (x.z.map bv) := by
  obtain ⟨hl, hf⟩ := r.fieldZ z Try.underlying69
  rw [show Try.prog.cellsOf 69 = 2 from by kernel_rfl] at hl
  match cs, hl with
  | [c0, c1], _ =>
    obtain ⟨d0, r0, -⟩ := hf 0 22 0 1 rfl (by kernel_rfl)
    obtain ⟨d1, r1, z1⟩ := hf 1 31 1 1 rfl (by kernel_rfl)
    obtain ⟨n, e0, b0⟩ := r0.u_inv rfl u16b
    obtain ⟨a, cap, zs, e1, hR, hm, hZ⟩ := r1.bytesZ z1 bytesB u8b (by kernel_rfl) u8W5
    simp at e0 e1
    subst e0 e1
    exact ⟨⟨n, a, cap, zs⟩, rfl, b0, hZ, hR⟩
theorem cells_of' {α : Type} {f : α → List Value} {p : α → Prop} {sz : Nat} (len : Nat) (c : List Value) (hl : c.length = len * sz) (each : ∀ i, i < len → ∃ x, (c.drop (i * sz)).take sz = f x ∧ p x) : ∃ l : List α, l.length = len ∧ c = (l.map f).flatten ∧ ∀ x ∈ l, p x := by
  obtain ⟨l, h1, h2⟩ := cells_of (f := fun x : {x : α // p x} => f x.1) len c hl fun i hi => let ⟨x, a, b⟩ := each i hi; ⟨⟨x, b⟩, a⟩
  refine ⟨l.map (·.1), by simpa using h1, by rw [h2, List.map_map]; rfl, fun x hx => ?_⟩
  obtain ⟨y, hy, rfl⟩ := List.mem_map.1 hx
  exact y.2
theorem w32_of {h : AHeap} {H : Type} {cs : List Value} {d : DataW H} (r : ARd Try.prog h 39 cs d) (z : Sized Try.prog 39 d) : ∃ (s : Sl) (l : List Nat), cs = [.slice s.a s.n s.cap] ∧ l.length = s.n ∧ Rv Try.prog h 1 s.a s.n s.cap (w32s l) ∧ (∀ x ∈ l, x < 4294967296) ∧ s.n ≤ 140737488355328 ∧ s.cap ≤ maxLen := by
  obtain ⟨a, len, cap, c, rfl, hR, hm, hb, hel⟩ := r.slice_invZ z u32sB
  rw [show Try.prog.cellsOf 23 = 1 from by kernel_rfl] at hR hel
  rw [show Try.prog.bytesOf 23 = 4 from by kernel_rfl] at hb
  obtain ⟨l, rfl, rfl, hp⟩ := cells_of' (f := fun n : Nat => [Value.int .u32 (n : Int)]) (p := fun n => n < 4294967296) len c hR.length fun i hi => by
    obtain ⟨d', r, -⟩ := hel i hi
    obtain ⟨n, e0, hn⟩ := r.u_inv rfl u32b
    exact ⟨n, e0, hn⟩
  have e : ((l.map fun n : Nat => [Value.int .u32 (n : Int)]).flatten) = w32s l := by
    clear hR hel hp hb hm r z
    induction l with
    | nil => rfl
    | cons x l ih => simp only [w32s, List.map_cons, List.flatten_cons, List.cons_append, List.nil_append] at ih ⊢; rw [ih]
  rw [e] at hR
  exact ⟨⟨a, l.length, cap⟩, l, rfl, rfl, hR, hp, Nat.le_trans (Nat.le_mul_of_pos_right _ (by decide)) (Nat.le_trans hb (by have := reachBytes_lt; omega)), hm⟩
theorem gaps_of {h : AHeap} {H : Type} {cs : List Value} {d : DataW H} (r : ARd Try.prog h 40 cs d) (z : Sized Try.prog 40 d) : ∃ (s : Sl) (l : List (Nat × Nat)), cs = [.slice s.a s.n s.cap] ∧ l.length = s.n ∧ Rv Try.prog h 2 s.a s.n s.cap (gcs l) ∧ (∀ x ∈ l, x.1 < 65536 ∧ x.2 < 65536) ∧ s.n ≤ 140737488355328 ∧ s.cap ≤ maxLen := by
  obtain ⟨a, len, cap, c, rfl, hR, hm, hb, hel⟩ := r.slice_invZ z gapsB'
  rw [show Try.prog.cellsOf 78 = 2 from by kernel_rfl] at hR hel
  rw [show Try.prog.bytesOf 78 = 4 from by kernel_rfl] at hb
  obtain ⟨l, rfl, rfl, hp⟩ := cells_of' (f := gC) (p := fun x => x.1 < 65536 ∧ x.2 < 65536) len c hR.length fun i hi => by
    obtain ⟨d', r, -⟩ := hel i hi
    exact gap_of r
  exact ⟨⟨a, l.length, cap⟩, l, rfl, rfl, hR, hp, Nat.le_trans (Nat.le_mul_of_pos_right _ (by decide)) (Nat.le_trans hb (by have := reachBytes_lt; omega)), hm⟩
theorem causes_of {h : AHeap} {H : Type} {cs : List Value} {d : DataW H} (r : ARd Try.prog h 41 cs d) (z : Sized Try.prog 41 d) : ∃ (s : Sl) (l : List CV), cs = [.slice s.a s.n s.cap] ∧ l.length = s.n ∧ Rv Try.prog h 2 s.a s.n s.cap (ccs l) ∧ (∀ x ∈ l, x.k < 65536 ∧ x.z.length ≤ 140737488355328 ∧ Rv Try.prog h 1 x.a x.z.length x.cap (x.z.map bv)) ∧ s.n ≤ 4398046511104 ∧ s.cap ≤ maxLen := by
  obtain ⟨a, len, cap, c, rfl, hR, hm, hb, hel⟩ := r.slice_invZ z causesB'
  rw [show Try.prog.cellsOf 69 = 2 from by kernel_rfl] at hR hel
  rw [show Try.prog.bytesOf 69 = 32 from by kernel_rfl] at hb
  obtain ⟨l, rfl, rfl, hp⟩ := cells_of' (f := cvC) (p := fun x => x.k < 65536 ∧ x.z.length ≤ 140737488355328 ∧ Rv Try.prog h 1 x.a x.z.length x.cap (x.z.map bv)) len c hR.length fun i hi => by
    obtain ⟨d', r, z'⟩ := hel i hi
    exact cause_of r z'
  exact ⟨⟨a, l.length, cap⟩, l, rfl, rfl, hR, hp, (by have := reachBytes_lt; show l.length ≤ _; omega), hm⟩
set_option maxHeartbeats 4000000 in
theorem chunk_of {h : AHeap} {H : Type} {cs : List Value} {d : DataW H} (r : ARd Try.prog h 43 cs d) (z : Sized Try.prog 43 d) : ∃ (c : Ck) (x : CD), cs = c.cs ∧ COk h c x ∧ c.D.n ≤ 140737488355328 ∧ c.A.n ≤ 140737488355328 ∧ c.G.n ≤ 140737488355328 ∧ c.U.n ≤ 140737488355328 ∧ c.C.n ≤ 4398046511104 := by
  obtain ⟨hl, hf⟩ := r.fieldZ z Try.underlying43
  rw [show Try.prog.cellsOf 43 = 15 from by kernel_rfl] at hl
  match cs, hl with
  | [c0, c1, c2, c3, c4, c5, c6, c7, c8, c9, c10, c11, c12, c13, c14], _ =>
    obtain ⟨d0, r0, -⟩ := hf 0 5 0 1 rfl (by kernel_rfl)
    obtain ⟨n0, e0, b0⟩ := r0.u_inv rfl u8b
    obtain ⟨d1, r1, -⟩ := hf 1 5 1 1 rfl (by kernel_rfl)
    obtain ⟨n1, e1, b1⟩ := r1.u_inv rfl u8b
    obtain ⟨d2, r2, -⟩ := hf 2 23 2 1 rfl (by kernel_rfl)
    obtain ⟨n2, e2, b2⟩ := r2.u_inv rfl u32b
    obtain ⟨d3, r3, -⟩ := hf 3 23 3 1 rfl (by kernel_rfl)
    obtain ⟨n3, e3, b3⟩ := r3.u_inv rfl u32b
    obtain ⟨d4, r4, -⟩ := hf 4 23 4 1 rfl (by kernel_rfl)
    obtain ⟨n4, e4, b4⟩ := r4.u_inv rfl u32b
    obtain ⟨d5, r5, -⟩ := hf 5 22 5 1 rfl (by kernel_rfl)
    obtain ⟨n5, e5, b5⟩ := r5.u_inv rfl u16b
    obtain ⟨d6, r6, -⟩ := hf 6 22 6 1 rfl (by kernel_rfl)
    obtain ⟨n6, e6, b6⟩ := r6.u_inv rfl u16b
    obtain ⟨d7, r7, -⟩ := hf 7 22 7 1 rfl (by kernel_rfl)
    obtain ⟨n7, e7, b7⟩ := r7.u_inv rfl u16b
    obtain ⟨d8, r8, -⟩ := hf 8 22 8 1 rfl (by kernel_rfl)
    obtain ⟨n8, e8, b8⟩ := r8.u_inv rfl u16b
    obtain ⟨d9, r9, -⟩ := hf 9 23 9 1 rfl (by kernel_rfl)
    obtain ⟨n9, e9, b9⟩ := r9.u_inv rfl u32b
    obtain ⟨d10, r10, z10⟩ := hf 10 31 10 1 rfl (by kernel_rfl)
    obtain ⟨a, cap, zs, e10, hR, hm, hZ⟩ := r10.bytesZ z10 bytesB u8b (by kernel_rfl) u8W5
    obtain ⟨d11, r11, z11⟩ := hf 11 39 11 1 rfl (by kernel_rfl)
    obtain ⟨sA, lA, e11, l11, v11, b11, n11, m11⟩ := w32_of r11 z11
    obtain ⟨d12, r12, z12⟩ := hf 12 40 12 1 rfl (by kernel_rfl)
    obtain ⟨sG, lG, e12, l12, v12, b12, n12, m12⟩ := gaps_of r12 z12
    obtain ⟨d13, r13, z13⟩ := hf 13 39 13 1 rfl (by kernel_rfl)
    obtain ⟨sU, lU, e13, l13, v13, b13, n13, m13⟩ := w32_of r13 z13
    obtain ⟨d14, r14, z14⟩ := hf 14 41 14 1 rfl (by kernel_rfl)
    obtain ⟨sC, lC, e14, l14, v14, b14, n14, m14⟩ := causes_of r14 z14
    simp at e0 e1 e2 e3 e4 e5 e6 e7 e8 e9 e10 e11 e12 e13 e14
    subst e0 e1 e2 e3 e4 e5 e6 e7 e8 e9 e10 e11 e12 e13 e14
    exact ⟨⟨n0, n1, n2, n3, n4, n5, n6, n7, n8, n9, ⟨a, zs.length, cap⟩, sA, sG, sU, sC⟩, ⟨zs, lA, lG, lU, lC⟩, rfl, ⟨b0, b1, b2, b3, b4, b5, b6, b7, b8, b9, rfl, hR, l11, v11, b11, l12, v12, b12, l13, v13, b13, l14, v14, b14⟩, hZ, n11, n12, n13, n14⟩
end Go.Proofs.Ytjpegoigipbmiaa
namespace Go.Proofs.Ytjpegoigipbmiaa
set_option maxRecDepth 100000
theorem hu16 : Try.prog.underlying 22 = some (.int .u16) := by kernel_rfl
theorem hu32 : Try.prog.underlying 23 = some (.int .u32) := by kernel_rfl
theorem head_of {h : AHeap} {H : Type} {cs : List Value} {d : DataW H} (r : ARd Try.prog h 25 cs d) : ∃ f t g : Nat, cs = [.int .u16 f, .int .u16 t, .int .u32 g] ∧ f < 65536 ∧ t < 65536 ∧ g < 4294967296 := by
  obtain ⟨hl, hf⟩ := r.field Try.underlying25
  rw [show Try.prog.cellsOf 25 = 3 from by kernel_rfl] at hl
  match cs, hl with
  | [c0, c1, c2], _ =>
    obtain ⟨d0, r0⟩ := hf 0 22 0 1 rfl (by kernel_rfl)
    obtain ⟨d1, r1⟩ := hf 1 22 1 1 rfl (by kernel_rfl)
    obtain ⟨d2, r2⟩ := hf 2 23 2 1 rfl (by kernel_rfl)
    obtain ⟨f, e0, h0⟩ := r0.u_inv rfl hu16
    obtain ⟨t, e1, h1⟩ := r1.u_inv rfl hu16
    obtain ⟨g, e2, h2⟩ := r2.u_inv rfl hu32
    simp at e0 e1 e2
    subst e0 e1 e2
    exact ⟨f, t, g, rfl, h0, h1, h2⟩
end Go.Proofs.Ytjpegoigipbmiaa
namespace Go.Proofs.Ytjpegoigipbmiaa
set_option maxRecDepth 100000
theorem chunksB' : Try.prog.underlying 26 = some (.slice 43) := by kernel_rfl
theorem chunks_of {h : AHeap} {H : Type} {cs : List Value} {d : DataW H} (r : ARd Try.prog h 26 cs d) (z : Sized Try.prog 26 d) : ∃ (a : Option Addr) (n cap : Nat) (l : List CP), cs = [.slice a n cap] ∧ KS h a n cap l ∧ (∀ x ∈ l, CB x.1) ∧ n ≤ 140737488355328 := by
  obtain ⟨a, len, cap, c, rfl, hR, hm, hb, hel⟩ := r.slice_invZ z chunksB'
  rw [show Try.prog.cellsOf 43 = 15 from by kernel_rfl] at hR hel
  obtain ⟨l, rfl, rfl, hp⟩ := cells_of' (f := fun x : CP => x.1.cs) (p := fun x => COk h x.1 x.2 ∧ CB x.1) len c hR.length fun i hi => by
    obtain ⟨d', r, z'⟩ := hel i hi
    obtain ⟨c, x, e, ok, b⟩ := chunk_of r z'
    exact ⟨(c, x), e, ok, b⟩
  exact ⟨a, l.length, cap, l, rfl, ⟨rfl, hR, fun x hx => (hp x hx).1⟩, fun x hx => (hp x hx).2, Nat.le_trans (Nat.le_mul_of_pos_right _ (of_decide_eq_true (by kernel_rfl))) (Nat.le_trans hb (by have := reachBytes_lt; omega))⟩
theorem packet_of {h : AHeap} {H : Type} {cs : List Value} {d : DataW H} (r : ARd Try.prog h 28 cs d) (z : Sized Try.prog 28 d) : ∃ (f t g : Nat) (a : Option Addr) (n cap : Nat) (l : List CP), cs = [.int .u16 f, .int .u16 t, .int .u32 g, .slice a n cap] ∧ f < 65536 ∧ t < 65536 ∧ g < 4294967296 ∧ KS h a n cap l ∧ (∀ x ∈ l, CB x.1) ∧ n ≤ 140737488355328 := by
  obtain ⟨hl, hf⟩ := r.fieldZ z Try.underlying28
  rw [show Try.prog.cellsOf 28 = 4 from by kernel_rfl] at hl
  match cs, hl with
  | [c0, c1, c2, c3], _ =>
    obtain ⟨d0, r0, -⟩ := hf 0 25 0 3 rfl (by kernel_rfl)
    obtain ⟨f, t, g, e0, b1, b2, b3⟩ := head_of r0
    obtain ⟨d1, r1, z1⟩ := hf 1 26 3 1 rfl (by kernel_rfl)
    obtain ⟨a, n, cap, l, e1, ks, hb, hn⟩ := chunks_of r1 z1
    simp at e0 e1
    obtain ⟨rfl, rfl, rfl⟩ := e0
    subst e1
    exact ⟨f, t, g, a, n, cap, l, rfl, b1, b2, b3, ks, hb, hn⟩
theorem plainPacket : plainB Try.prog 9 28 = true := by kernel_rfl
end Go.Proofs.Ytjpegoigipbmiaa
namespace Go.Proofs.Ytjpegoigipbmiaa
open Go.ChangeShapes Go.WideShapes Go.ChangeAt Go.RowKit
set_option maxRecDepth 100000
theorem pktPutsWalk {H : Type} {enc : TypeId × Value → H} {base : Nat} {d0 : DataW H} {p0 : List MemPlace} (v0 : Value) (W : World) (o0 : Value.okWide Try.prog W .any base 28 v0) (h0 : DataW.Trod enc Try.prog W 0 (fun _ => true) true 28 v0 d0 p0) (z0 : Sized Try.prog 28 d0) : Calls Try.prog 3 #[v0] W fun e w' => e = .returned (.bool true) ∧ Below W.heap.size W w' := by
  obtain ⟨c1, rfl, hsz⟩ := okWide_struct Try.underlying28 o0
  obtain ⟨m, h, cs, I, _, _, hA, hR, hl⟩ := imp_val plainPacket h0 (Im.empty Try.prog W)
  have hv := vrel_agg hA
  obtain ⟨f, t, g, a, n, cap, l, rfl, b1, b2, b3, ks, hb, hn⟩ := packet_of hR z0
  exact calls_imp noGlobals I rfl (pktPuts_spec f t g b1 b2 b3 a n cap l h ks hn hb) (ARel.single hv)
end Go.Proofs.Ytjpegoigipbmiaa