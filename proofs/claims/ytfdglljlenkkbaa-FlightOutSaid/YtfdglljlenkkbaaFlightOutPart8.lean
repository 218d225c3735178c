/- What the law leans on, part 8. No conditions. -/
import Derived.ProofKit
import Derived.OpenShut
import Derived.ChangeOld
import Derived.Test.YtfdglljlenkkbaaFlightOutPart7
set_option linter.unusedVariables false
set_option linter.unusedSimpArgs false
namespace Go.Proofs.Ytfdglljlenkkbaa
set_option maxRecDepth 100000
attribute [local irreducible] Go GoR GoL
theorem boolU19 : Try.prog.underlying 4 = some .bool := by kernel_rfl
structure FU (h : AHeap) (n0 T fb ab : Nat) (i n : Nat) (zs : List Nat) (cum next : Nat) (fl : List FE) (ra : Option Addr) (rc : Nat) (rec : Bool) (unt : Nat) (H : AHeap) : Prop where
 F : FlO H fb cum next ra rc fl rec unt n0
 K : PI T zs n cum next fl (2 * i)
 zl : zs.length ≤ i
 u : unt < 4294967296
 sm : Same h H
 n0 : h.n ≤ n0 ∧ n0 ≤ H.n
 pt : ∀ e ∈ fl, e.path ≤ 3
 ab : h.n ≤ ab
section
variable {h : AHeap} {n0 T fb ab i n : Nat} {zs : List Nat} {cum next : Nat} {fl : List FE} {ra : Option Addr} {rc : Nat} {rec : Bool} {unt : Nat} {o : Nat → Nat} {H H' : AHeap}
theorem FU.same (k : FU h n0 T fb ab i n zs cum next fl ra rc rec unt H) (s : Same H H') : FU h n0 T fb ab i n zs cum next fl ra rc rec unt H' := ⟨k.F.same s, k.K, k.zl, k.u, k.sm.trans s, ⟨k.n0.1, Nat.le_trans k.n0.2 s.1⟩, k.pt, k.ab⟩
theorem FU.step (k : FU h n0 T fb ab i n zs cum next fl ra rc rec unt H) : FU h n0 T fb ab (i + 1) n zs cum next fl ra rc rec unt H := ⟨k.F, k.K.mono (by omega), Nat.le_succ_of_le k.zl, k.u, k.sm, k.n0, k.pt, k.ab⟩
theorem FU.keepA (k : FU h n0 T fb ab i n zs cum next fl ra rc rec unt H) (g : H.get ab = some (.cells (i64s (al4 o)) 50)) {wr : List Nat} (hw : ∀ j ∈ wr, j ∈ wrF fb ra fl) (kk : Keeps wr H H') : H'.get ab = some (.cells (i64s (al4 o)) 50) ∧ Same h H' ∧ n0 ≤ H'.n := by
 have ty : ∀ j ∈ wr, tyF H j ≠ some 50 ∧ n0 ≤ j := fun j hj => by
  have := hw j hj
  unfold wrF at this
  rcases List.mem_cons.1 this with rfl | hj
  · exact ⟨by rw [tyF_cells k.F.fc]; decide, k.F.own.1⟩
  ·
   rcases List.mem_append.1 hj with hj | hj
   · exact ⟨by rw [sv_tyF k.F.row j hj]; decide, k.F.own.2.1 j hj⟩
   ·
    obtain ⟨e, he, rfl⟩ := List.mem_map.1 hj
    exact ⟨by rw [tyF_cells (k.F.ent e he)]; decide, k.F.own.2.2 e he⟩
 refine ⟨kk.get g (fun hm => (ty _ hm).1 (tyF_cells g)), k.sm.own kk (fun j hj => Nat.le_trans k.n0.1 (ty j hj).2), Nat.le_trans k.n0.2 kk.1⟩
theorem FU.ownW (k : FU h n0 T fb ab i n zs cum next fl ra rc rec unt H) : ∀ j ∈ wrF fb ra fl, h.n ≤ j := fun j hj => by
 have n1 := k.n0.1
 unfold wrF at hj
 rcases List.mem_cons.1 hj with rfl | hj
 · have := k.F.own.1; omega
 ·
  rcases List.mem_append.1 hj with hj | hj
  · have := k.F.own.2.1 j hj; omega
  ·
   obtain ⟨e, he, rfl⟩ := List.mem_map.1 hj
   have := k.F.own.2.2 e he; omega
theorem FU.setA (k : FU h n0 T fb ab i n zs cum next fl ra rc rec unt H) (g : H.get ab = some (.cells (i64s (al4 o)) 50)) (kk : Keeps [ab] H H') : FU h n0 T fb ab i n zs cum next fl ra rc rec unt H' :=
 ⟨k.F.keepsL kk g (fun c t e => by cases e; decide), k.K, k.zl, k.u, k.sm.own kk (fun j hj => by rw [List.mem_singleton.1 hj]; exact k.ab), ⟨k.n0.1, Nat.le_trans k.n0.2 kk.1⟩, k.pt, k.ab⟩
end
theorem al4_setI (o : Nat → Nat) {k : Nat} (hk : k < 4) (v : Nat) : setL (i64s (al4 o)) (0 + ((k : Nat) : Int).toNat * 1) [.int .i64 (v : Nat)] = i64s (al4 (setO4 o k v)) := by
 rw [Int.toNat_natCast, Nat.mul_one, Nat.zero_add]; exact al4_set o hk v
theorem oL_le {fl : List FE} (h : ∀ e ∈ fl, e.dl ≤ 255) (hl : fl.length ≤ 1000) (k : Nat) : oL fl k ≤ 255 * 1000 := by
 have h1 := sumL_le (f := outE k) (l := fl) (B := 255) (fun e he => by
  have := h e he
  unfold outE; split <;> omega)
 unfold oL
 omega
set_option maxHeartbeats 64000000 in
theorem flightOut_spec (T : Nat) (hT : T < 4294967296) (la : Option Addr) (lc : Nat) (l : List DV) (hl : l.length ≤ 140737488355328) (h : AHeap) (D : DOk h la lc l) : CallS Try.prog [] 4 [.int .u32 (T : Nat), .slice la l.length lc] h fun v h' => v = .bool true := by
 have hh := heavy18_spec la lc l hl h D
 (refine CallS.of2 Try.func4 rfl Try.ntmps4 Try.results4 rfl ?_)
 (refine Go.run (g:=?_))
 refine GoR.call rfl rfl rfl rfl rfl rfl rfl (((hh).argA).mono ?_)
 rintro _ h1 rfl s1
 cases hv : heavyD l with
 | true =>
  (refine Go.run (g:=?_))
  refine GoR.call rfl rfl rfl rfl rfl rfl rfl (((works18 _).argA).mono ?_)
  rintro _ h2 ⟨rfl, rfl⟩ -
  (refine Go.run (g:=?_))
  (first|refine Go.finA rfl ?_|refine Go.finB rfl (hq:=?_))
  rfl
 | false =>
 have hlen : l.length ≤ 300 := by
  unfold heavyD at hv
  rw [Bool.or_eq_false_iff] at hv
  have := hv.2
  rw [decide_eq_false_iff_not] at this
  omega
 have hgl : ∀ x ∈ l, x.gs.length ≤ 1000 := fun x hx => by
  unfold heavyD at hv
  rw [Bool.or_eq_false_iff, List.any_eq_false] at hv
  have := hv.1 x hx
  simp at this
  omega
 clear hh hl
 have hv' : True → heavyD l = false := fun _ => hv
 clear hv
 (refine Go.run (g:=?_))
 refine GoR.call rfl rfl rfl rfl rfl rfl rfl (((fnew_spec T hT _).argA).mono ?_)
 rintro _ h2 ⟨fb, rfl, F2⟩ s2
 have S2 := s1.trans s2
 have n2 := s1.1
 have m2 := s2.1
 (refine Go.run (g:=?_))
 refine Go.name ?_
 intro h3 e3
 have s3 : Same h2 h3 := by subst e3; exact (Same.refl h2).push _
 have n3 : h3.n = h2.n + 1 := by subst e3; rfl
 have g3 : h3.get h2.n = some (.cells (i64s (al4 (oL []))) 50) := by subst e3; exact AHeap.get_push_same h2 _
 clear e3
 have I0 : FU h h1.n T fb h2.n 0 0 [] ((T + 4294967295) % 4294967296) T [] none 0 false 0 h3 := ⟨F2.same s3, PI.nil T hT, Nat.le_refl _, by omega, S2.trans s3, ⟨s1.1, by omega⟩, (fun e he => by cases he), by omega⟩
 obtain ⟨ab, hab⟩ : ∃ ab, ab = h2.n := ⟨_, rfl⟩
 rw [← hab] at I0 g3 ⊢
 clear F2 S2
 refine Go.loop (α := Nat × Nat × List Nat × Nat × Nat × List FE × Option Addr × Nat × Bool × Nat × AHeap) (fun x => [(27, .int .i64 x.1), (26, .int .i64 l.length), (25, .slice la l.length lc), (5, .pointer (some ⟨fb, 0, none⟩)), (6, .pointer (some ⟨ab, 0, none⟩)), (0, .int .u32 (T : Nat))]) (fun _ => []) (fun x => x.2.2.2.2.2.2.2.2.2.2) (fun x => x.1 ≤ l.length ∧ FU h h1.n T fb ab x.1 x.2.1 x.2.2.1 x.2.2.2.1 x.2.2.2.2.1 x.2.2.2.2.2.1 x.2.2.2.2.2.2.1 x.2.2.2.2.2.2.2.1 x.2.2.2.2.2.2.2.2.1 x.2.2.2.2.2.2.2.2.2.1 x.2.2.2.2.2.2.2.2.2.2 ∧ x.2.2.2.2.2.2.2.2.2.2.get ab = some (.cells (i64s (al4 (oL x.2.2.2.2.2.1))) 50)) (fun x => l.length - x.1) (0, 0, [], (T + 4294967295) % 4294967296, T, [], none, 0, false, 0, h3) ⟨Nat.zero_le _, I0, g3⟩ ⟨rfl, rfl, rfl, rfl, rfl, rfl, trivial⟩ rfl rfl ?_
 clear I0 s1 s2 s3 g3 n3 m2
 rintro ⟨i, n, zs, cum, next, fl, ra, rc, rec, unt, H⟩ ⟨hi, I, ga⟩
 simp only at hi I ga ⊢
 rcases Nat.lt_or_ge i l.length with i0 | i0
 ·
  have D' := D.same I.sm
  have rvl := D'.row
  have c0 := dvs_get i0
  have hb2 : i * 8 + 8 ≤ (dvs l).length := by rw [dvs_len]; omega
  have hb3 : i * 8 < (dvs l).length := by rw [dvs_len]; omega
  have hmem := List.getElem_mem i0
  have xb := D.b _ hmem
  have xg0 := D.g _ hmem
  have xgl := hgl _ hmem
  have xlt := xg0.lt
  generalize l[i] = x at *
  unfold DV.cs at c0
  have mH := I.sm.1
  have xb' : True → _ := fun _ => xb
  clear xb D'
  obtain ⟨xp, hxp, hp3⟩ := and3 x.path
  obtain ⟨xn, hxn, hn3⟩ := and3 x.next
  have hp3' : True → _ := fun _ => hp3
  have hn3' : True → _ := fun _ => hn3
  clear hp3 hn3
  (refine Go.run (g:=?_))
  refine GoR.bin rfl rfl rfl rfl rfl rfl (hp3' trivial) ?_
  (refine Go.run (g:=?_))
  refine GoR.bin rfl rfl rfl rfl rfl rfl (hn3' trivial) ?_
  (refine Go.run (g:=?_))
  refine GoR.name ?_
  intro H1 e1
  have s1 : Same H H1 := by subst e1; exact ((((Same.refl H).push _).put (Nat.le_refl _) _).put (Nat.le_refl _) _).put (Nat.le_refl _) _
  have n1 : H1.n = H.n + 1 := by subst e1; rfl
  have x1 : H1.get H.n = some (.cells [.int .u8 (x.kind : Nat), .int .u8 (x.size : Nat), .int .u8 (x.off : Nat), .int .i64 (xp : Nat), .int .i64 (xn : Nat), .int .i32 x.cc, .slice x.ga x.gs.length x.gc, .int .u64 (x.now : Nat)] 32) := by subst e1; exact AHeap.get_put_same _ (by simp) _
  clear e1 c0 hb2 hb3 rvl hp3' hn3'
  have I1 := I.same s1
  have xg1 := xg0.same (I.sm.trans s1)
  have g1 := s1.get ga
  have hn0 := I1.n0
  have hKl := I1.K.lt
  have flen := I1.K.len
  have zlen := I1.zl
  have hok := I1.K.ok
  have habn := I1.ab
  have habl := AHeap.lt ga
  refine GoR.call rfl rfl rfl rfl rfl rfl rfl (((total_spec fb cum next ra rc fl rec unt h1.n (by omega) (fun e he => (hok e he).d1) _ I1.F).argA).mono ?_)
  rintro _ H2 rfl s2
  have I2 := I1.same s2
  have x2 := s2.get x1
  have g2 := s2.get g1
  have xg2 := xg1.same s2
  have m2 := s2.1
  have I0lt := I.F.lt
  clear x1 g1 xg1 s1 I1 I ga xg0
  (refine Go.run (g:=?_))
  refine Go.join2 (α := Nat × List Nat × Nat × Nat × List FE × Option Addr × Nat × Bool × Nat × AHeap) (fun _ => [(27, .int .i64 i), (26, .int .i64 l.length), (25, .slice la l.length lc), (5, .pointer (some ⟨fb, 0, none⟩)), (6, .pointer (some ⟨ab, 0, none⟩)), (0, .int .u32 (T : Nat))]) (fun _ => []) (fun x => x.2.2.2.2.2.2.2.2.2) (fun x => FU h h1.n T fb ab (i + 1) x.1 x.2.1 x.2.2.1 x.2.2.2.1 x.2.2.2.2.1 x.2.2.2.2.2.1 x.2.2.2.2.2.2.1 x.2.2.2.2.2.2.2.1 x.2.2.2.2.2.2.2.2.1 x.2.2.2.2.2.2.2.2.2 ∧ x.2.2.2.2.2.2.2.2.2.get ab = some (.cells (i64s (al4 (oL x.2.2.2.2.1))) 50)) ?_ ?_
  ·
   by_cases k0 : x.kind = 0
   ·
    refine Go.runN (g:=?_)
    refine Go.loud (by kernel_rfl) rfl ?_
    (refine Go.runL (g:=?_))
    refine GoL.call rfl rfl rfl rfl rfl rfl rfl (((fnext_spec fb cum next ra rc fl rec unt h1.n H2 I2.F).argA).mono ?_)
    rintro _ H3 rfl k3
    have s3 := k3.same
    refine ⟨(fun j hj => by cases hj), ?_⟩
    have x3 := s3.get x2
    (refine Go.runL (g:=?_))
    refine GoL.call rfl rfl rfl rfl rfl rfl rfl (((piece_spec next { x with path := (xp : Int), next := (xn : Int) } (xb' trivial).2.1 (xb' trivial).2.2.1 H3).argA).mono ?_)
    rintro _ H4 ⟨pa, pc, rfl, D4⟩ k4
    have s4 := k4.same
    refine ⟨(fun j hj => by cases hj), ?_⟩
    (refine Go.runL (g:=?_))
    simp only at D4 ⊢
    obtain ⟨tn, htn⟩ : ∃ tn, tn = (next + x.off) % 4294967296 := ⟨_, rfl⟩
    rw [← htn]
    refine GoL.store (off := 0) (n := 6) (v := .agg (pcs tn pa x.size pc).toArray) (l := pcs tn pa x.size pc) rfl rfl rfl rfl rfl (AHeap.get_push_same H4 _) rfl rfl (by simp) rfl rfl (.inr (by have := k4.1; have := k3.1; omega)) ?_
    have hdis : ∀ b ∈ ([] : List Nat), b ≠ h.n := fun b hb => by cases hb
    have hdis2 := hdis
    refine GoL.endN (g:=?_)
    clear hdis hdis2
    refine Go.name ?_
    intro H5 e5
    have s5 : Same H4 H5 := by subst e5; exact ((Same.refl H4).push _).put (Nat.le_refl _) _
    have p5 : H5.get H4.n = some (.cells (pcs tn pa x.size pc) 36) := by subst e5; exact AHeap.get_put_same _ (by simp) _
    clear e5
    have S5 := s3.trans (s4.trans s5)
    have I5 := I2.same S5
    have x5 := S5.get x2
    have g5 := S5.get g2
    have D5 := D4.same s5
    have m5 := S5.1
    unfold pcs at p5
    have hw5 : ∀ j ∈ fb :: blk ra, j ∈ wrF fb ra fl := fun j hj => by
     unfold wrF
     rcases List.mem_cons.1 hj with rfl | hj
     · exact List.mem_cons_self ..
     · exact List.mem_cons_of_mem _ (List.mem_append_left _ hj)
    (refine Go.run (g:=?_))
    refine GoR.callW rfl rfl rfl rfl rfl rfl rfl (((sent_spec fb cum next ra rc fl rec unt h1.n tn x.size pc x.now pa (xp : Int) (by omega) (by have := (xb' trivial).2.1; omega) _ I5.F I5.n0.2 D5).argA).mono ?_)
    rintro _ H6 hv k6
    refine ⟨fun j hj => .inr (I5.ownW j (hw5 j hj)), ?_⟩
    obtain ⟨g6, sm6, n6⟩ := I5.keepA g5 hw5 k6
    have p6 : H6.get H4.n = some (.cells [.int .u32 (tn : Nat), .int .u8 (0 : Nat), .int .u16 (3 : Nat), .int .u16 (0 : Nat), .int .u32 (0 : Nat), .slice pa x.size pc] 36) := k6.get p5 (fun hm => by
     have h3 := I2.F.lt H4.n (hw5 _ hm)
     have := s3.1; have := s4.1; omega)
    have x6 := k6.get x5 (fun hm => by
     have h3 := I0lt H.n (hw5 _ hm)
     omega)
    rcases hv with ⟨htx, hk, hp, rfl, ra', rc', b, da, dc, F6, hra, hb⟩ | ⟨-, rfl, s6⟩
    ·
     rw [Int.toNat_natCast] at F6
     have K6 := I2.K.sent (e := ⟨b, tn, da, x.size, dc, xp, x.now, 0, false, 0⟩) htx ⟨hk, by have := (xb' trivial).2.1; simp only; omega, by simp only; omega, (xb' trivial).2.2.2.1, Nat.zero_le _⟩
     simp only at K6
     have m6 := k6.1
     have ag := al4_get (oL fl) hxp
     have hob := oL_le (fun e he => (hok e he).d1) (by omega) xp
     have hsz := (xb' trivial).2.1
     refine Go.runN (g:=?_)
     refine Go.loud (by kernel_rfl) rfl ?_
     (refine Go.runL (g:=?_))
     refine GoL.store (n := 1) (l := [.int .i64 (((oL fl xp + x.size) : Nat) : Int)]) rfl rfl rfl rfl rfl (g6) rfl rfl (by rw [al4_len]; simp only [Int.toNat_natCast]; omega) rfl (al4_setI (oL fl) hxp (oL fl xp + x.size)) (.inr habn) ?_
     have hdis : ∀ b ∈ ([] : List Nat), b ≠ h.n := fun b hb => by cases hb
     have hdis2 := hdis
     refine GoL.endN (g:=?_)
     clear hdis hdis2
     refine Go.name ?_
     intro H7 e7
     have k7 : Keeps [ab] H6 H7 := by subst e7; exact (Keeps.rf _ _).pt (.inl (by simp)) _
     have g7 : H7.get ab = some (.cells (i64s (al4 (setO4 (oL fl) xp (oL fl xp + x.size)))) 50) := by subst e7; exact AHeap.get_put_same _ (AHeap.lt g6) _
     clear e7
     have I6 : FU h h1.n T fb ab (i + 1) n (zs ++ [x.size]) cum ((next + 1) % 4294967296) (fl ++ [⟨b, tn, da, x.size, dc, xp, x.now, 0, false, 0⟩]) ra' rc' rec unt H6 := ⟨F6, K6.mono (by omega), by rw [List.length_append]; simp; omega, I2.u, sm6, ⟨hn0.1, n6⟩, (fun e he => by
      rcases List.mem_append.1 he with he | he
      · exact I2.pt e he
      · rw [List.mem_singleton.1 he]; simp only; omega), habn⟩
     rw [al4_congr (o' := oL (fl ++ [⟨b, tn, da, x.size, dc, xp, x.now, 0, false, 0⟩])) (fun k hk => by
      have := out_snoc fl ⟨b, tn, da, x.size, dc, xp, x.now, 0, false, 0⟩ k rfl
      simp only at this
      unfold oL setO4
      rw [this]
      by_cases hq : k = xp
      · subst hq; simp
      · rw [if_neg hq, if_neg (fun z => hq z.symm)]; rfl)] at g7
     (refine Go.run (g:=?_))
     exact Go.joined (n, zs ++ [x.size], cum, (next + 1) % 4294967296, fl ++ [⟨b, tn, da, x.size, dc, xp, x.now, 0, false, 0⟩], ra', rc', rec, unt, H7) ⟨I6.setA g6 k7, g7⟩ ⟨rfl, rfl, rfl, rfl, rfl, rfl, trivial⟩ rfl rfl
    ·
     (refine Go.run (g:=?_))
     exact Go.joined (n, zs, cum, next, fl, ra, rc, rec, unt, H6) ⟨(I5.same s6).step, g6⟩ ⟨rfl, rfl, rfl, rfl, rfl, rfl, trivial⟩ rfl rfl
   ·
    by_cases k1 : x.kind = 1
    ·
     refine Go.runN (g:=?_)
     refine Go.loud (by kernel_rfl) rfl ?_
     (refine Go.runL (g:=?_))
     refine GoL.call rfl rfl rfl rfl rfl rfl rfl (((fcum_spec fb cum next ra rc fl rec unt h1.n H2 I2.F).argA).mono ?_)
     rintro _ H3 rfl k3
     have s3 := k3.same
     refine ⟨(fun j hj => by cases hj), ?_⟩
     have x3 := s3.get x2
     have I3 := I2.same s3
     have g3 := s3.get g2
     have xg3 := xg2.same s3
     have m3 := s3.1
     (refine Go.runL (g:=?_))
     obtain ⟨cn, hcn, hcn2⟩ : ∃ cn : Nat, IntKind.u32.wrap x.cc = (cn : Int) ∧ cn < 4294967296 := ⟨(x.cc % 4294967296).toNat, by simp [IntKind.wrap, IntKind.bits, IntKind.signed]; omega, by omega⟩
     refine GoL.conv rfl rfl rfl rfl rfl ?_
     rw [hcn]
     refine GoL.bin rfl rfl rfl rfl rfl rfl (a32 cum cn) ?_
     have hc : (cum + cn) % 4294967296 < 4294967296 := Nat.mod_lt _ (by decide)
     generalize (cum + cn) % 4294967296 = c at hc ⊢
     (refine Go.runL (g:=?_))
     refine GoL.call rfl rfl rfl rfl rfl rfl rfl (((ackU_spec T n (2 * i) fb cum next zs ra rc fl rec unt h1.n c x.now x.ga x.gc x.gs I3.K (by omega) (by omega) I3.pt hc I3.u (xb' trivial).2.2.2.1 (xb' trivial).2.2.2.2.2.2.2.2.2.2 xgl H3 I3.F I3.n0.2 xg3 (fun j hj => by have := xlt j hj; omega)).argA).mono ?_)
     rintro _ H4 ⟨fr, adv, ba, B, pth, tks, ka, kn, kc, er, n', cum', ra', rc', rec', unt', fl', rfl, PB4, hB, hBl, F4, K4, hu4, pt4, hsum, htot⟩ k4
     have hw4 : ∀ j ∈ fb :: fl.map FE.b, j ∈ wrF fb ra fl := fun j hj => by
      unfold wrF
      rcases List.mem_cons.1 hj with rfl | hj
      · exact List.mem_cons_self ..
      · exact List.mem_cons_of_mem _ (List.mem_append_right _ hj)
     refine ⟨fun j hj => .inr (I3.ownW j (hw4 j hj)), ?_⟩
     obtain ⟨g4, sm4, n4⟩ := I3.keepA g3 hw4 k4
     have m4 := k4.1
     have hob := fun q => oL_le (fun e he => (hok e he).d1) (by omega) q
     have hdis : ∀ b ∈ fb :: fl.map FE.b, b < H4.n := fun b hb => by
      have h3 := I3.F.lt b (hw4 b hb)
      omega
     have hdis2 := hdis
     (refine Go.runL (g:=?_))
     refine GoL.store (off := 0) (n := 6) (l := [.int .i64 (fr : Nat), .bool adv, .slice ba B.length B.length, .int .i64 pth, .int .u64 (tks : Nat), .slice ka kn kc]) rfl rfl rfl rfl rfl (AHeap.get_push_same H4 _) rfl rfl (by simp) rfl rfl (.inr (by omega)) ?_
     (refine Go.runL (g:=?_))
     refine GoL.end_ (hl := by (simp only [List.nil_append, List.cons_append, AHeap.n_push, AHeap.n_put]); repeat (first | exact loudP.nil | refine loudP.none ?_ | refine loudP.new (fun _ hb => absurd hb List.not_mem_nil) ?_ | refine loudP.row (by repeat (first | exact loudRowP.nil | refine loudRowP.none ?_ | refine loudRowP.bef (by decide +kernel) ?_ | refine loudRowP.apart (by first | exact .inl rfl | exact .inr (by simp)) rfl (fun i hi => by first | (have hx := hdis _ hi; first | (simp; fail_if_success focus skip) | (simp; omega)) | (have hx := hdis2 _ hi; first | (simp; fail_if_success focus skip) | (simp; omega))) ?_)) ?_)) ?_
     clear hdis hdis2
     refine Go.name ?_
     intro H5 e5
     have s5 : Same H4 H5 := by subst e5; exact ((Same.refl H4).push _).put (Nat.le_refl _) _
     have t5 : H5.get H4.n = some (.cells [.int .i64 (fr : Nat), .bool adv, .slice ba B.length B.length, .int .i64 pth, .int .u64 (tks : Nat), .slice ka kn kc] 43) := by subst e5; exact AHeap.get_put_same _ (by simp) _
     clear e5
     have I4 : FU h h1.n T fb ab (i + 1) n' zs cum' next fl' ra' rc' rec' unt' H4 := ⟨F4, K4.mono (by omega), by omega, hu4, sm4, ⟨hn0.1, n4⟩, pt4, habn⟩
     have I5 := I4.same s5
     have g5 := s5.get g4
     have P5 := PB4.same s5
     have m5 := s5.1
     clear I4 F4 K4 PB4 g4 sm4 s5 k4 k3 s3 x3 I3 g3 xg3 I2 x2 g2 xg2 I0lt
     (refine Go.run (g:=?_))
     refine Go.loop (α := Nat × AHeap) (fun x => [(27, .int .i64 i), (26, .int .i64 l.length), (25, .slice la l.length lc), (5, .pointer (some ⟨fb, 0, none⟩)), (6, .pointer (some ⟨ab, 0, none⟩)), (0, .int .u32 (T : Nat)), (9, .int .i64 (sumL totE fl : Nat)), (84, .slice ba B.length B.length), (85, .int .i64 B.length), (86, .int .i64 x.1)]) (fun _ => []) (fun x => x.2) (fun x => x.1 ≤ B.length ∧ FU h h1.n T fb ab (i + 1) n' zs cum' next fl' ra' rc' rec' unt' x.2 ∧ PB x.2 ba B ∧ x.2.get ab = some (.cells (i64s (al4 (fun q => oL fl q - sumP q (B.take x.1)))) 50) ∧ H5.n ≤ x.2.n) (fun x => B.length - x.1) (0, H5) ⟨Nat.zero_le _, I5, P5, g5, Nat.le_refl _⟩ ⟨rfl, rfl, rfl, rfl, rfl, rfl, rfl, rfl, rfl, rfl, trivial⟩ rfl rfl ?_
     clear I5 P5 g5 t5
     rintro ⟨j, H6⟩ ⟨hj, I6, P6, g6, m6⟩
     simp only at hj I6 P6 g6 m6 ⊢
     rcases Nat.lt_or_ge j B.length with j0 | j0
     ·
      have rv6 := P6.rv
      have hBj := hB _ (List.getElem_mem j0)
      have b0 := pbc_get j0
      have hb2 : j * 2 + 2 ≤ (pbc B).length := by rw [pbc_len]; omega
      have hb3 : j * 2 < (pbc B).length := by rw [pbc_len]; omega
      have hst := fun q => sumP_take q B j0
      have hle := fun q => sumP_le q B (j + 1)
      generalize B[j] = bj at *
      obtain ⟨bp, bv⟩ := bj
      simp only at hBj b0 hst
      have hst1 := hst bp
      rw [if_pos rfl] at hst1
      have hle1 := hle bp
      have hs1 := hsum bp
      have hob1 := hob bp
      have hbp : bp < 4 := by omega
      have ag := al4_get (fun q => oL fl q - sumP q (B.take j)) hbp
      (refine Go.run (g:=?_))
      refine Go.name ?_
      intro H7 e7
      have s7 : Same H6 H7 := by subst e7; exact ((Same.refl H6).push _).put (Nat.le_refl _) _
      have t7 : H7.get H6.n = some (.cells [.int .i64 (bp : Nat), .int .i64 (bv : Nat)] 53) := by subst e7; exact AHeap.get_put_same _ (by simp) _
      clear e7
      have I7 := I6.same s7
      have P7 := P6.same s7
      have g7 := s7.get g6
      have m7 := s7.1
      refine Go.loud (by kernel_rfl) rfl ?_
      (refine Go.runL (g:=?_))
      refine GoL.store (n := 1) (l := [.int .i64 (((oL fl bp - sumP bp (B.take j) - bv) : Nat) : Int)]) rfl rfl rfl rfl rfl (g7) rfl rfl (by rw [al4_len]; simp only [Int.toNat_natCast]; omega) rfl (al4_setI (fun q => oL fl q - sumP q (B.take j)) hbp (oL fl bp - sumP bp (B.take j) - bv)) (.inr habn) ?_
      have hdis : ∀ b ∈ ([] : List Nat), b ≠ h.n := fun b hb => by cases hb
      have hdis2 := hdis
      refine GoL.endN (g:=?_)
      clear hdis hdis2
      refine Go.name ?_
      intro H8 e8
      have k8 : Keeps [ab] H7 H8 := by subst e8; exact (Keeps.rf _ _).pt (.inl (by simp)) _
      have g8 : H8.get ab = some (.cells (i64s (al4 (setO4 (fun q => oL fl q - sumP q (B.take j)) bp (oL fl bp - sumP bp (B.take j) - bv)))) 50) := by subst e8; exact AHeap.get_put_same _ (AHeap.lt g7) _
      clear e8
      rw [al4_congr (o' := fun q => oL fl q - sumP q (B.take (j + 1))) (fun k hk => by
       have := hst k
       unfold setO4
       simp only
       rw [this]
       by_cases hq : k = bp
       · subst hq; simp; omega
       · rw [if_neg hq, if_neg (fun z => hq z.symm)]; rfl)] at g8
      have P8 := P7.keeps k8 (fun t ht hm => by
       rw [List.mem_singleton.1 hm] at ht
       have := sv_tyF P7.sv ab ht
       rw [tyF_cells g7] at this
       exact absurd this (by decide))
      (refine Go.run (g:=?_))
      exact Go.again (j + 1, H8) ⟨j0, I7.setA g7 k8, P8, g8, Nat.le_trans m6 (Nat.le_trans m7 k8.1)⟩ (by simp only; omega) ⟨rfl, rfl, rfl, rfl, rfl, rfl, rfl, rfl, rfl, rfl, trivial⟩ rfl rfl
     ·
      obtain rfl : j = B.length := by omega
      rw [List.take_length] at g6
      have flen' := I6.K.len
      have hok' := I6.K.ok
      have hlf : fl'.length ≤ 1000 := by have := I6.zl; omega
      have hfe : ∀ e ∈ fl', e.dl ≤ 255 := fun e he => (hok' e he).d1
      have hob' := fun q => oL_le hfe hlf q
      (refine Go.run (g:=?_))
      have g6' : H6.get ab = some (.cells (i64s (al4 (fun q => if q < 0 then oL fl' q else oL fl q - sumP q B))) 50) := g6
      refine Go.loop (α := Nat × AHeap) (fun x => [(27, .int .i64 i), (26, .int .i64 l.length), (25, .slice la l.length lc), (5, .pointer (some ⟨fb, 0, none⟩)), (6, .pointer (some ⟨ab, 0, none⟩)), (0, .int .u32 (T : Nat)), (9, .int .i64 (sumL totE fl : Nat)), (112, .int .i64 x.1)]) (fun _ => []) (fun x => x.2) (fun x => x.1 ≤ 4 ∧ FU h h1.n T fb ab (i + 1) n' zs cum' next fl' ra' rc' rec' unt' x.2 ∧ x.2.get ab = some (.cells (i64s (al4 (fun q => if q < x.1 then oL fl' q else oL fl q - sumP q B))) 50) ∧ H6.n ≤ x.2.n) (fun x => 4 - x.1) (0, H6) ⟨Nat.zero_le _, I6, g6', Nat.le_refl _⟩ ⟨rfl, rfl, rfl, rfl, rfl, rfl, rfl, rfl, trivial⟩ rfl rfl ?_
      clear I6 g6 g6' P6
      rintro ⟨k, H7⟩ ⟨hk, I7, g7, m7⟩
      simp only at hk I7 g7 m7 ⊢
      rcases Nat.lt_or_ge k 4 with q0 | q0
      ·
       have ag := al4_get (fun q => if q < k then oL fl' q else oL fl q - sumP q B) q0
       simp only [Nat.lt_irrefl, if_false] at ag
       have hs1 := hsum k
       have ho1 := hob' k
       have ho2 := hob k
       (refine Go.run (g:=?_))
       refine GoR.call rfl rfl rfl rfl rfl rfl rfl (((out_spec fb cum' next ra' rc' fl' rec' unt' h1.n k (by omega) hfe _ I7.F).argA).mono ?_)
       rintro _ H8 rfl s8
       have I8 := I7.same s8
       have g8 := s8.get g7
       have m8 := s8.1
       have ho : sumL (outE k) fl' = oL fl' k := rfl
       rw [ho]
       (refine Go.run (g:=?_))
       refine GoR.call rfl rfl rfl rfl rfl rfl rfl (((out_spec fb cum' next ra' rc' fl' rec' unt' h1.n k (by omega) hfe _ I8.F).argA).mono ?_)
       rintro _ H9 rfl s9
       have I9 := I8.same s9
       have g9 := s9.get g8
       have m9 := s9.1
       rw [ho]
       (refine Go.run (g:=?_))
       refine GoR.store (n := 1) (l := [.int .i64 (((oL fl' k) : Nat) : Int)]) rfl rfl rfl rfl rfl (g9) rfl rfl (by rw [al4_len]; simp only [Int.toNat_natCast]; omega) rfl (al4_setI (fun q => if q < k then oL fl' q else oL fl q - sumP q B) q0 (oL fl' k)) (.inr habn) ?_
       (refine Go.run (g:=?_))
       refine Go.name ?_
       intro HA eA
       have kA : Keeps [ab] H9 HA := by subst eA; exact (Keeps.rf _ _).pt (.inl (by simp)) _
       have gA : HA.get ab = some (.cells (i64s (al4 (setO4 (fun q => if q < k then oL fl' q else oL fl q - sumP q B) k (oL fl' k)))) 50) := by subst eA; exact AHeap.get_put_same _ (AHeap.lt g9) _
       clear eA
       rw [al4_congr (o' := fun q => if q < k + 1 then oL fl' q else oL fl q - sumP q B) (fun q hq => by
        simp only [setO4]
        by_cases hqk : q = k
        · subst hqk; simp
        ·
         rw [if_neg hqk]
         by_cases hl : q < k
         · simp [hl, Nat.lt_succ_of_lt hl]
         · rw [if_neg hl, if_neg (by omega)])] at gA
       exact Go.again (k + 1, HA) ⟨q0, I9.setA g9 kA, gA, Nat.le_trans m7 (Nat.le_trans m8 (Nat.le_trans m9 kA.1))⟩ (by simp only; omega) ⟨rfl, rfl, rfl, rfl, rfl, rfl, rfl, rfl, trivial⟩ rfl rfl
      ·
       (refine Go.run (g:=?_))
       refine GoR.call rfl rfl rfl rfl rfl rfl rfl (((total_spec fb cum' next ra' rc' fl' rec' unt' h1.n (by omega) hfe _ I7.F).argA).mono ?_)
       rintro _ H8 rfl s8
       have I8 := I7.same s8
       have g8 := s8.get g7
       rw [al4_congr (o' := oL fl') (fun q hq => if_pos (by omega))] at g8
       (refine Go.run (g:=?_))
       exact Go.joined (n', zs, cum', next, fl', ra', rc', rec', unt', H8) ⟨I8, g8⟩ ⟨rfl, rfl, rfl, rfl, rfl, rfl, trivial⟩ rfl rfl
    ·
     by_cases k2 : x.kind = 2
     ·
      (refine Go.run (g:=?_))
      refine GoR.call rfl rfl rfl rfl rfl rfl rfl (((marked_spec fb cum next ra rc fl rec unt h1.n (by omega) (fun e he => (hok e he).d1) _ I2.F).argA).mono ?_)
      rintro _ H3 hv s3
      have I3 := I2.same s3
      have x3 := s3.get x2
      have g3 := s3.get g2
      have m3 := s3.1
      have hw4 : ∀ j ∈ fl.map FE.b, j ∈ wrF fb ra fl := fun j hj => List.mem_cons_of_mem _ (List.mem_append_right _ hj)
      rcases hv with ⟨mi, mb, mc, q, hM, rfl⟩ | ⟨hno, rfl⟩
      ·
       have hmem := List.getElem_mem q
       have ep := I3.pt _ hmem
       have ed := (hok _ hmem).d1
       have hag := fun now k => out_again hM q now k
       have hdat := (hok _ hmem)
       generalize hge : fl[mi] = e at *
       unfold FE.pc
       (refine Go.run (g:=?_))
       refine GoR.name ?_
       intro H4 e4
       have s4 : Same H3 H4 := by subst e4; exact ((Same.refl H3).push _).put (Nat.le_refl _) _
       have p4 : H4.get H3.n = some (.cells [.int .u32 (e.tsn : Nat), .int .u8 (0 : Nat), .int .u16 (3 : Nat), .int .u16 (0 : Nat), .int .u32 (0 : Nat), .slice mb e.dl mc] 36) := by subst e4; exact AHeap.get_put_same _ (by simp) _
       clear e4
       have I4 := I3.same s4
       have g4 := s4.get g3
       have m4 := s4.1
       refine GoR.callW rfl rfl rfl rfl rfl rfl rfl (((again_spec fb cum next ra rc fl rec unt h1.n x.now (by omega) _ I4.F).argA).mono ?_)
       rintro v H5 hv k5
       refine ⟨fun j hj => .inr (I4.ownW j (hw4 j hj)), ?_⟩
       obtain ⟨g5, sm5, n5⟩ := I4.keepA g4 hw4 k5
       have p5 := k5.get p4 (fun hm => by
        have h3 := I3.F.lt H3.n (hw4 _ hm)
        omega)
       rcases hv with ⟨mj, q', hM', rfl, F5⟩ | ⟨hno, -, -⟩
       ·
        obtain rfl := firstM_one hM hM'
        rw [hge] at F5
        have K5 : PI T zs n cum next (fl.set mi (agE x.now e)) (2 * i) := I2.K.same (by
          rw [List.map_set]
          apply List.ext_getElem?
          intro t
          rw [List.getElem?_set]
          split
          · rename_i h; subst h; simp [q, ky, agE, hge]
          ·
           rfl) (fun e' he => by
           rcases List.mem_or_eq_of_mem_set he with he | rfl
           · exact I2.K.ok e' he
           · exact ⟨hdat.d0, hdat.d1, hdat.p, (xb' trivial).2.2.2.1, hdat.m⟩)
        have I5 : FU h h1.n T fb ab (i + 1) n zs cum next (fl.set mi (agE x.now e)) ra rc rec unt H5 := ⟨F5, K5.mono (by omega), by omega, I2.u, sm5, ⟨hn0.1, n5⟩, (fun e' he => by
         rcases List.mem_or_eq_of_mem_set he with he | rfl
         · exact I2.pt e' he
         · exact ep), habn⟩
        have m5 := k5.1
        have ep' : e.path < 4 := by omega
        have ag := al4_get (oL fl) ep'
        have hob := oL_le (fun e he => (hok e he).d1) (by omega) e.path
        (refine Go.run (g:=?_))
        refine GoR.boolNe rfl rfl rfl rfl rfl rfl boolU19 ?_
        rw [show (!(decide ((0 : Int) = 0) == true)) = false from rfl]
        refine Go.runN (g:=?_)
        refine Go.loud (by kernel_rfl) rfl ?_
        (refine Go.runL (g:=?_))
        refine GoL.store (n := 1) (l := [.int .i64 (((oL fl e.path + e.dl) : Nat) : Int)]) rfl rfl rfl rfl rfl (g5) rfl rfl (by rw [al4_len]; simp only [Int.toNat_natCast]; omega) rfl (al4_setI (oL fl) ep' (oL fl e.path + e.dl)) (.inr habn) ?_
        have hdis : ∀ b ∈ ([] : List Nat), b ≠ h.n := fun b hb => by cases hb
        have hdis2 := hdis
        refine GoL.endN (g:=?_)
        clear hdis hdis2
        refine Go.name ?_
        intro H7 e7
        have k7 : Keeps [ab] H5 H7 := by subst e7; exact (Keeps.rf _ _).pt (.inl (by simp)) _
        have g7 : H7.get ab = some (.cells (i64s (al4 (setO4 (oL fl) e.path (oL fl e.path + e.dl)))) 50) := by subst e7; exact AHeap.get_put_same _ (AHeap.lt g5) _
        clear e7
        rw [al4_congr (o' := oL (fl.set mi (agE x.now e))) (fun k hk => by
         have := hag x.now k
         unfold oL setO4
         rw [this]
         by_cases hq : k = e.path
         · subst hq; simp
         · rw [if_neg hq, if_neg (fun z => hq z.symm)]; rfl)] at g7
        (refine Go.run (g:=?_))
        exact Go.joined (n, zs, cum, next, fl.set mi (agE x.now e), ra, rc, rec, unt, H7) ⟨I5.setA g5 k7, g7⟩ ⟨rfl, rfl, rfl, rfl, rfl, rfl, trivial⟩ rfl rfl
       · exact absurd hM.2.1 (hno _ (List.getElem_mem _))
      ·
       unfold z0P
       (refine Go.run (g:=?_))
       refine GoR.name ?_
       intro H4 e4
       have s4 : Same H3 H4 := by subst e4; exact ((Same.refl H3).push _).put (Nat.le_refl _) _
       clear e4
       have I4 := I3.same s4
       have g4 := s4.get g3
       refine GoR.callW rfl rfl rfl rfl rfl rfl rfl (((again_spec fb cum next ra rc fl rec unt h1.n x.now (by omega) _ I4.F).argA).mono ?_)
       rintro v H5 hv k5
       refine ⟨fun j hj => .inr (I4.ownW j (hw4 j hj)), ?_⟩
       obtain ⟨g5, sm5, n5⟩ := I4.keepA g4 hw4 k5
       rcases hv with ⟨mj, q', hM', rfl, F5⟩ | ⟨-, rfl, F5⟩
       · exact absurd hM'.2.1 (hno _ (List.getElem_mem _))
       ·
        have I5 : FU h h1.n T fb ab (i + 1) n zs cum next fl ra rc rec unt H5 := ⟨F5, I2.K.mono (by omega), by omega, I2.u, sm5, ⟨hn0.1, n5⟩, I2.pt, habn⟩
        (refine Go.run (g:=?_))
        refine GoR.boolNe rfl rfl rfl rfl rfl rfl boolU19 ?_
        rw [show (!(decide ((4 : Int) = 0) == false)) = false from rfl]
        (refine Go.run (g:=?_))
        exact Go.joined (n, zs, cum, next, fl, ra, rc, rec, unt, H5) ⟨I5, g5⟩ ⟨rfl, rfl, rfl, rfl, rfl, rfl, trivial⟩ rfl rfl
     ·
      by_cases k3 : x.kind = 3
      ·
       (refine Go.run (g:=?_))
       refine GoR.callW rfl rfl rfl rfl rfl rfl rfl (((exp_spec fb cum next ra rc fl rec unt h1.n (xp : Int) xn (by omega) _ I2.F).argA).mono ?_)
       rintro _ H3 F3 k3'
       have hw3 : ∀ j ∈ fl.map FE.b, j ∈ wrF fb ra fl := fun j hj => List.mem_cons_of_mem _ (List.mem_append_right _ hj)
       refine ⟨fun j hj => .inr (I2.ownW j (hw3 j hj)), ?_⟩
       obtain ⟨g3, sm3, n3⟩ := I2.keepA g2 hw3 k3'
       have x3 := k3'.get x2 (fun hm => by
        have h3 := I0lt H.n (hw3 _ hm)
        omega)
       have K3 : PI T zs n cum next (fl.map (expE (xp : Int) xn)) (2 * i) := I2.K.same (by
        rw [List.map_map]; apply List.map_congr_left; intro e he
        simp only [Function.comp]; unfold expE; split <;> rfl) fun e he => by
         obtain ⟨y, hy, rfl⟩ := List.mem_map.1 he
         have := I2.K.ok y hy
         unfold expE
         split
         · exact ⟨this.d0, this.d1, by simp only; omega, this.a, Nat.zero_le _⟩
         · exact this
       have I3 : FU h h1.n T fb ab (i + 1) n zs cum next (fl.map (expE (xp : Int) xn)) ra rc rec unt H3 := ⟨F3, K3.mono (by omega), by omega, I2.u, sm3, ⟨hn0.1, n3⟩, (fun e he => by
        obtain ⟨y, hy, rfl⟩ := List.mem_map.1 he
        have := I2.pt y hy
        unfold expE
        split
        · simp only; omega
        · exact this), habn⟩
       have m3 := k3'.1
       (refine Go.run (g:=?_))
       refine GoR.store (n := 1) (l := [.int .i64 ((0 : Nat) : Int)]) rfl rfl rfl rfl rfl (g3) rfl rfl (by rw [al4_len]; simp only [Int.toNat_natCast]; omega) rfl (al4_setI (oL fl) hxp 0) (.inr habn) ?_
       (refine Go.run (g:=?_))
       refine Go.name ?_
       intro H7 e7
       have k7 : Keeps [ab] H3 H7 := by subst e7; exact (Keeps.rf _ _).pt (.inl (by simp)) _
       have g7 : H7.get ab = some (.cells (i64s (al4 (setO4 (oL fl) xp 0))) 50) := by
        subst e7
        exact AHeap.get_put_same _ (AHeap.lt g3) _
       clear e7
       rw [al4_congr (o' := oL (fl.map (expE (xp : Int) xn))) (fun k hk => by
        have := out_exp (xp : Int) xn k fl
        unfold oL setO4
        rw [this]
        by_cases hq : k = xp
        · subst hq; simp
        · rw [if_neg hq, if_neg (by omega)])] at g7
       exact Go.joined (n, zs, cum, next, fl.map (expE (xp : Int) xn), ra, rc, rec, unt, H7) ⟨I3.setA g3 k7, g7⟩ ⟨rfl, rfl, rfl, rfl, rfl, rfl, trivial⟩ rfl rfl
      ·
       (refine Go.run (g:=?_))
       exact Go.joined (n, zs, cum, next, fl, ra, rc, rec, unt, H2) ⟨I2.step, g2⟩ ⟨rfl, rfl, rfl, rfl, rfl, rfl, trivial⟩ rfl rfl
  ·
   clear I2 x2 g2 xg2 s2 m2 hok flen zlen hKl hn0
   rintro ⟨n, zs, cum, next, fl, ra, rc, rec, unt, H3⟩ ⟨I3, g3⟩
   simp only at I3 g3 ⊢
   have hok := I3.K.ok
   have flen := I3.K.len
   have zlen := I3.zl
   have hfe : ∀ e ∈ fl, e.dl ≤ 255 := fun e he => (hok e he).d1
   have hlf : fl.length ≤ 1000000 := by omega
   clear hok flen zlen
   (refine Go.run (g:=?_))
   refine Go.loop (α := Nat × AHeap) (fun x => [(27, .int .i64 i), (26, .int .i64 l.length), (25, .slice la l.length lc), (5, .pointer (some ⟨fb, 0, none⟩)), (6, .pointer (some ⟨ab, 0, none⟩)), (0, .int .u32 (T : Nat)), (178, .int .i64 x.1)]) (fun _ => []) (fun x => x.2) (fun x => x.1 ≤ 4 ∧ Same H3 x.2) (fun x => 4 - x.1) (0, H3) ⟨Nat.zero_le _, Same.refl _⟩ ⟨rfl, rfl, rfl, rfl, rfl, rfl, rfl, trivial⟩ rfl rfl ?_
   rintro ⟨k, H4⟩ ⟨hk, s4⟩
   simp only at hk s4 ⊢
   have I4 := I3.same s4
   have g4 := s4.get g3
   rcases Nat.lt_or_ge k 4 with k0 | k0
   ·
    have ag := al4_get (oL fl) k0
    (refine Go.run (g:=?_))
    refine GoR.call rfl rfl rfl rfl rfl rfl rfl (((out_spec fb cum next ra rc fl rec unt h1.n k hlf hfe _ I4.F).argA).mono ?_)
    rintro _ H5 rfl s5
    have g5 := s5.get g4
    have ho : oL fl k = sumL (outE k) fl := rfl
    rw [← ho]
    (refine Go.run (g:=?_))
    exact Go.again (k + 1, H5) ⟨k0, s4.trans s5⟩ (by simp only; omega) ⟨rfl, rfl, rfl, rfl, rfl, rfl, rfl, trivial⟩ rfl rfl
   ·
    (refine Go.run (g:=?_))
    refine GoR.call rfl rfl rfl rfl rfl rfl rfl (((total_spec fb cum next ra rc fl rec unt h1.n hlf hfe _ I4.F).argA).mono ?_)
    rintro _ H5 rfl s5
    have I5 := I4.same s5
    have g5 := s5.get g4
    have tt := tot_out I5.pt
    have o0 : (i64s (al4 (oL fl)))[0]? = some (.int .i64 (oL fl 0 : Nat)) := rfl
    have o1 : (i64s (al4 (oL fl)))[1]? = some (.int .i64 (oL fl 1 : Nat)) := rfl
    have o2 : (i64s (al4 (oL fl)))[2]? = some (.int .i64 (oL fl 2 : Nat)) := rfl
    have o3 : (i64s (al4 (oL fl)))[3]? = some (.int .i64 (oL fl 3 : Nat)) := rfl
    have tb : sumL totE fl ≤ 255 * 1000000 := by
     have h1 := sumL_le (f := totE) (l := fl) (B := 255) (fun e he => by
      have := hfe e he
      unfold totE; split <;> omega)
     omega
    rw [tt] at tb ⊢
    have e0 : sumL (outE 0) fl = oL fl 0 := rfl
    have e1 : sumL (outE 1) fl = oL fl 1 := rfl
    have e2 : sumL (outE 2) fl = oL fl 2 := rfl
    have e3 : sumL (outE 3) fl = oL fl 3 := rfl
    rw [e0, e1, e2, e3] at tb ⊢
    clear e0 e1 e2 e3 tt
    (refine Go.run (g:=?_))
    exact Go.again (i + 1, n, zs, cum, next, fl, ra, rc, rec, unt, H5) ⟨i0, I5, g5⟩ (by simp only; omega) ⟨rfl, rfl, rfl, rfl, rfl, rfl, trivial⟩ rfl rfl
 ·
  (refine Go.run (g:=?_))
  refine GoR.call rfl rfl rfl rfl rfl rfl rfl (((works18 _).argA).mono ?_)
  rintro _ h3 ⟨rfl, rfl⟩ -
  (refine Go.run (g:=?_))
  (first|refine Go.finA rfl ?_|refine Go.finB rfl (hq:=?_))
  rfl
end Go.Proofs.Ytfdglljlenkkbaa
namespace Go.Proofs.Ytfdglljlenkkbaa
set_option maxRecDepth 100000
open Go.ChangeShapes Go.WideShapes Go.ChangeAt Go.RowKit
theorem v18i : Try.prog.underlying 3 = some (.int .i64) := by kernel_rfl
theorem v18u8 : Try.prog.underlying 5 = some (.int .u8) := by kernel_rfl
theorem v18u16 : Try.prog.underlying 33 = some (.int .u16) := by kernel_rfl
theorem v18i32 : Try.prog.underlying 21 = some (.int .i32) := by kernel_rfl
theorem v18u64 : Try.prog.underlying 30 = some (.int .u64) := by kernel_rfl
theorem v18gs : Try.prog.underlying 29 = some (.slice 59) := by kernel_rfl
theorem v18dos : Try.prog.underlying 23 = some (.slice 32) := by kernel_rfl
theorem v18plain : plainB Try.prog 6 23 = true := by kernel_rfl
theorem cells10P {α : Type} {f : α → List Value} {p : α → Prop} {sz : Nat} : ∀ (len : Nat) (c : List Value), c.length = len * sz → (∀ i, i < len → ∃ x, (c.drop (i * sz)).take sz = f x ∧ p x) → ∃ l : List α, l.length = len ∧ c = (l.map f).flatten ∧ ∀ x ∈ l, p x
 | 0, c, hl, _ => ⟨[], rfl, by simpa using hl, fun x hx => by cases hx⟩
 | n + 1, c, hl, each => by
  obtain ⟨x, e, hp⟩ := each 0 (by omega)
  rw [Nat.zero_mul, List.drop_zero] at e
  obtain ⟨l, h1, h2, h3⟩ := cells10P (f := f) (p := p) (sz := sz) n (c.drop sz) (by rw [List.length_drop, hl, Nat.succ_mul]; omega) (fun i hi => by
   have := each (i + 1) (by omega)
   rwa [show (i + 1) * sz = sz + i * sz from by rw [Nat.succ_mul]; omega, ← List.drop_drop] at this)
  refine ⟨x :: l, by simp [h1], ?_, fun y hy => ?_⟩
  · rw [← List.take_append_drop sz c, e, h2]; simp
  ·
   rcases List.mem_cons.1 hy with rfl | hy
   · exact hp
   · exact h3 y hy
theorem len10 {n b : Nat} (hb : 0 < b) (h : n * b ≤ reachBytes) : n ≤ 140737488355328 := by
 have := reachBytes_lt
 have : n ≤ n * b := Nat.le_mul_of_pos_right n hb
 omega
theorem u32_of10 {n : Int} (w : (Lit.int .u32 n).wf = true) : ∃ k : Nat, k < 4294967296 ∧ n = (k : Nat) := by
 simp [Lit.wf, IntKind.wrap, IntKind.bits, IntKind.signed, IntKind.min, IntKind.max] at w
 exact ⟨n.toNat, by omega, by omega⟩
theorem i64_of18 {n : Int} (w : (Lit.int .i64 n).wf = true) : -9223372036854775808 ≤ n ∧ n < 9223372036854775808 := by
 simp [Lit.wf, IntKind.wrap, IntKind.bits, IntKind.signed, IntKind.min, IntKind.max] at w
 omega
theorem i32_of18 {n : Int} (w : (Lit.int .i32 n).wf = true) : -2147483648 ≤ n ∧ n < 2147483648 := by
 simp [Lit.wf, IntKind.wrap, IntKind.bits, IntKind.signed, IntKind.min, IntKind.max] at w
 omega
theorem gap18_of {h : AHeap} {H : Type} {cs : List Value} {d : DataW H} (r : ARd Try.prog h 59 cs d) (z : Sized Try.prog 59 d) : ∃ g : Nat × Nat, cs = [Value.int .u16 g.1, .int .u16 g.2] ∧ g.1 < 65536 ∧ g.2 < 65536 := by
 obtain ⟨hl, hf⟩ := r.fieldZ z Try.underlying59
 rw [show Try.prog.cellsOf 59 = 2 from by kernel_rfl] at hl
 match cs, hl with
 | [c0, c1], _ =>
  obtain ⟨d0, r0, -⟩ := hf 0 33 0 1 rfl (by kernel_rfl)
  obtain ⟨d1, r1, -⟩ := hf 1 33 1 1 rfl (by kernel_rfl)
  obtain ⟨n0, e0, b0⟩ := r0.u_inv rfl v18u16
  obtain ⟨n1, e1, b1⟩ := r1.u_inv rfl v18u16
  simp at e0 e1
  subst e0 e1
  exact ⟨(n0, n1), rfl, b0, b1⟩
theorem do18_of {h : AHeap} {H : Type} {cs : List Value} {d : DataW H} (r : ARd Try.prog h 32 cs d) (z : Sized Try.prog 32 d) : ∃ x : DV, cs = x.cs ∧ (Rv Try.prog h 2 x.ga x.gs.length x.gc (gcs x.gs) ∧ (x.kind < 256 ∧ x.size < 256 ∧ x.off < 256 ∧ x.now < 18446744073709551616 ∧ -9223372036854775808 ≤ x.path ∧ x.path < 9223372036854775808 ∧ -9223372036854775808 ≤ x.next ∧ x.next < 9223372036854775808 ∧ -2147483648 ≤ x.cc ∧ x.cc < 2147483648 ∧ ∀ g ∈ x.gs, g.1 < 65536 ∧ g.2 < 65536)) := by
 obtain ⟨hl, hf⟩ := r.fieldZ z Try.underlying32
 rw [show Try.prog.cellsOf 32 = 8 from by kernel_rfl] at hl
 match cs, hl with
 | [c0, c1, c2, c3, c4, c5, c6, c7], _ =>
  obtain ⟨d0, r0, -⟩ := hf 0 5 0 1 rfl (by kernel_rfl)
  obtain ⟨d1, r1, -⟩ := hf 1 5 1 1 rfl (by kernel_rfl)
  obtain ⟨d2, r2, -⟩ := hf 2 5 2 1 rfl (by kernel_rfl)
  obtain ⟨d3, r3, -⟩ := hf 3 3 3 1 rfl (by kernel_rfl)
  obtain ⟨d4, r4, -⟩ := hf 4 3 4 1 rfl (by kernel_rfl)
  obtain ⟨d5, r5, -⟩ := hf 5 21 5 1 rfl (by kernel_rfl)
  obtain ⟨d6, r6, z6⟩ := hf 6 29 6 1 rfl (by kernel_rfl)
  obtain ⟨d7, r7, -⟩ := hf 7 30 7 1 rfl (by kernel_rfl)
  obtain ⟨n0, e0, b0⟩ := r0.u_inv rfl v18u8
  obtain ⟨n1, e1, b1⟩ := r1.u_inv rfl v18u8
  obtain ⟨n2, e2, b2⟩ := r2.u_inv rfl v18u8
  obtain ⟨n3, e3, b3⟩ := r3.int_inv v18i
  obtain ⟨n4, e4, b4⟩ := r4.int_inv v18i
  obtain ⟨n5, e5, b5⟩ := r5.int_inv v18i32
  obtain ⟨a, len, cap, c, e6, hz, -, hb, hel⟩ := r6.slice_invZ z6 v18gs
  obtain ⟨n7, e7, b7⟩ := r7.u_inv rfl v18u64
  rw [show Try.prog.cellsOf 59 = 2 from by kernel_rfl] at hz hel
  obtain ⟨gs, rfl, rfl, hg⟩ := cells10P (f := fun g : Nat × Nat => [Value.int .u16 g.1, .int .u16 g.2]) (p := fun g => g.1 < 65536 ∧ g.2 < 65536) len c hz.length fun i hi => let ⟨d', r, z'⟩ := hel i hi; gap18_of r z'
  simp at e0 e1 e2 e3 e4 e5 e6 e7
  subst e0 e1 e2 e3 e4 e5 e6 e7
  exact ⟨⟨n0, n1, n2, n3, n4, n5, a, cap, gs, n7⟩, rfl, hz, b0, b1, b2, b7, (i64_of18 b3).1, (i64_of18 b3).2, (i64_of18 b4).1, (i64_of18 b4).2, (i32_of18 b5).1, (i32_of18 b5).2, hg⟩
section
variable {H : Type} {enc : TypeId × Value → H} {W : World} {m : Mp} {h : AHeap} {base : Nat} {v : Value} {d : DataW H} {ps : List MemPlace}
theorem imp_dos18 (o : Value.okWide Try.prog W .any base 23 v) (ht : DataW.Trod enc Try.prog W 0 (fun _ => true) true 23 v d ps) (z : Sized Try.prog 23 d) (I : Im Try.prog W m h) :
  ∃ m' h', Im Try.prog W m' h' ∧ ∃ (a : Option Addr) (cap : Nat) (l : List DV), VRel m' (.slice a l.length cap) v ∧ DOk h' a cap l ∧ l.length ≤ 140737488355328 := by
 obtain ⟨a0, l0, c0, rfl⟩ := okWide_slice v18dos o
 obtain ⟨m', h', cs, I', hm, hs, hA, hR, hl⟩ := imp_val v18plain ht I
 obtain ⟨x, rfl, hv⟩ := vrel_one hA (by rw [hl]; kernel_rfl) rfl
 obtain ⟨a, len, cap, c, e, hz, -, hb, hel⟩ := hR.slice_invZ z v18dos
 cases e
 rw [show Try.prog.cellsOf 32 = 8 from by kernel_rfl] at hz hel
 obtain ⟨l, rfl, rfl, hp⟩ := cells10P (f := DV.cs) (p := fun x => Rv Try.prog h' 2 x.ga x.gs.length x.gc (gcs x.gs) ∧ (x.kind < 256 ∧ x.size < 256 ∧ x.off < 256 ∧ x.now < 18446744073709551616 ∧ -9223372036854775808 ≤ x.path ∧ x.path < 9223372036854775808 ∧ -9223372036854775808 ≤ x.next ∧ x.next < 9223372036854775808 ∧ -2147483648 ≤ x.cc ∧ x.cc < 2147483648 ∧ ∀ g ∈ x.gs, g.1 < 65536 ∧ g.2 < 65536)) len c hz.length fun i hi => let ⟨d', r, z'⟩ := hel i hi; do18_of r z'
 exact ⟨m', h', I', a, cap, l, hv, ⟨hz, fun x hx => (hp x hx).1, fun x hx => (hp x hx).2⟩, len10 (show 0 < Try.prog.bytesOf 32 from of_decide_eq_true (by kernel_rfl)) hb⟩
end
end Go.Proofs.Ytfdglljlenkkbaa
namespace Go.Proofs.Ytfdglljlenkkbaa
open Go.ChangeShapes Go.WideShapes Go.ChangeAt Go.RowKit
set_option maxRecDepth 100000
theorem flightOutWalk {H : Type} {enc : TypeId × Value → H} {base : Nat} {d1 : DataW H} {p1 : List MemPlace} (a0 : Int) (v1 : Value) (W : World) (w0 : (Lit.int .u32 a0).wf = true) (o1 : Value.okWide Try.prog W .any base 23 v1) (h1 : DataW.Trod enc Try.prog W 0 (fun _ => true) true 23 v1 d1 p1) (z1 : Sized Try.prog 23 d1) : Calls Try.prog 4 #[.int .u32 a0, v1] W fun e w' => e = .returned (.bool true) ∧ Below W.heap.size W w' := by
 obtain ⟨m, h, I, a, cap, l, hv, D, hlen⟩ := imp_dos18 o1 h1 z1 (Im.empty Try.prog W)
 obtain ⟨T, hT, rfl⟩ := u32_of10 w0
 refine calls_imp noGlobals I rfl (flightOut_spec T hT a cap l hlen h D) ?_
 exact (ARel.single (.int _ _)).push hv
end Go.Proofs.Ytfdglljlenkkbaa