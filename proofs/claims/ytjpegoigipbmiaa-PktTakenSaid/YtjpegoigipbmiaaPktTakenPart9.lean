/- What the law leans on, part 9. No conditions. -/
import Derived.WideShapes
import Derived.ProofKit
import Derived.OpenShut
import Derived.ChangeOld
import Derived.Test.YtjpegoigipbmiaaPktTakenPart8
set_option linter.unusedVariables false
set_option linter.unusedSimpArgs false
namespace Go.Proofs.Ytjpegoigipbmiaa
set_option maxRecDepth 100000
attribute [local irreducible] Go GoR GoL
def SB (c : Ck) : Prop := c.A.n ≤ 1000000000 ∧ c.G.n ≤ 1000000000 ∧ c.U.n ≤ 1000000000 ∧ c.C.n ≤ 1000000000
theorem pcs_len (l : List CP) : (pcs l).length = l.length := by simp [pcs]
theorem pcs_get {l l' : List CP} (e : pcs l = pcs l') {i : Nat} (h : i < l.length) (h' : i < l'.length) : pcOf l[i].1 l[i].2 = pcOf l'[i].1 l'[i].2 := by
  have e1 : (pcs l)[i]? = some (pcOf l[i].1 l[i].2) := by simp [pcs, h]
  have e2 : (pcs l')[i]? = some (pcOf l'[i].1 l'[i].2) := by simp [pcs, h']
  rw [e, e2] at e1
  exact (Option.some.inj e1).symm
set_option maxHeartbeats 8000000 in
theorem same6_spec (f t g : Nat) (a a' : Option Addr) (n cap n' cap' : Nat) (l l' : List CP) (h : AHeap) (k : KS h a n cap l) (k' : KS h a' n' cap' l') (e : pcs l = pcs l') (hn : n ≤ 1000000000) (hb : ∀ x ∈ l, SB x.1) : CallS Try.prog [] 16 [pkV f t g a n cap, pkV f t g a' n' cap'] h fun v h' => v = .bool true := by
  have en : n' = n := by rw [← k.len, ← k'.len, ← pcs_len, ← pcs_len, e]
  subst en
  (refine CallS.of2 Try.func16 rfl Try.ntmps16 Try.results16 rfl ?_)
  (iterate 5 (first|refine GoR.end ?_|(refine GoR.gd rfl ?_;first|refine GoR.wanted' rfl rfl rfl rfl (g:=?_)|refine GoR.unwanted' rfl rfl rfl rfl (hd:=rfl) (hN:=rfl) (g:=?_)|refine GoR.unwantedU rfl rfl rfl rfl rfl rfl ?_)|(refine GoR.kk 0 rfl ?_;first|refine GoR.move rfl rfl rfl rfl rfl ?_|refine GoR.assign rfl rfl rfl rfl rfl ?_)|(refine GoR.kk 1 rfl ?_;first|refine GoR.load' rfl rfl rfl rfl rfl (g:=?_)|refine GoR.loadA' rfl rfl rfl rfl rfl (hv:=rfl) (g:=?_)|refine GoR.loadV' rfl rfl rfl rfl rfl (g:=?_)|refine GoR.loadVN' rfl rfl rfl rfl rfl (g:=?_))|(refine GoR.kk 2 rfl ?_;first|refine GoR.store' rfl rfl rfl rfl rfl (hl:=rfl) (h1:=rfl) (h3:=rfl) (g:=?_))|(refine GoR.kk 3 rfl ?_;first|refine GoR.fieldAddr rfl rfl rfl rfl rfl ?_|refine GoR.indexN' rfl rfl rfl rfl rfl rfl (g:=?_)|refine GoR.indexNs' rfl rfl rfl rfl rfl rfl (g:=?_)|refine GoR.indexV' rfl rfl rfl rfl rfl rfl (g:=?_)|refine GoR.indexA' rfl rfl rfl rfl rfl rfl (g:=?_)|refine GoR.fieldV' rfl rfl rfl rfl rfl (g:=?_))|(refine GoR.kk 4 rfl ?_;first|refine GoR.eq rfl rfl rfl rfl rfl rfl ?_|refine GoR.ne rfl rfl rfl rfl rfl rfl ?_|refine GoR.lt rfl rfl rfl rfl rfl rfl ?_|refine GoR.le rfl rfl rfl rfl rfl rfl ?_|refine GoR.gt rfl rfl rfl rfl rfl rfl ?_|refine GoR.ge rfl rfl rfl rfl rfl rfl ?_|refine GoR.addN' rfl rfl rfl rfl rfl rfl (g:=?_)|refine GoR.subN' rfl rfl rfl rfl rfl rfl (g:=?_)|refine GoR.add' rfl rfl rfl rfl rfl rfl (g:=?_)|refine GoR.sub' rfl rfl rfl rfl rfl rfl (g:=?_)|refine GoR.addM' rfl rfl rfl rfl rfl rfl (g:=?_)|refine GoR.subM' rfl rfl rfl rfl rfl rfl (g:=?_)|refine GoR.mulM' rfl rfl rfl rfl rfl rfl (g:=?_)|refine GoR.shrN rfl rfl rfl rfl rfl rfl rfl ?_|refine GoR.structEq rfl rfl rfl rfl rfl rfl (by rfl) (by rfl) ?_|refine GoR.structNe rfl rfl rfl rfl rfl rfl (by rfl) (by rfl) ?_|refine GoR.strEq rfl rfl rfl rfl rfl rfl ?_|refine GoR.strNe rfl rfl rfl rfl rfl rfl ?_|refine GoR.remN' rfl rfl rfl rfl rfl rfl (g:=?_)|refine GoR.quoN' rfl rfl rfl rfl rfl rfl (g:=?_)|refine GoR.shlN' rfl rfl rfl rfl rfl rfl rfl (g:=?_)|refine GoR.orN' rfl rfl rfl rfl rfl rfl (g:=?_))|(refine GoR.kk 5 rfl ?_;first|refine GoR.len rfl rfl rfl rfl rfl ?_|refine GoR.lenStr rfl rfl rfl rfl rfl ?_|refine GoR.capB rfl rfl rfl rfl rfl ?_)|(refine GoR.kk 7 rfl ?_;first|refine GoR.pickE' rfl rfl rfl rfl rfl (hx:=rfl) (hy:=rfl) (g:=?_)|refine GoR.pickN' rfl rfl rfl rfl rfl (hx:=rfl) (hy:=rfl) (g:=?_)|refine GoR.pickB rfl rfl rfl rfl rfl rfl rfl ?_)|(refine GoR.kk 8 rfl ?_;first|refine GoR.boxA rfl rfl rfl rfl rfl ?_|refine GoR.boxS rfl rfl rfl rfl rfl rfl ?_|refine GoR.alloc rfl rfl rfl rfl ?_)|(refine GoR.kk 9 rfl ?_;first|refine GoR.strV' rfl rfl rfl rfl rfl (g:=?_)|refine GoR.conv_u8 rfl rfl rfl rfl rfl ?_|refine GoR.convW' rfl rfl rfl rfl rfl (g:=?_)|refine GoR.conv_u16 rfl rfl rfl rfl rfl ?_|refine GoR.conv_u32 rfl rfl rfl rfl rfl ?_)|(refine GoR.kk 10 rfl ?_;first|refine GoR.build' rfl rfl rfl rfl rfl rfl (g:=?_))|(refine GoR.kk 11 rfl ?_;first|refine GoR.extract rfl rfl rfl rfl rfl rfl ?_|refine GoR.not rfl rfl rfl rfl rfl ?_|refine GoR.nilCheck rfl rfl rfl rfl rfl ?_|refine GoR.nilCheckF rfl rfl rfl rfl rfl ?_|refine GoR.makeFunc rfl rfl rfl rfl rfl rfl ?_)|(refine Go.kk 0 rfl ?_;refine Go.seq ?_)|(refine Go.kk 1 rfl ?_;refine Go.region (by kernel_rfl) rfl ?_)|(refine Go.kk 2 rfl ?_;refine Go.drawnQ rfl (by kernel_rfl) rfl ?_)|(refine Go.kk 3 rfl ?_;first|refine Go.cond_t' rfl (g:=?_)|refine Go.cond_f' rfl (g:=?_))|(refine Go.kk 4 rfl ?_;refine Go.block ?_)|(refine Go.kk 5 rfl ?_;first|refine Go.skip ?_|refine Go.ret ?_|refine Go.exit ?_|refine Go.scope ?_)|refine Go.leave_normal ?_|refine Go.leave_same ?_|refine Go.leave_ret ?_|refine Go.ret_code ?_|refine Go.exit_code ?_|refine Go.leave_other rfl ?_|refine Go.sc_normal ?_|refine Go.sc_ret ?_|refine Go.sc_exit ?_|refine Go.exit_back ?_|refine Go.ret_back ?_))
  refine GoR.name ?_
  intro h3 e3
  have G0 : h3.get h.n = some (.cells [.int .u16 f, .int .u16 t, .int .u32 g, .slice a n' cap] 28) := by subst e3; exact get_push_lt (AHeap.get_push_same _ _)
  have G1 : h3.get (h.n + 1) = some (.cells [.int .u16 f, .int .u16 t, .int .u32 g, .slice a' n' cap'] 28) := by subst e3; exact AHeap.get_push_same (h.push _) _
  have n3 : h3.n = h.n + 2 := by subst e3; rfl
  have S3 : Same h h3 := by subst e3; exact ((Same.refl h).push _).push _
  clear e3
  (refine Go.run (g:=?_))
  refine Go.loop (α := Nat × AHeap) (fun x => [(5, .int .i64 x.1), (3, .pointer (some ⟨h.n + 1, 0, none⟩)), (2, .pointer (some ⟨h.n, 0, none⟩))]) (fun _ => []) (fun x => x.2) (fun x => Same h3 x.2 ∧ x.1 ≤ n') (fun x => n' - x.1) (0, h3) ⟨Same.refl _, Nat.zero_le _⟩ ⟨rfl, rfl, rfl, trivial⟩ rfl rfl ?_
  rintro ⟨i, h4⟩ ⟨s4, hi⟩
  simp only at s4 hi ⊢
  have k4 := (k.same S3).same s4
  have k4' := (k'.same S3).same s4
  have g04 := s4.get G0
  have g14 := s4.get G1
  rcases Nat.lt_or_ge i n' with i0 | i0
  · have i1 : i < l.length := by rw [k.len]; exact i0
    have i1' : i < l'.length := by rw [k'.len]; exact i0
    have c0 := kcs_get i1
    have c0' := kcs_get i1'
    have hbe : i * 15 + 15 ≤ (kcs l).length := by rw [kcs_len]; omega
    have hbe' : i * 15 + 15 ≤ (kcs l').length := by rw [kcs_len]; omega
    have hA4 := k4.rv
    have hA4' := k4'.rv
    have hp := pcs_get e i1 i1'
    have hm : l[i] ∈ l := List.getElem_mem i1
    have hm' : l'[i] ∈ l' := List.getElem_mem i1'
    generalize l[i] = x at *
    generalize l'[i] = x' at *
    obtain ⟨c, d⟩ := x
    obtain ⟨c', d'⟩ := x'
    obtain ⟨b1, b2, b3, b4⟩ := hb _ hm
    simp only at c0 c0' hp b1 b2 b3 b4
    unfold Ck.cs at c0 c0'
    (refine Go.run (g:=?_))
    refine GoR.call rfl rfl rfl rfl rfl rfl rfl (((same5_spec c c' d d' _ (k4.ok _ hm) (k4'.ok _ hm') hp b1 b2 b3 b4).args (by first | rfl | (simp; fail_if_success focus skip) | (simp; omega) | (congr 2; omega))).mono ?_)
    rintro _ h5 rfl s5
    (refine Go.run (g:=?_))
    exact Go.again (i + 1, h5) ⟨s4.trans s5, by simp only; omega⟩ (by simp only; omega) ⟨rfl, rfl, rfl, trivial⟩ rfl rfl
  · (refine Go.run (g:=?_))
    (first|refine Go.finT (by first|exact .inr rfl|exact .inl rfl) rfl ?_|refine Go.fin1 (by first|exact .inr rfl|exact .inl rfl) rfl (hq:=?_))
    rfl
end Go.Proofs.Ytjpegoigipbmiaa
namespace Go.Proofs.Ytjpegoigipbmiaa
set_option maxRecDepth 100000
def Puts (chunk : Bool) (x : Thing) : Prop := x.1 < 65536 ∧ x.2.1 < 256 ∧ (chunk = true → x.1 ≤ 255) ∧ (chunk = false → x.2.1 = 0) ∧ x.2.2.length ≤ 65531
def tb (chunk : Bool) (x : Thing) : List UInt8 := tlvB chunk x.1 x.2.1 x.2.2
theorem tb_len (chunk : Bool) (x : Thing) : (tb chunk x).length = up4 (x.2.2.length + 4) := tlvB_length _ _ _ _
def hd4 (chunk : Bool) (x : Thing) : List UInt8 := (if chunk then [UInt8.ofNat x.1, UInt8.ofNat x.2.1] else [UInt8.ofNat (x.1 / 256), UInt8.ofNat x.1]) ++ [UInt8.ofNat ((4 + x.2.2.length) / 256), UInt8.ofNat (4 + x.2.2.length)]
theorem hd4_len (chunk : Bool) (x : Thing) : (hd4 chunk x).length = 4 := by cases chunk <;> rfl
theorem tb_eq (chunk : Bool) (x : Thing) : tb chunk x = hd4 chunk x ++ (x.2.2 ++ List.replicate (up4 (x.2.2.length + 4) - 4 - x.2.2.length) 0) := by
  simp only [tb, tlvB, hd4, up4, List.append_assoc]
theorem tb_N {chunk : Bool} {x : Thing} (h : Puts chunk x) (r : List UInt8) : tN (tb chunk x ++ r) = x.2.2.length + 4 := by
  have e : ((tb chunk x ++ r).drop 2).take 2 = [UInt8.ofNat ((4 + x.2.2.length) / 256), UInt8.ofNat (4 + x.2.2.length)] := by
    rw [tb_eq]; cases chunk <;> simp [hd4]
  have hl := h.2.2.2.2
  rw [tN, e, beNum_two]
  simp only [UInt8.toNat_ofNat']
  omega
theorem tb_whole {chunk : Bool} {x : Thing} (h : Puts chunk x) (r : List UInt8) : Whole (tb chunk x ++ r) := by
  have hu := up4_le (x.2.2.length + 4)
  refine ⟨by rw [List.length_append, tb_len]; omega, by rw [tb_N h]; omega, by rw [tb_N h, List.length_append, tb_len]; omega, ?_⟩
  rw [tb_N h]
  have e : ((tb chunk x ++ r).drop (x.2.2.length + 4)).take (up4 (x.2.2.length + 4) - (x.2.2.length + 4)) = List.replicate (up4 (x.2.2.length + 4) - 4 - x.2.2.length) 0 := by
    rw [tb_eq, ← List.append_assoc, List.append_assoc, ← List.append_assoc, List.append_assoc, List.drop_left' (by rw [List.length_append, hd4_len]; omega), List.take_left' (by rw [List.length_replicate]; omega)]
  rw [e]
  simp
theorem tb_thing {chunk : Bool} {x : Thing} (h : Puts chunk x) (r : List UInt8) : thing chunk (tb chunk x ++ r) = x := by
  obtain ⟨k, f, z⟩ := x
  obtain ⟨h1, h2, h3, h4, h5⟩ := h
  simp only at h1 h2 h3 h4 h5
  have hN := tb_N (chunk := chunk) (x := (k, f, z)) ⟨h1, h2, h3, h4, h5⟩ r
  have hv : ((tb chunk (k, f, z) ++ r).drop 4).take (tN (tb chunk (k, f, z) ++ r) - 4) = z := by
    rw [hN, tb_eq, List.append_assoc, List.drop_left' (hd4_len _ _), List.append_assoc]
    exact List.take_left' (by simp)
  cases chunk with
  | false =>
    have e : (tb false (k, f, z) ++ r).take 2 = [UInt8.ofNat (k / 256), UInt8.ofNat k] := by rw [tb_eq]; simp [hd4]
    have := h4 rfl
    subst this
    simp only [thing, hv, e, beNum_two, UInt8.toNat_ofNat', Bool.false_eq_true, if_false]
    congr 1
    omega
  | true =>
    have e : (tb true (k, f, z) ++ r).take 1 = [UInt8.ofNat k] := by rw [tb_eq]; simp [hd4]
    have e2 : ((tb true (k, f, z) ++ r).drop 1).take 1 = [UInt8.ofNat f] := by rw [tb_eq]; simp [hd4]
    have := h3 rfl
    simp only [thing, hv, e, e2, beNum_one, UInt8.toNat_ofNat', if_true]
    congr 1
    · omega
    · congr 1
      omega
theorem parse_tb {chunk : Bool} {x : Thing} (h : Puts chunk x) (r : List UInt8) : parse chunk (tb chunk x ++ r) = (x :: (parse chunk r).1, (parse chunk r).2) := by
  have e : (tb chunk x ++ r).drop (up4 (tN (tb chunk x ++ r))) = r := by
    rw [tb_N h]; exact List.drop_left' (tb_len _ _)
  rw [parse_some (tb_whole h r), tb_thing h r, e]
def tbs (chunk : Bool) (xs : List Thing) : List UInt8 := (xs.map (tb chunk)).flatten
theorem parse_tbs {chunk : Bool} (xs : List Thing) (h : ∀ x ∈ xs, Puts chunk x) (r : List UInt8) : parse chunk (tbs chunk xs ++ r) = (xs ++ (parse chunk r).1, (parse chunk r).2) := by
  induction xs with
  | nil => simp [tbs]
  | cons x xs ih =>
    have ih' := ih fun y hy => h y (by simp [hy])
    have e : tbs chunk (x :: xs) ++ r = tb chunk x ++ (tbs chunk xs ++ r) := by simp [tbs]
    rw [e, parse_tb (h x (by simp)), ih']
    rfl
theorem thing_puts {chunk : Bool} {z : List UInt8} (h : Whole z) : Puts chunk (thing chunk z) := by
  have hN : tN z < 65536 := beNum_lt_of (k := 2) (by simp; omega) rfl
  have hb := thing_bounds (chunk := chunk) (z := z)
  refine ⟨hb.1, hb.2, fun e => ?_, fun e => ?_, by rw [thing_len h]; omega⟩
  · subst e
    have : beNum (z.take 1) < 256 := beNum_lt_of (k := 1) (by simp; omega) rfl
    simp [thing]; omega
  · subst e; rfl
theorem tb_thing_eq {chunk : Bool} {z : List UInt8} (h : Whole z) : tb chunk (thing chunk z) = z.take (up4 (tN z)) := by
  have hl := thing_len (chunk := chunk) h
  have hu := up4_le (tN z)
  obtain ⟨h1, h2, h3, h4⟩ := h
  have e4 : (thing chunk z).2.2.length + 4 = tN z := by rw [hl]; omega
  have hd : hd4 chunk (thing chunk z) = z.take 4 := by
    have t2 : (z.drop 2).take 2 = beB 2 (tN z) := (beB_beNum_n (by simp; omega)).symm
    have e : z.take 4 = z.take 2 ++ (z.drop 2).take 2 := by rw [← List.take_add]
    rw [e, t2, beB2]
    unfold hd4
    rw [Nat.add_comm 4, e4]
    congr 1
    cases chunk with
    | false =>
      simp only [thing, Bool.false_eq_true, if_false]
      rw [← beB2, beB_beNum_n (by simp; omega)]
    | true =>
      have a0 := take_two (z := z) (i := 0) (by omega)
      have a1 := take_one (z := z) (i := 0) (by omega)
      have a2 := take_one (z := z) (i := 1) (by omega)
      rw [List.drop_zero] at a0 a1
      simp only [thing, if_true, a0, a1, a2, beNum_one]
      simp
  have hv : (thing chunk z).2.2 = (z.drop 4).take (tN z - 4) := rfl
  have hp : List.replicate (up4 ((thing chunk z).2.2.length + 4) - 4 - (thing chunk z).2.2.length) (0 : UInt8) = (z.drop (tN z)).take (up4 (tN z) - tN z) := by
    rw [e4, hl]
    symm
    apply List.eq_replicate_iff.2
    refine ⟨by simp; omega, fun b hb => ?_⟩
    have := List.all_eq_true.1 h4 b hb
    simpa using this
  rw [tb_eq, hd, hp, hv]
  have s1 : z.take (up4 (tN z)) = z.take 4 ++ (z.drop 4).take (up4 (tN z) - 4) := by
    rw [← List.take_add]; congr 1; omega
  have s2 : (z.drop 4).take (up4 (tN z) - 4) = (z.drop 4).take (tN z - 4) ++ ((z.drop 4).drop (tN z - 4)).take (up4 (tN z) - tN z) := by
    rw [← List.take_add]; congr 1; omega
  rw [s1, s2, List.drop_drop]
  congr 4
  omega
theorem tbs_parse {chunk : Bool} : ∀ (z : List UInt8), (parse chunk z).2 = true → tbs chunk (parse chunk z).1 = z ∧ ∀ x ∈ (parse chunk z).1, Puts chunk x := by
  intro z
  induction hn : z.length using Nat.strongRecOn generalizing z with
  | _ n ih =>
    intro hw
    by_cases h0 : z = []
    · subst h0; rw [parse_nil]; exact ⟨rfl, fun x hx => by cases hx⟩
    · by_cases h : Whole z
      · rw [parse_some h] at hw ⊢
        have hu := up4_le (tN z)
        have h2 := h.2.1
        have h1 := h.1
        obtain ⟨i1, i2⟩ := ih (z.drop (up4 (tN z))).length (by simp; omega) (z.drop (up4 (tN z))) rfl hw
        refine ⟨?_, fun x hx => ?_⟩
        · show tb chunk (thing chunk z) ++ tbs chunk _ = z
          rw [i1, tb_thing_eq h]
          exact List.take_append_drop _ _
        · rcases List.mem_cons.1 hx with rfl | hx
          · exact thing_puts h
          · exact i2 x hx
      · rw [parse_none h0 h] at hw; cases hw
end Go.Proofs.Ytjpegoigipbmiaa
namespace Go.Proofs.Ytjpegoigipbmiaa
theorem nAt_skip {a b : List UInt8} {m at_ n : Nat} (h : a.length = m) : nAt (a ++ b) (m + at_) n = nAt b at_ n := by
  unfold nAt
  rw [← h, ← List.drop_drop, List.drop_left]
theorem nAt_here {n x : Nat} {b : List UInt8} (h : x < 256 ^ n) : nAt (beB n x ++ b) 0 n = x := by
  unfold nAt
  rw [List.drop_zero, List.take_left' (beB_length n x), beNum_beB n x h]
theorem nAt_go {m k at_ n x : Nat} {b : List UInt8} (e : at_ = m + k) : nAt (beB m x ++ b) at_ n = nAt b k n := by
  subst e; exact nAt_skip (beB_length m x)
theorem drop_go {m k n x : Nat} {b : List UInt8} (e : n = m + k) : (beB m x ++ b).drop n = b.drop k := by
  subst e; rw [← List.drop_drop, List.drop_left' (beB_length m x)]
theorem drop_split {z : List UInt8} {i n : Nat} (h : i + n ≤ z.length) : z.drop i = beB n (nAt z i n) ++ z.drop (i + n) := by
  unfold nAt
  rw [beB_beNum_n (by simp; omega), ← List.drop_drop, List.take_append_drop]
theorem may_clean {c : Ck} {gs : List (Nat × Nat)} (h : may c gs = true) : MayF c := by
  unfold may at h
  rw [Bool.and_eq_true] at h
  exact of_decide_eq_true h.1
theorem gapsAt_by (gs : List (Nat × Nat)) (hb : ∀ x ∈ gs, x.1 < 65536 ∧ x.2 < 65536) (r : List UInt8) : gapsAt (gapsBy gs ++ r) gs.length = gs := by
  induction gs with
  | nil => rfl
  | cons g gs ih =>
    have e : gapsBy (g :: gs) ++ r = beB 2 g.1 ++ (beB 2 g.2 ++ (gapsBy gs ++ r)) := by simp [gapsBy]
    have hg := hb g (by simp)
    have ih' := ih fun x hx => hb x (by simp [hx])
    unfold gapsAt at ih' ⊢
    rw [e, List.length_cons, List.range_succ_eq_map, List.map_cons, List.map_map]
    congr 1
    · rw [nAt_here (by omega), nAt_go (k := 0) (by omega), nAt_here (by omega)]
theorem dupsAt_by (l : List Nat) (hb : ∀ x ∈ l, x < 4294967296) (r : List UInt8) : dupsAt (be4s l ++ r) l.length = l := by
  induction l with
  | nil => rfl
  | cons g l ih =>
    have e : be4s (g :: l) ++ r = beB 4 g ++ (be4s l ++ r) := by simp [be4s]
    have hg := hb g (by simp)
    have ih' := ih fun x hx => hb x (by simp [hx])
    unfold dupsAt at ih' ⊢
    rw [e, List.length_cons, List.range_succ_eq_map, List.map_cons, List.map_map]
    congr 1
    · rw [nAt_here (by omega)]
theorem pgo_addrs (kind : Nat) (well : Bool) (l : List Nat) (hb : ∀ x ∈ l, x < 4294967296) (rest : List Thing) (A : List Nat) (D : List UInt8) (n : Nat) (h : A.length + l.length ≤ 3) : pgo kind well (l.map (fun a => ((5, 0, beB 4 a) : Thing)) ++ rest) A D n = pgo kind well rest (A ++ l) D n := by
  induction l generalizing A with
  | nil => simp
  | cons a l ih =>
    have ha := hb a (by simp)
    simp only [List.length_cons] at h
    simp only [List.map_cons, List.cons_append, pgo, if_true]
    rw [if_pos ⟨beB_length 4 a, by omega⟩, beNum_beB 4 a (by omega), ih (fun x hx => hb x (by simp [hx])) (A ++ [a]) (by simp; omega)]
    simp
theorem addrs_tbs (l : List Nat) : addrsB l = tbs false (l.map fun a => ((5, 0, beB 4 a) : Thing)) := by
  unfold addrsB tbs
  rw [List.map_map]; rfl
theorem addrs_puts (l : List Nat) : ∀ x ∈ l.map (fun a => ((5, 0, beB 4 a) : Thing)), Puts false x := by
  intro x hx
  obtain ⟨a, -, rfl⟩ := List.mem_map.1 hx
  exact ⟨(by simp), (by simp), (by simp), fun _ => rfl, by simp [beB_length]⟩
theorem causes_tbs (l : List CV) (h : allShort l = true) : causesB l = tbs false (l.map fun x => ((x.k, 0, x.z) : Thing)) := by
  unfold causesB tbs
  rw [List.map_map]
  congr 1
  refine List.map_congr_left fun x hx => ?_
  have := of_decide_eq_true (List.all_eq_true.1 h x hx)
  simp only [pB, if_pos this, Function.comp, tb]
theorem causes_puts (l : List CV) (h : allShort l = true) (hk : ∀ x ∈ l, x.k < 65536) : ∀ x ∈ l.map (fun x => ((x.k, 0, x.z) : Thing)), Puts false x := by
  intro x hx
  obtain ⟨a, ha, rfl⟩ := List.mem_map.1 hx
  exact ⟨hk a ha, (by simp), (by simp), fun _ => rfl, of_decide_eq_true (List.all_eq_true.1 h a ha)⟩
theorem head16 (a b c d e : Nat) (r : List UInt8) (h1 : a < 4294967296) (h2 : b < 4294967296) (h3 : c < 65536) (h4 : d < 65536) (h5 : e < 4294967296) : nAt (beB 4 a ++ (beB 4 b ++ (beB 2 c ++ (beB 2 d ++ (beB 4 e ++ r))))) 0 4 = a ∧ nAt (beB 4 a ++ (beB 4 b ++ (beB 2 c ++ (beB 2 d ++ (beB 4 e ++ r))))) 4 4 = b ∧ nAt (beB 4 a ++ (beB 4 b ++ (beB 2 c ++ (beB 2 d ++ (beB 4 e ++ r))))) 8 2 = c ∧ nAt (beB 4 a ++ (beB 4 b ++ (beB 2 c ++ (beB 2 d ++ (beB 4 e ++ r))))) 10 2 = d ∧ nAt (beB 4 a ++ (beB 4 b ++ (beB 2 c ++ (beB 2 d ++ (beB 4 e ++ r))))) 12 4 = e ∧ (beB 4 a ++ (beB 4 b ++ (beB 2 c ++ (beB 2 d ++ (beB 4 e ++ r))))).drop 16 = r ∧ 16 ≤ (beB 4 a ++ (beB 4 b ++ (beB 2 c ++ (beB 2 d ++ (beB 4 e ++ r))))).length := by
  refine ⟨nAt_here (by omega), ?_, ?_, ?_, ?_, ?_, by simp only [List.length_append, beB_length]; omega⟩
  · rw [nAt_go (k := 0) (by omega), nAt_here (by omega)]
  · rw [nAt_go (k := 4) (by omega), nAt_go (k := 0) (by omega), nAt_here (by omega)]
  · rw [nAt_go (k := 6) (by omega), nAt_go (k := 2) (by omega), nAt_go (k := 0) (by omega), nAt_here (by omega)]
  · rw [nAt_go (k := 8) (by omega), nAt_go (k := 4) (by omega), nAt_go (k := 2) (by omega), nAt_go (k := 0) (by omega), nAt_here (by omega)]
  · rw [drop_go (k := 12) (by omega), drop_go (k := 8) (by omega), drop_go (k := 6) (by omega), drop_go (k := 4) (by omega), drop_go (k := 0) (by omega), List.drop_zero]
theorem head12 (a b c d : Nat) (r : List UInt8) (h1 : a < 4294967296) (h2 : b < 65536) (h3 : c < 65536) (h4 : d < 4294967296) : nAt (beB 4 a ++ (beB 2 b ++ (beB 2 c ++ (beB 4 d ++ r)))) 0 4 = a ∧ nAt (beB 4 a ++ (beB 2 b ++ (beB 2 c ++ (beB 4 d ++ r)))) 4 2 = b ∧ nAt (beB 4 a ++ (beB 2 b ++ (beB 2 c ++ (beB 4 d ++ r)))) 6 2 = c ∧ nAt (beB 4 a ++ (beB 2 b ++ (beB 2 c ++ (beB 4 d ++ r)))) 8 4 = d ∧ (beB 4 a ++ (beB 2 b ++ (beB 2 c ++ (beB 4 d ++ r)))).drop 12 = r ∧ 12 ≤ (beB 4 a ++ (beB 2 b ++ (beB 2 c ++ (beB 4 d ++ r)))).length := by
  refine ⟨nAt_here (by omega), ?_, ?_, ?_, ?_, by simp only [List.length_append, beB_length]; omega⟩
  · rw [nAt_go (k := 0) (by omega), nAt_here (by omega)]
  · rw [nAt_go (k := 2) (by omega), nAt_go (k := 0) (by omega), nAt_here (by omega)]
  · rw [nAt_go (k := 4) (by omega), nAt_go (k := 2) (by omega), nAt_go (k := 0) (by omega), nAt_here (by omega)]
  · rw [drop_go (k := 8) (by omega), drop_go (k := 6) (by omega), drop_go (k := 4) (by omega), drop_go (k := 0) (by omega), List.drop_zero]
theorem raw_put {H : AHeap} {c : Ck} {d : CD} {x : List UInt8} (ok : COk H c d) (hm : may c d.gaps = true) (hx : cval c d = some x) : rawP c.k c.f x = some (pcOf c d) := by
  obtain ⟨hs, m1, m2, m3, m4⟩ := may_clean hm
  have l1 := ok.dl
  have l2 := ok.al
  have l3 := ok.gl
  have l4 := ok.ul
  have l5 := ok.cl
  have t1 := ok.tag
  have t2 := ok.rwnd
  have t3 := ok.tsn
  have t4 := ok.out
  have t5 := ok.inn
  have t6 := ok.sid
  have t7 := ok.ssn
  have t8 := ok.ppid
  have b1 := ok.ab
  have b2 := ok.gb
  have b3 := ok.ub
  have b4 : ∀ x ∈ d.causes, x.k < 65536 := fun x hx => (ok.cb x hx).1
  clear ok hm
  obtain ⟨k, f, tag, rwnd, tsn, out, inn, sid, ssn, ppid, ⟨_, Dn, _⟩, ⟨_, An, _⟩, ⟨_, Gn, _⟩, ⟨_, Un, _⟩, ⟨_, Cn, _⟩⟩ := c
  obtain ⟨data, addrs, gaps, dups, causes⟩ := d
  simp only at *
  subst l1 l2 l3 l4 l5
  unfold cl at hs
  simp only at hs
  unfold cval initB at hx
  simp only at hx
  split at hs <;> simp only [SameB, Ck.none, Sl.nil, true_and, and_true, List.length_eq_zero_iff] at hs
  · obtain ⟨-, rfl, rfl, rfl, rfl, rfl, rfl, rfl, rfl⟩ := hs
    cases hx
    simp only [rawP, List.append_assoc]
    obtain ⟨a1, a2, a3, a4, a5, a6⟩ := head12 tsn sid ssn ppid data t3 t6 t7 t8
    rw [if_pos a6, a1, a2, a3, a4, a5]
    rfl
  · obtain ⟨rfl, rfl, rfl, rfl, rfl, rfl, rfl, rfl⟩ := hs
    cases hx
    have hp := parse_tbs (addrs.map fun a => ((5, 0, beB 4 a) : Thing)) (addrs_puts addrs) []
    rw [List.append_nil, ← addrs_tbs, parse_nil] at hp
    have hg := pgo_addrs 1 true addrs b1 [] [] [] 0 (by simpa using m1)
    simp only [rawP, List.append_assoc]
    obtain ⟨a1, a2, a3, a4, a5, a6, a7⟩ := head16 tag rwnd out inn tsn (addrsB addrs) t1 t2 t4 t5 t3
    rw [if_pos a7, a1, a2, a3, a4, a5, a6, hp]
    simp only [hg, pgo, if_true, List.nil_append, Option.map_some]
    rfl
  · obtain ⟨rfl, rfl, rfl, rfl, rfl, rfl, rfl⟩ := hs
    simp only at hx
    split at hx
    case isFalse => cases hx
    rename_i hd
    cases hx
    have hp := parse_tbs (addrs.map (fun a => ((5, 0, beB 4 a) : Thing)) ++ [(7, 0, data)]) (fun x hx => by
      rcases List.mem_append.1 hx with hx | hx
      · exact addrs_puts addrs x hx
      · simp only [List.mem_singleton] at hx; subst hx; exact ⟨(by simp), (by simp), (by simp), fun _ => rfl, hd⟩) []
    have e : tbs false (addrs.map (fun a => ((5, 0, beB 4 a) : Thing)) ++ [(7, 0, data)]) = addrsB addrs ++ pB 7 data := by
      rw [addrs_tbs]; simp [tbs, tb, pB, hd]
    rw [List.append_nil, e, parse_nil] at hp
    have hne : data.length ≠ 0 := by omega
    have hg := pgo_addrs 2 true addrs b1 [(7, 0, data)] [] [] 0 (by simpa using m1)
    simp only [rawP, List.append_assoc]
    obtain ⟨a1, a2, a3, a4, a5, a6, a7⟩ := head16 tag rwnd out inn tsn (addrsB addrs ++ pB 7 data) t1 t2 t4 t5 t3
    rw [if_pos a7, a1, a2, a3, a4, a5, a6, hp]
    simp [hg, pgo, hne, pcOf, PC.z]
  · obtain ⟨rfl, rfl, rfl, rfl, rfl, rfl, rfl, rfl, rfl, rfl⟩ := hs
    cases hx
    simp only [rawP, List.append_assoc]
    have e1 : nAt (beB 4 tsn ++ (beB 4 rwnd ++ (beB 2 gaps.length ++ (beB 2 dups.length ++ (gapsBy gaps ++ be4s dups))))) 8 2 = gaps.length := by
      rw [nAt_go (k := 4) (by omega), nAt_go (k := 0) (by omega), nAt_here (by omega)]
    have e2 : nAt (beB 4 tsn ++ (beB 4 rwnd ++ (beB 2 gaps.length ++ (beB 2 dups.length ++ (gapsBy gaps ++ be4s dups))))) 10 2 = dups.length := by
      rw [nAt_go (k := 6) (by omega), nAt_go (k := 2) (by omega), nAt_go (k := 0) (by omega), nAt_here (by omega)]
    rw [e1, e2, if_pos (by simp only [List.length_append, beB_length, gapsBy_len, be4s_len]; omega), nAt_here (by omega), nAt_go (k := 0) (by omega), nAt_here (by omega)]
    rw [drop_go (k := 8) (by omega), drop_go (k := 4) (by omega), drop_go (k := 2) (by omega), drop_go (k := 0) (by omega), List.drop_zero, gapsAt_by gaps b2]
    rw [drop_go (k := 8 + 4 * gaps.length) (by omega), drop_go (k := 4 + 4 * gaps.length) (by omega), drop_go (k := 2 + 4 * gaps.length) (by omega), drop_go (k := 4 * gaps.length) (by omega), List.drop_left' (by rw [gapsBy_len]; omega)]
    have := dupsAt_by dups b3 []
    rw [List.append_nil] at this
    rw [this]
    rfl
  · obtain ⟨rfl, rfl, rfl, rfl, rfl, rfl, rfl, rfl, rfl, rfl, rfl, rfl, rfl⟩ := hs
    cases hx; rfl
  · obtain ⟨rfl, rfl, rfl, rfl, rfl, rfl, rfl, rfl, rfl, rfl, rfl, rfl, rfl⟩ := hs
    cases hx; rfl
  · obtain ⟨rfl, rfl, rfl, rfl, rfl, rfl, rfl, rfl, rfl, rfl, rfl, rfl, rfl⟩ := hs
    cases hx; rfl
  · obtain ⟨-, rfl, rfl, rfl, rfl, rfl, rfl, rfl, rfl, rfl, rfl, rfl, rfl⟩ := hs
    simp only at hx
    split at hx
    case isFalse => cases hx
    rename_i hd
    cases hx
    have hp := parse_tbs (causes.map fun x => ((x.k, 0, x.z) : Thing)) (causes_puts causes hd b4) []
    rw [List.append_nil, ← causes_tbs causes hd, parse_nil, List.append_nil] at hp
    simp only [rawP, hp, if_true, List.map_map]
    rfl
  · obtain ⟨rfl, rfl, rfl, rfl, rfl, rfl, rfl, rfl, rfl, rfl, rfl, rfl, rfl⟩ := hs
    simp only at hx
    split at hx
    case isFalse => cases hx
    rename_i hd
    cases hx
    have hp := parse_tbs (causes.map fun x => ((x.k, 0, x.z) : Thing)) (causes_puts causes hd b4) []
    rw [List.append_nil, ← causes_tbs causes hd, parse_nil, List.append_nil] at hp
    simp only [rawP, hp, if_true, List.map_map]
    rfl
  · obtain ⟨rfl, rfl, rfl, rfl, rfl, rfl, rfl, rfl, rfl, rfl, rfl, rfl, rfl⟩ := hs
    cases hx
    have := nAt_here (n := 4) (x := tsn) (b := []) (by omega)
    rw [List.append_nil] at this
    simp only [rawP, beB_length, if_true, this]
    rfl
  · obtain ⟨-, rfl, rfl, rfl, rfl, rfl, rfl, rfl, rfl, rfl, rfl, rfl, rfl, rfl⟩ := hs
    cases hx; rfl
  · obtain ⟨rfl, rfl, rfl, rfl, rfl, rfl, rfl, rfl, rfl, rfl, rfl, rfl, rfl, rfl⟩ := hs
    cases hx; rfl
  · obtain ⟨rfl, rfl, rfl, rfl, rfl, rfl, rfl, rfl, rfl, rfl, rfl, rfl, rfl, rfl⟩ := hs
    cases hx; rfl
  · rename_i g0 g1 g2 g3 g4 g5 g10 g6 g9 g7 g14 g8 g11
    obtain ⟨rfl, rfl, rfl, rfl, rfl, rfl, rfl, rfl, rfl, rfl, rfl, rfl⟩ := hs
    have e1 : some data = some x := by
      rw [← hx]; split <;> first | rfl | omega | contradiction
    cases e1
    unfold rawP
    split <;> first | rfl | omega | contradiction
theorem tk_put {H : AHeap} {c : Ck} {d : CD} {x : List UInt8} (ok : COk H c d) (hm : may c d.gaps = true) (hx : cval c d = some x) : tkP c.k c.f x = some (pcOf c d) := by
  have hk := ok.k
  unfold tkP
  rw [if_neg (by omega), raw_put ok hm hx, Option.filter_some, mayP_of ok, hm, if_pos rfl]
theorem gapsBy_at (z : List UInt8) (n : Nat) (h : 4 * n ≤ z.length) : gapsBy (gapsAt z n) = z.take (4 * n) := by
  induction n with
  | zero => rfl
  | succ n ih =>
    have e : gapsAt z (n + 1) = gapsAt z n ++ [(nAt z (4 * n) 2, nAt z (4 * n + 2) 2)] := by simp [gapsAt, List.range_succ]
    have e2 : gapsBy (gapsAt z n ++ [(nAt z (4 * n) 2, nAt z (4 * n + 2) 2)]) = gapsBy (gapsAt z n) ++ (beB 2 (nAt z (4 * n) 2) ++ beB 2 (nAt z (4 * n + 2) 2)) := by simp [gapsBy]
    rw [e, e2, ih (by omega), show 4 * (n + 1) = 4 * n + (2 + 2) from by omega, List.take_add, List.take_add]
    unfold nAt
    rw [beB_beNum_n (by simp; omega), beB_beNum_n (by simp; omega), List.drop_drop]
theorem be4s_at (z : List UInt8) (n : Nat) (h : 4 * n ≤ z.length) : be4s (dupsAt z n) = z.take (4 * n) := by
  induction n with
  | zero => rfl
  | succ n ih =>
    have e : dupsAt z (n + 1) = dupsAt z n ++ [nAt z (4 * n) 4] := by simp [dupsAt, List.range_succ]
    have e2 : be4s (dupsAt z n ++ [nAt z (4 * n) 4]) = be4s (dupsAt z n) ++ beB 4 (nAt z (4 * n) 4) := by simp [be4s]
    rw [e, e2, ih (by omega), show 4 * (n + 1) = 4 * n + 4 from by omega, List.take_add]
    unfold nAt
    rw [beB_beNum_n (by simp; omega)]
theorem causes_eq (l : List CV) (xs : List Thing) (e : l.map (fun x => (x.k, x.z)) = xs.map (fun x => (x.1, x.2.2))) (h : ∀ x ∈ xs, Puts false x) : allShort l = true ∧ causesB l = tbs false xs := by
  induction l generalizing xs with
  | nil => cases xs with
    | nil => exact ⟨rfl, rfl⟩
    | cons y ys => cases e
  | cons x l ih => cases xs with
    | nil => cases e
    | cons y ys =>
      simp only [List.map_cons, List.cons.injEq, Prod.mk.injEq] at e
      obtain ⟨⟨e1, e2⟩, e3⟩ := e
      obtain ⟨i1, i2⟩ := ih ys e3 fun z hz => h z (by simp [hz])
      obtain ⟨p1, p2, p3, p4, p5⟩ := h y (by simp)
      have hx : x.z.length ≤ 65531 := by rw [e2]; exact p5
      refine ⟨by simp only [allShort, List.all_cons, Bool.and_eq_true] at i1 ⊢; exact ⟨decide_eq_true hx, i1⟩, ?_⟩
      have : causesB (x :: l) = pB x.k x.z ++ causesB l := by simp [causesB]
      rw [this, i2, pB, if_pos hx, e1, e2]
      have p4 := p4 rfl
      simp [tbs, tb, p4]
theorem put_tk {H : AHeap} {c : Ck} {d : CD} {k f : Nat} {z : List UInt8} (ok : COk H c d) (h : tkP k f z = some (pcOf c d)) : c.k = k ∧ c.f = f ∧ k ≤ 255 ∧ may c d.gaps = true ∧ (k ≠ 1 → k ≠ 2 → cval c d = some z) := by
  unfold tkP at h
  split at h
  · cases h
  rename_i hk
  obtain ⟨h1, h2⟩ := Option.filter_eq_some_iff.1 h
  rw [mayP_of ok] at h2
  have l3 := ok.gl
  have l4 := ok.ul
  clear ok h
  obtain ⟨k', f', tag, rwnd, tsn, out, inn, sid, ssn, ppid, ⟨_, Dn, _⟩, ⟨_, An, _⟩, ⟨_, Gn, _⟩, ⟨_, Un, _⟩, ⟨_, Cn, _⟩⟩ := c
  obtain ⟨data, addrs, gaps, dups, causes⟩ := d
  simp only at *
  subst l3 l4
  unfold rawP pcOf PC.z at h1
  simp only at h1
  split at h1
  · split at h1
    case isFalse => cases h1
    rename_i g
    simp only [Option.some.injEq, PC.mk.injEq] at h1
    obtain ⟨rfl, rfl, -, -, rfl, -, -, rfl, rfl, rfl, rfl, -⟩ := h1
    refine ⟨rfl, rfl, by omega, h2, fun _ _ => ?_⟩
    simp only [cval, List.append_assoc]
    rw [← drop_split (i := 8) (by omega), ← drop_split (i := 6) (by omega), ← drop_split (i := 4) (by omega), ← drop_split (i := 0) (by omega), List.drop_zero]
  · split at h1
    case isFalse => cases h1
    simp only [Option.map_eq_some_iff, PC.mk.injEq] at h1
    obtain ⟨y, -, rfl, rfl, -⟩ := h1
    exact ⟨rfl, rfl, by omega, h2, fun x => absurd rfl x⟩
  · split at h1
    case isFalse => cases h1
    simp only [Option.map_eq_some_iff, PC.mk.injEq] at h1
    obtain ⟨y, -, rfl, rfl, -⟩ := h1
    exact ⟨rfl, rfl, by omega, h2, fun _ x => absurd rfl x⟩
  · split at h1
    case isFalse => cases h1
    rename_i g
    simp only [Option.some.injEq, PC.mk.injEq] at h1
    obtain ⟨rfl, rfl, -, rfl, rfl, -, -, -, -, -, -, -, rfl, rfl, -⟩ := h1
    refine ⟨rfl, rfl, by omega, h2, fun _ _ => ?_⟩
    obtain ⟨g1, g2⟩ := g
    have a1 : (gapsAt (z.drop 12) (nAt z 8 2)).length = nAt z 8 2 := by simp [gapsAt]
    have a2 : (dupsAt (z.drop (12 + 4 * nAt z 8 2)) (nAt z 10 2)).length = nAt z 10 2 := by simp [dupsAt]
    simp only [cval, List.append_assoc, a1, a2]
    rw [gapsBy_at _ _ (by simp; omega), be4s_at _ _ (by simp; omega)]
    have e : (z.drop 12).take (4 * nAt z 8 2) ++ (z.drop (12 + 4 * nAt z 8 2)).take (4 * nAt z 10 2) = z.drop 12 := by
      rw [List.take_of_length_le (l := z.drop (12 + 4 * nAt z 8 2)) (by simp; omega), ← List.drop_drop, List.take_append_drop]
    rw [e, ← drop_split (i := 10) (by omega), ← drop_split (i := 8) (by omega), ← drop_split (i := 4) (by omega), ← drop_split (i := 0) (by omega), List.drop_zero]
  · split at h1
    case isFalse => cases h1
    rename_i g
    simp only [Option.some.injEq, PC.mk.injEq] at h1
    obtain ⟨rfl, rfl, -, -, -, -, -, -, -, -, -, -, -, -, e⟩ := h1
    refine ⟨rfl, rfl, by omega, h2, fun _ _ => ?_⟩
    obtain ⟨t1, t2⟩ := tbs_parse z g
    obtain ⟨q1, q2⟩ := causes_eq causes _ e.symm t2
    simp only [cval, q1, if_true, q2, t1]
  · split at h1
    case isFalse => cases h1
    rename_i g
    simp only [Option.some.injEq, PC.mk.injEq] at h1
    obtain ⟨rfl, rfl, -, -, -, -, -, -, -, -, -, -, -, -, e⟩ := h1
    refine ⟨rfl, rfl, by omega, h2, fun _ _ => ?_⟩
    obtain ⟨t1, t2⟩ := tbs_parse z g
    obtain ⟨q1, q2⟩ := causes_eq causes _ e.symm t2
    simp only [cval, q1, if_true, q2, t1]
  · split at h1
    case isFalse => cases h1
    rename_i g
    simp only [Option.some.injEq, PC.mk.injEq] at h1
    obtain ⟨rfl, rfl, -, -, rfl, -⟩ := h1
    refine ⟨rfl, rfl, by omega, h2, fun _ _ => ?_⟩
    have e := drop_split (z := z) (i := 0) (n := 4) (by omega)
    rw [List.drop_zero, List.drop_of_length_le (by omega), List.append_nil] at e
    simp only [cval]
    rw [← e]
  · split at h1
    case isFalse => cases h1
    rename_i g
    simp only [Option.some.injEq, PC.mk.injEq] at h1
    obtain ⟨rfl, rfl, -, -, -, -, -, -, -, -, rfl, -⟩ := h1
    refine ⟨rfl, rfl, by omega, h2, fun _ _ => ?_⟩
    rw [List.eq_nil_of_length_eq_zero g]; rfl
  · split at h1
    case isFalse => cases h1
    rename_i g
    simp only [Option.some.injEq, PC.mk.injEq] at h1
    obtain ⟨rfl, rfl, -, -, -, -, -, -, -, -, rfl, -⟩ := h1
    refine ⟨rfl, rfl, by omega, h2, fun _ _ => ?_⟩
    rw [List.eq_nil_of_length_eq_zero g]; rfl
  · split at h1
    case isFalse => cases h1
    rename_i g
    simp only [Option.some.injEq, PC.mk.injEq] at h1
    obtain ⟨rfl, rfl, -, -, -, -, -, -, -, -, rfl, -⟩ := h1
    refine ⟨rfl, rfl, by omega, h2, fun _ _ => ?_⟩
    rw [List.eq_nil_of_length_eq_zero g]; rfl
  · simp only [Option.some.injEq, PC.mk.injEq] at h1
    obtain ⟨rfl, rfl, -, -, -, -, -, -, -, -, rfl, -⟩ := h1
    refine ⟨rfl, rfl, by omega, h2, fun _ _ => ?_⟩
    unfold cval
    split <;> first | rfl | contradiction | omega
theorem parse_small {chunk : Bool} : ∀ (z : List UInt8), ∀ x ∈ (parse chunk z).1, x.2.2.length ≤ z.length := by
  intro z
  induction hn : z.length using Nat.strongRecOn generalizing z with
  | _ n ih =>
    intro x hx
    by_cases h0 : z = []
    · subst h0; rw [parse_nil] at hx; cases hx
    · by_cases h : Whole z
      · rw [parse_some h] at hx
        have hu := up4_le (tN z)
        have h2 := h.2.1
        have h3 := h.2.2.1
        have h1 := h.1
        rcases List.mem_cons.1 hx with rfl | hx
        · rw [thing_len h]; omega
        · have := ih (z.drop (up4 (tN z))).length (by simp; omega) (z.drop (up4 (tN z))) rfl x hx
          simp at this; omega
      · rw [parse_none h0 h] at hx; cases hx
theorem pgo_small (kind : Nat) (well : Bool) (N : Nat) (l : List Thing) (hl : ∀ x ∈ l, x.2.2.length ≤ N) (A : List Nat) (D : List UInt8) (hD : D.length ≤ N) (n : Nat) (r : List Nat × List UInt8) (h : pgo kind well l A D n = some r) : r.2.length ≤ N := by
  induction l generalizing A D n with
  | nil =>
    simp only [pgo] at h
    split at h
    · cases h; exact hD
    · cases h
  | cons x l ih =>
    obtain ⟨k, f, z⟩ := x
    have hz : z.length ≤ N := hl (k, f, z) (by simp)
    have ih' := ih fun x hx => hl x (by simp [hx])
    simp only [pgo] at h
    split at h
    · split at h
      · exact ih' _ _ hD _ h
      · cases h
    · split at h
      · split at h
        · cases h
        · exact ih' _ _ hz _ h
      · split at h
        · cases h; exact hD
        · exact ih' _ _ hD _ h
theorem tk_bounds {H : AHeap} {c : Ck} {d : CD} {k f : Nat} {z : List UInt8} (ok : COk H c d) (h : tkP k f z = some (pcOf c d)) : c.D.n ≤ z.length ∧ c.A.n ≤ 3 ∧ c.G.n ≤ 64 ∧ c.U.n ≤ 16 ∧ c.C.n ≤ z.length := by
  obtain ⟨-, -, -, hm, -⟩ := put_tk ok h
  obtain ⟨hs, m1, m2, m3, m4⟩ := may_clean hm
  unfold tkP at h
  split at h
  · cases h
  obtain ⟨h1, -⟩ := Option.filter_eq_some_iff.1 h
  have hpl := parse_len (chunk := false) z
  have key : d.data.length ≤ z.length ∧ (d.causes.map fun x => (x.k, x.z)).length ≤ z.length := by
    unfold rawP pcOf PC.z at h1
    split at h1
    all_goals (try split at h1)
    all_goals (first | (cases h1; done) | skip)
    all_goals (first | (simp only [Option.some.injEq, PC.mk.injEq] at h1; obtain ⟨-, -, -, -, -, -, -, -, -, -, e1, -, -, -, e2⟩ := h1; rw [← e1, ← e2]; simp; done) | (simp only [Option.some.injEq, PC.mk.injEq] at h1; obtain ⟨-, -, -, -, -, -, -, -, -, -, e1, -, -, -, e2⟩ := h1; rw [← e1, ← e2]; simp; omega) | skip)
    all_goals
      simp only [Option.map_eq_some_iff, PC.mk.injEq] at h1
      obtain ⟨r, hr, -, -, -, -, -, -, -, -, -, -, e1, -, -, -, e2⟩ := h1
      rw [← e1, ← e2]
      exact ⟨pgo_small _ _ z.length _ (fun x hx => Nat.le_trans (parse_small _ x hx) (by simp)) [] [] (Nat.zero_le _) 0 r hr, Nat.zero_le _⟩
  rw [ok.dl, List.length_map, ok.cl] at key
  exact ⟨key.1, m1, m2, m3, key.2⟩
end Go.Proofs.Ytjpegoigipbmiaa
namespace Go.Proofs.Ytjpegoigipbmiaa
theorem goP_mem {its : List Thing} {wl : Bool} {acc pl : List PC} (h : goP its wl acc = .ok pl) : ∀ p ∈ pl, p ∈ acc ∨ ∃ x ∈ its, tkP x.1 x.2.1 x.2.2 = some p := by
  induction its generalizing acc with
  | nil =>
    simp only [goP] at h
    split at h
    · cases h; exact fun p hp => .inl hp
    · cases h
  | cons x its ih =>
    simp only [goP] at h
    split at h
    · cases h; exact fun p hp => .inl hp
    · split at h
      · cases h
      · rename_i q hq
        intro p hp
        rcases ih h p hp with hp | ⟨y, hy, e⟩
        · rcases List.mem_append.1 hp with hp | hp
          · exact .inl hp
          · simp only [List.mem_singleton] at hp; subst hp
            exact .inr ⟨x, List.mem_cons_self .., hq⟩
        · exact .inr ⟨y, List.mem_cons_of_mem _ hy, e⟩
theorem take6_ok {zs : List UInt8} {f t g : Nat} {pl : List PC} (h : take6 zs = .ok (f, t, g, pl)) : htk zs = .ok (f, t, g) ∧ goP (parse true (zs.drop 12)).1 (parse true (zs.drop 12)).2 [] = .ok pl ∧ pmayK g (pl.map (·.k)) = true := by
  unfold take6 at h
  split at h
  · cases h
  · rename_i f' t' g' he
    split at h
    · cases h
    · rename_i l hl
      split at h
      · rename_i hm
        cases h
        exact ⟨he, hl, hm⟩
      · cases h
theorem take6_mem {zs : List UInt8} {f t g : Nat} {pl : List PC} (h : take6 zs = .ok (f, t, g, pl)) : ∀ p ∈ pl, ∃ k fl z, tkP k fl z = some p ∧ z.length ≤ zs.length ∧ k < 256 ∧ fl < 256 := by
  obtain ⟨-, h2, -⟩ := take6_ok h
  intro p hp
  rcases goP_mem h2 p hp with hp | ⟨x, hx, e⟩
  · cases hp
  · obtain ⟨h3, h4, h5⟩ := parse_kind _ _ (Nat.le_refl _) x hx
    rw [List.length_drop] at h5
    exact ⟨_, _, _, e, by omega, h3, h4⟩
theorem take6_sb {zs : List UInt8} {f t g : Nat} {pl : List PC} (h : take6 zs = .ok (f, t, g, pl)) (hl : zs.length ≤ 1000000) {H : AHeap} {l : List CP} (ho : ∀ x ∈ l, COk H x.1 x.2) (e : pcs l = pl) : ∀ x ∈ l, SB x.1 ∧ x.1.D.n ≤ 1000000 ∧ x.1.C.n ≤ 1000000 := by
  intro x hx
  obtain ⟨k, fl, z, ht, hz, -⟩ := take6_mem h (pcOf x.1 x.2) (by rw [← e]; exact List.mem_map_of_mem hx)
  obtain ⟨b1, b2, b3, b4, b5⟩ := tk_bounds (ho x hx) ht
  exact ⟨⟨by omega, by omega, by omega, by omega⟩, by omega, by omega⟩
theorem goP_len {its : List Thing} {wl : Bool} {acc pl : List PC} (h : goP its wl acc = .ok pl) : pl.length ≤ acc.length + its.length := by
  induction its generalizing acc with
  | nil =>
    simp only [goP] at h
    split at h
    · cases h; simp
    · cases h
  | cons x its ih =>
    simp only [goP] at h
    split at h
    · cases h; exact Nat.le_add_right _ _
    · split at h
      · cases h
      · have := ih h
        simp only [List.length_append, List.length_cons, List.length_nil] at this ⊢
        omega
theorem take6_len {zs : List UInt8} {f t g : Nat} {pl : List PC} (h : take6 zs = .ok (f, t, g, pl)) : pl.length ≤ 400 := by
  obtain ⟨h1, h2, -⟩ := take6_ok h
  obtain ⟨-, h3, -⟩ := htk_ok h1
  have := goP_len h2
  have h4 := parse_len (chunk := true) (zs.drop 12)
  rw [List.length_drop] at h4
  simp only [List.length_nil] at this
  omega
end Go.Proofs.Ytjpegoigipbmiaa
namespace Go.Proofs.Ytjpegoigipbmiaa
def zero12 (l : List UInt8) : List UInt8 := l.take 8 ++ [0, 0, 0, 0] ++ l.drop 12
theorem headSum_zero (l : List UInt8) : headSum l = Crc.sum (zero12 l) := rfl
theorem zero12_len {l : List UInt8} (h : 12 ≤ l.length) : (zero12 l).length = l.length := by simp [zero12]; omega
theorem zero12_get {l : List UInt8} (h : 12 ≤ l.length) {q : Nat} (hq : q < 8 ∨ 12 ≤ q) : (zero12 l)[q]? = l[q]? := by
  unfold zero12
  rcases hq with hq | hq
  · rw [List.append_assoc, List.getElem?_append_left (by simp; omega), List.getElem?_take_of_lt hq]
  · rw [List.getElem?_append_right (by simp; omega)]
    simp only [List.length_append, List.length_take, List.length_cons, List.length_nil, List.getElem?_drop]
    congr 1
    omega
theorem zero12_set {l : List UInt8} (h : 12 ≤ l.length) {q : Nat} (hq : q < 8 ∨ 12 ≤ q) (x : UInt8) : zero12 (l.set q x) = (zero12 l).set q x := by
  apply List.ext_getElem?
  intro i
  have h' : 12 ≤ (l.set q x).length := by simpa using h
  have hz := zero12_len h
  by_cases hi : i < 8 ∨ 12 ≤ i
  · rw [zero12_get h' hi, List.getElem?_set, List.getElem?_set, zero12_get h hi, hz]
  · have hne : q ≠ i := by omega
    rw [List.getElem?_set_ne hne]
    unfold zero12
    have e1 : (List.take 8 (l.set q x)).length = 8 := by simp; omega
    have e2 : (List.take 8 l).length = 8 := by simp; omega
    rw [List.getElem?_append_left (by simp; omega), List.getElem?_append_right (by omega), List.getElem?_append_left (by simp; omega), List.getElem?_append_right (by omega), e1, e2]
structure Fl (l0 : List UInt8) (at_ t k : Nat) (l : List UInt8) (s r : Bool) : Prop where
  len : l.length = l0.length
  all : Crc.num l = Crc.num l0 ^^^ ((t % 2 ^ k) * 2 ^ at_)
  rest : s = false → (l.drop 8).take 4 = (l0.drop 8).take 4 ∧ Crc.num (zero12 l) = Crc.num (zero12 l0) ^^^ ((t % 2 ^ k) * 2 ^ at_)
  sum : r = false → l.take 8 = l0.take 8 ∧ l.drop 12 = l0.drop 12
theorem mod_skip {t k : Nat} (h : t / 2 ^ k % 2 = 0) : t % 2 ^ (k + 1) = t % 2 ^ k := by rw [Crc.mod_succ_bit, h]; simp
theorem Fl.skip {l0 l : List UInt8} {at_ t k : Nat} {s r : Bool} (f : Fl l0 at_ t k l s r) (h : t / 2 ^ k % 2 = 0) : Fl l0 at_ t (k + 1) l s r := ⟨f.len, by rw [mod_skip h]; exact f.all, fun e => by rw [mod_skip h]; exact f.rest e, f.sum⟩
theorem drop_take_set {l : List UInt8} {q : Nat} (hq : q < 8 ∨ 12 ≤ q) (x : UInt8) : ((l.set q x).drop 8).take 4 = (l.drop 8).take 4 := by
  apply List.ext_getElem?
  intro i
  rw [List.getElem?_take, List.getElem?_take]
  split
  · rw [List.getElem?_drop, List.getElem?_drop, List.getElem?_set_ne (by omega)]
  · rfl
theorem Fl.step {l0 l : List UInt8} {at_ t k : Nat} {s r : Bool} (f : Fl l0 at_ t k l s r) (h12 : 12 ≤ l0.length) (h : t / 2 ^ k % 2 = 1) {q : Nat} (hq : q = (at_ + k) / 8) (hl : q < l.length) :
    Fl l0 at_ t (k + 1) (l.set q (l[q] ^^^ UInt8.ofNat (2 ^ ((at_ + k) % 8)))) (s || (decide (8 ≤ q) && decide (q < 12))) (r || decide (q < 8) || decide (12 ≤ q)) := by
  have hl12 : 12 ≤ l.length := by rw [f.len]; exact h12
  have st := Crc.burst_step l0 l at_ t k q ((at_ + k) % 8) hq rfl hl f.all
  rw [h, Nat.one_mul] at st
  refine ⟨by simp [f.len], st, fun e => ?_, fun e => ?_⟩
  · simp only [Bool.or_eq_false_iff, Bool.and_eq_false_iff, decide_eq_false_iff_not] at e
    have hq' : q < 8 ∨ 12 ≤ q := by omega
    obtain ⟨f1, f2⟩ := f.rest e.1
    refine ⟨by rw [drop_take_set hq', f1], ?_⟩
    have hz : q < (zero12 l).length := by rw [zero12_len hl12]; exact hl
    have st2 := Crc.burst_step (zero12 l0) (zero12 l) at_ t k q ((at_ + k) % 8) hq rfl hz f2
    rw [h, Nat.one_mul] at st2
    have hg : (zero12 l)[q] = l[q] := by
      have := zero12_get hl12 hq'
      rw [List.getElem?_eq_getElem hz, List.getElem?_eq_getElem hl] at this
      exact Option.some.inj this
    rw [zero12_set hl12 hq', ← hg]
    exact st2
  · simp only [Bool.or_eq_false_iff, decide_eq_false_iff_not] at e
    obtain ⟨f1, f2⟩ := f.sum e.1.1
    refine ⟨?_, ?_⟩
    · rw [← f1]
      apply List.ext_getElem?
      intro i
      rw [List.getElem?_take, List.getElem?_take]
      split
      · rw [List.getElem?_set_ne (by omega)]
      · rfl
    · rw [← f2]
      apply List.ext_getElem?
      intro i
      rw [List.getElem?_drop, List.getElem?_drop, List.getElem?_set_ne (by omega)]
theorem Fl.end {l0 l : List UInt8} {at_ t : Nat} {s r : Bool} (f : Fl l0 at_ t 32 l s r) (h12 : 12 ≤ l0.length) (ht : t < 4294967296) (h0 : t ≠ 0) (hat : at_ + 32 ≤ 8 * l0.length) (hsr : s = false ∨ r = false) (hs : beNum ((l0.drop 8).take 4) = headSum l0) : beNum ((l.drop 8).take 4) ≠ headSum l := by
  have hm : t % 2 ^ 32 = t := Nat.mod_eq_of_lt ht
  have hl12 : 12 ≤ l.length := by rw [f.len]; exact h12
  rcases hsr with hs0 | hr0
  · obtain ⟨f1, f2⟩ := f.rest hs0
    rw [f1, hs, headSum_zero, headSum_zero]
    rw [hm] at f2
    exact Ne.symm (Crc.more_burst 0 (zero12 l) (zero12 l0) at_ t (by decide) (by rw [zero12_len hl12, zero12_len h12, f.len]) ht h0 (by rw [zero12_len h12]; omega) f2)
  · obtain ⟨f1, f2⟩ := f.sum hr0
    have e : headSum l = headSum l0 := by rw [headSum_zero, headSum_zero, zero12, zero12, f1, f2]
    rw [e, ← hs]
    intro hb
    have hb' := beNum_inj (by simp [f.len]) hb
    have e4 : ∀ z : List UInt8, z = z.take 8 ++ ((z.drop 8).take 4 ++ z.drop 12) := fun z => by
      have : z.drop 12 = (z.drop 8).drop 4 := by rw [List.drop_drop]
      rw [this, List.take_append_drop, List.take_append_drop]
    have hl : l = l0 := by rw [e4 l, e4 l0, f1, f2, hb']
    have ha := f.all
    rw [hm, hl] at ha
    have : t * 2 ^ at_ = 0 := by
      have := congrArg (Crc.num l0 ^^^ ·) ha
      simp only [Nat.xor_self, Crc.xor_cancel] at this
      exact this.symm
    have hp : 0 < 2 ^ at_ := Nat.two_pow_pos _
    rcases Nat.mul_eq_zero.1 this with h | h <;> omega
end Go.Proofs.Ytjpegoigipbmiaa
namespace Go.Proofs.Ytjpegoigipbmiaa
set_option maxRecDepth 100000
attribute [local irreducible] Go GoR GoL
theorem hput_take2 (f t g : Nat) (v : List UInt8) (hf : f < 65536) : beNum ((hput f t g v).take 2) = f := by
  have e : (hput f t g v).take 2 = beB 2 f := by
    unfold hput hbytes
    rw [List.append_assoc, List.append_assoc, List.append_assoc, List.take_append_of_le_length (by simp [beB_length]), List.take_of_length_le (by simp [beB_length])]
  rw [e, beNum_beB _ _ (by simpa using hf)]
theorem hput_drop2 (f t g : Nat) (v : List UInt8) : (hput f t g v).drop 2 = beB 2 t ++ (beB 4 g ++ (beB 4 (Crc.sum (hbytes f t g 0 v)) ++ v)) := by
  unfold hput hbytes
  rw [List.append_assoc, List.append_assoc, List.append_assoc]
  exact List.drop_left' (by simp [beB_length])
theorem hput_drop4 (f t g : Nat) (v : List UInt8) : (hput f t g v).drop 4 = beB 4 g ++ (beB 4 (Crc.sum (hbytes f t g 0 v)) ++ v) := by
  have : (hput f t g v).drop 4 = ((hput f t g v).drop 2).drop 2 := by rw [List.drop_drop]
  rw [this, hput_drop2]
  exact List.drop_left' (by simp [beB_length])
theorem hput_drop8 (f t g : Nat) (v : List UInt8) : (hput f t g v).drop 8 = beB 4 (Crc.sum (hbytes f t g 0 v)) ++ v := by
  have : (hput f t g v).drop 8 = ((hput f t g v).drop 4).drop 4 := by rw [List.drop_drop]
  rw [this, hput_drop4]
  exact List.drop_left' (by simp [beB_length])
theorem beNum_front (n x : Nat) (l : List UInt8) (h : x < 256 ^ n) : beNum ((beB n x ++ l).take n) = x := by
  rw [List.take_left' (by simp [beB_length]), beNum_beB _ _ h]
theorem hput_len (f t g : Nat) (v : List UInt8) : (hput f t g v).length = 12 + v.length := by rw [hput, hbytes_length]
theorem hput_ok (f t g : Nat) (v : List UInt8) (hf : f < 65536) (ht : t < 65536) (hg : g < 4294967296) : beNum ((hput f t g v).take 2) = f ∧ beNum (((hput f t g v).drop 2).take 2) = t ∧ beNum (((hput f t g v).drop 4).take 4) = g ∧ beNum (((hput f t g v).drop 8).take 4) = headSum (hput f t g v) ∧ (hput f t g v).drop 12 = v := by
  refine ⟨hput_take2 f t g v hf, ?_, ?_, ?_, ?_⟩
  · rw [hput_drop2]; exact beNum_front _ _ _ (by simpa using ht)
  · rw [hput_drop4]; exact beNum_front _ _ _ (by simpa using hg)
  · rw [hput_drop8, beNum_front _ _ _ (by have : Crc.sum (hbytes f t g 0 v) < 4294967296 := Crc.more_lt _ _; simpa using this), hput, headSum_hbytes]
  · rw [hput, hbytes_drop]
end Go.Proofs.Ytjpegoigipbmiaa
namespace Go.Proofs.Ytjpegoigipbmiaa
def tot (l : List Thing) : Nat := (l.map fun x => up4 (x.2.2.length + 4)).sum
theorem tot_cons (x : Thing) (l : List Thing) : tot (x :: l) = up4 (x.2.2.length + 4) + tot l := rfl
theorem parse_total {chunk : Bool} : ∀ (n : Nat) (z : List UInt8), z.length ≤ n → tot (parse chunk z).1 ≤ z.length := by
  intro n
  induction n with
  | zero =>
    intro z hz
    obtain rfl : z = [] := List.eq_nil_of_length_eq_zero (by omega)
    rw [parse_nil]; exact Nat.zero_le _
  | succ n ih =>
    intro z hz
    by_cases h0 : z = []
    · rw [h0, parse_nil]; exact Nat.zero_le _
    by_cases hW : Whole z
    · rw [parse_some hW, tot_cons, thing_len hW]
      have h2 := hW.2.1
      have h3 := hW.2.2.1
      have h4 := up4_le (tN z)
      have := ih (z.drop (up4 (tN z))) (by rw [List.length_drop]; omega)
      rw [List.length_drop] at this
      rw [show tN z - 4 + 4 = tN z by omega]
      omega
    · rw [parse_none h0 hW]; exact Nat.zero_le _
def cD (D : List UInt8) : Nat := if D.length = 0 then 0 else up4 (D.length + 4)
theorem pgo_total (kind : Nat) (well : Bool) (l : List Thing) (A : List Nat) (D : List UInt8) (n : Nat) (hD : n = 0 → D = []) (r : List Nat × List UInt8) (h : pgo kind well l A D n = some r) : 8 * r.1.length + cD r.2 ≤ 8 * A.length + cD D + tot l := by
  induction l generalizing A D n with
  | nil =>
    simp only [pgo] at h
    split at h
    · cases h; simp
    · cases h
  | cons x l ih =>
    obtain ⟨k, f, z⟩ := x
    rw [tot_cons]
    simp only [pgo] at h
    split at h
    · split at h
      · rename_i hz
        have := ih _ _ _ hD h
        simp only [List.length_append, List.length_cons, List.length_nil] at this
        rw [hz.1]
        have : up4 (4 + 4) = 8 := rfl
        omega
      · cases h
    · split at h
      · split at h
        · cases h
        · rename_i hk
          have := ih _ _ _ (fun e => by omega) h
          have hn : n = 0 := by omega
          rw [hD hn]
          have e1 : cD z = up4 (z.length + 4) := if_neg (by omega)
          have e2 : cD [] = 0 := rfl
          simp only
          omega
      · split at h
        · cases h; simp only; omega
        · have := ih _ _ _ hD h
          simp only; omega
theorem tk_val {H : AHeap} {c : Ck} {d : CD} {k f : Nat} {z : List UInt8} (ok : COk H c d) (h : tkP k f z = some (pcOf c d)) (hz : z.length ≤ 60000) : ∃ y, cval c d = some y ∧ y.length ≤ z.length ∧ may c d.gaps = true ∧ c.k = k ∧ c.f = f := by
  obtain ⟨e1, e2, e3, hm, e4⟩ := put_tk ok h
  by_cases hk : k = 1 ∨ k = 2
  · obtain ⟨hs, m1, m2, m3, m4⟩ := may_clean hm
    have h0 := h
    unfold tkP at h
    rw [if_neg (by omega)] at h
    obtain ⟨h1, -⟩ := Option.filter_eq_some_iff.1 h
    have key : 16 ≤ z.length ∧ 8 * d.addrs.length + cD d.data ≤ z.length - 16 := by
      have hp := parse_total (chunk := false) _ (z.drop 16) (Nat.le_refl _)
      rw [List.length_drop] at hp
      rcases hk with rfl | rfl
      all_goals
        simp only [rawP] at h1
        split at h1
        case isFalse => cases h1
        obtain ⟨r, hr, he⟩ := Option.map_eq_some_iff.1 h1
        have := pgo_total _ _ _ [] [] 0 (fun _ => rfl) r hr
        have ea : r.1 = d.addrs := congrArg PC.addrs he
        have ed : r.2 = d.data := congrArg PC.data he
        rw [ea, ed] at this
        have e0 : cD ([] : List UInt8) = 0 := rfl
        simp only [List.length_nil] at this
        exact ⟨by assumption, by omega⟩
    obtain ⟨hz16, hkey⟩ := key
    have hi : (initB c d).length = 16 + 8 * d.addrs.length := by
      simp only [initB, List.length_append, beB_length, addrsB_len]; omega
    rcases hk with rfl | rfl
    · refine ⟨initB c d, by simp only [cval, e1], by omega, hm, e1, e2⟩
    · have hd0 : d.data.length ≠ 0 := by rw [ok.dl]; intro e; exact m4 ⟨.inr e1, e⟩
      have hc : cD d.data = up4 (d.data.length + 4) := if_neg hd0
      have hu := up4_le (d.data.length + 4)
      refine ⟨initB c d ++ pB 7 d.data, by simp only [cval, e1]; rw [if_pos (by omega)], ?_, hm, e1, e2⟩
      have : (pB 7 d.data).length = up4 (d.data.length + 4) := by
        unfold pB; rw [if_pos (by omega), tlvB_length]; rfl
      rw [List.length_append]; omega
  · exact ⟨z, e4 (fun e => hk (.inl e)) (fun e => hk (.inr e)), Nat.le_refl _, hm, e1, e2⟩
theorem cbytes_of {c : Ck} {d : CD} {x : List UInt8} (hm : may c d.gaps = true) (hx : cval c d = some x) (hl : x.length ≤ 65531) : cbytes (c, d) = .ok (tb true (c.k, c.f, x)) := by
  unfold cbytes
  rw [if_pos hm]
  simp only [hx, if_pos hl]
  rfl
theorem tbs_cons (x : Thing) (l : List Thing) : tbs true (x :: l) = tb true x ++ tbs true l := rfl
theorem tbs_tot (l : List Thing) : (tbs true l).length = tot l := by
  induction l with
  | nil => rfl
  | cons x l ih => rw [tbs_cons, List.length_append, ih, tb_len, tot_cons]
theorem goP_back {H : AHeap} : ∀ (its : List Thing) (wl : Bool) (acc pl : List PC), goP its wl acc = .ok pl → (∀ x ∈ its, x.2.2.length ≤ 60000) → ∃ new : List PC, pl = acc ++ new ∧ ∀ l : List CP, (∀ x ∈ l, COk H x.1 x.2) → pcs l = new → ∃ ts, bodyP l = .ok (tbs true ts) ∧ (∀ x ∈ ts, Puts true x) ∧ (∀ acc2, goP ts true acc2 = .ok (acc2 ++ new)) ∧ tot ts ≤ tot its := by
  intro its
  induction its with
  | nil =>
    intro wl acc pl h hs
    simp only [goP] at h
    split at h
    · cases h
      refine ⟨[], by simp, fun l ho e => ?_⟩
      cases l with
      | nil => exact ⟨[], rfl, (fun x hx => by cases hx), fun acc2 => by simp [goP], Nat.le_refl _⟩
      | cons x l => cases e
    · cases h
  | cons x its ih =>
    intro wl acc pl h hs
    simp only [goP] at h
    split at h
    · cases h
      refine ⟨[], by simp, fun l ho e => ?_⟩
      cases l with
      | nil => exact ⟨[], rfl, (fun x hx => by cases hx), fun acc2 => by simp [goP], Nat.zero_le _⟩
      | cons x l => cases e
    · rename_i hE
      split at h
      · cases h
      · rename_i q hq
        obtain ⟨new, rfl, hn⟩ := ih wl (acc ++ [q]) pl h (fun y hy => hs y (List.mem_cons_of_mem _ hy))
        refine ⟨q :: new, by simp, fun l ho e => ?_⟩
        cases l with
        | nil => cases e
        | cons y l =>
          obtain ⟨c, d⟩ := y
          simp only [pcs, List.map_cons, List.cons.injEq] at e
          obtain ⟨e1, e2⟩ := e
          obtain ⟨ts, t1, t2, t3, t4⟩ := hn l (fun y hy => ho y (List.mem_cons_of_mem _ hy)) e2
          have okc : COk H c d := ho (c, d) (List.mem_cons_self ..)
          rw [← e1] at hq
          have hlx := hs x (List.mem_cons_self ..)
          obtain ⟨v, v1, v2, v3, v4, v5⟩ := tk_val okc hq hlx
          have hc := cbytes_of v3 v1 (by omega)
          refine ⟨(c.k, c.f, v) :: ts, ?_, ?_, ?_, ?_⟩
          · simp only [bodyP, hc, t1]; rfl
          · intro w hw
            rcases List.mem_cons.1 hw with rfl | hw
            · exact ⟨by have := okc.k; show c.k < 65536; omega, okc.f, fun _ => by have := okc.k; show c.k ≤ 255; omega, (fun e => by cases e), by show v.length ≤ 65531; omega⟩
            · exact t2 w hw
          · intro acc2
            have hk' : endsB c.k = false := by rw [v4]; simpa using hE
            simp only [goP, hk', Bool.false_eq_true, if_false, tk_put okc v3 v1]
            rw [t3, e1]; simp
          · rw [tot_cons, tot_cons]
            have : up4 (v.length + 4) ≤ up4 (x.2.2.length + 4) := by unfold up4; omega
            simp only at this ⊢
            omega
theorem htk_put {f t g : Nat} {z : List UInt8} (hf : f < 65536) (ht : t < 65536) (hg : g < 4294967296) (hl : z.length ≤ 1488) (h4 : z.length % 4 = 0) : htk (hput f t g z) = .ok (f, t, g) ∧ (hput f t g z).drop 12 = z := by
  obtain ⟨h1, h2, h3, h5, h6⟩ := hput_ok f t g z hf ht hg
  have hn := hput_len f t g z
  refine ⟨?_, h6⟩
  unfold htk
  rw [if_neg (by omega), if_neg (by omega), if_neg (by omega), if_neg (by rw [h5]; simp), h1, h2, h3]
theorem take6_put {H : AHeap} {zs : List UInt8} {f t g : Nat} {l : List CP} (h : take6 zs = .ok (f, t, g, pcs l)) (ho : ∀ x ∈ l, COk H x.1 x.2) : ∃ z, bodyP l = .ok z ∧ 12 + z.length ≤ zs.length ∧ z.length ≤ 1488 ∧ pmay g l = true ∧ take6 (hput f t g z) = .ok (f, t, g, pcs l) ∧ f < 65536 ∧ t < 65536 ∧ g < 4294967296 := by
  obtain ⟨h1, h2, h3⟩ := take6_ok h
  obtain ⟨b1, b2, b3, -, -, -, -, b4, b5, b6⟩ := htk_ok h1
  obtain ⟨new, e1, e2⟩ := goP_back (H := H) _ _ _ _ h2 (fun x hx => by have := (parse_kind _ _ (Nat.le_refl _) x hx).2.2; rw [List.length_drop] at this; omega)
  rw [List.nil_append] at e1
  obtain ⟨ts, t1, t2, t3, t4⟩ := e2 l ho e1
  have hp := parse_total (chunk := true) _ (zs.drop 12) (Nat.le_refl _)
  rw [List.length_drop] at hp
  have hz := tbs_tot ts
  have h4 : (tbs true ts).length % 4 = 0 := by
    clear t1 t2 t3 t4 hz
    induction ts with
    | nil => rfl
    | cons x ts ih => rw [tbs_cons, List.length_append, tb_len]; unfold up4; omega
  obtain ⟨k1, k2⟩ := htk_put b4 b5 b6 (show (tbs true ts).length ≤ 1488 by omega) h4
  refine ⟨tbs true ts, t1, by omega, by omega, by rw [pmay_k]; exact h3, ?_, b4, b5, b6⟩
  have hpt := parse_tbs (chunk := true) ts t2 []
  rw [List.append_nil, parse_nil, List.append_nil] at hpt
  unfold take6
  rw [k1]
  simp only
  rw [k2, hpt]
  simp only
  rw [t3, ← e1]
  simp only [List.nil_append]
  rw [if_pos h3]
end Go.Proofs.Ytjpegoigipbmiaa
namespace Go.Proofs.Ytjpegoigipbmiaa
theorem KS.nil (h : AHeap) : KS h none 0 0 [] := ⟨rfl, Rv.nil, fun x hx => by cases hx⟩
theorem takeP_cases {h' : AHeap} {v : Value} {zs : List UInt8} (t : TakeP h' v (take6 zs)) (hl : zs.length ≤ 1000000) : ∃ (f p g : Nat) (a : Option Addr) (n cap : Nat) (l : List CP) (e : Nat), v = .tuple #[pkV f p g a n cap, .int .i64 e] ∧ KS h' a n cap l ∧ n ≤ 400 ∧ (∀ x ∈ l, SB x.1 ∧ x.1.D.n ≤ 1000000 ∧ x.1.C.n ≤ 1000000) ∧ ((e = 0 ∧ take6 zs = .ok (f, p, g, pcs l)) ∨ (e ≠ 0 ∧ take6 zs = .error e ∧ f = 0 ∧ p = 0 ∧ g = 0 ∧ l = [] ∧ a = none ∧ n = 0 ∧ cap = 0)) := by
  cases he : take6 zs with
  | error e =>
    rw [he] at t
    exact ⟨0, 0, 0, none, 0, 0, [], e, t, KS.nil _, Nat.zero_le _, fun x hx => (by cases hx), .inr ⟨take6_err he, rfl, rfl, rfl, rfl, rfl, rfl, rfl, rfl⟩⟩
  | ok r =>
    obtain ⟨f, p, g, pl⟩ := r
    rw [he] at t
    obtain ⟨a, n, cap, l, rfl, ks, rfl⟩ := t
    exact ⟨f, p, g, a, n, cap, l, 0, rfl, ks, by have := take6_len he; rw [pcs_len, ks.len] at this; exact this, take6_sb he hl ks.ok rfl, .inl ⟨rfl, rfl⟩⟩
end Go.Proofs.Ytjpegoigipbmiaa
namespace Go.Proofs.Ytjpegoigipbmiaa
set_option maxRecDepth 100000
attribute [local irreducible] Go GoR GoL
set_option maxHeartbeats 8000000 in
theorem pktTaken_spec (a : Option Addr) (cap : Nat) (zs : List UInt8) (hcap : cap ≤ maxLen) (h : AHeap) (hz : Rv Try.prog h 1 a zs.length cap (zs.map bv)) : CallS Try.prog [] 7 [.slice a zs.length cap] h fun v h' => v = .bool true := by
  have hle := hz.le
  simp only [maxLen] at hcap
  obtain ⟨n, hlen⟩ : ∃ n, n = zs.length := ⟨_, rfl⟩
  rw [← hlen] at hz hle ⊢
  (refine CallS.of1 Try.func7 rfl Try.ntmps7 Try.results7 rfl ?_)
  (refine Go.run (g:=?_))
  refine GoR.call rfl rfl rfl rfl rfl rfl rfl (((known06 _).args (by first | rfl | (simp; fail_if_success focus skip) | (simp; omega) | (congr 2; omega))).mono ?_)
  rintro _ h3' ⟨rfl, rfl⟩ -
  rcases Nat.lt_or_ge 5000 n with q | q
  · (refine Go.run (g:=?_))
    (first|refine Go.finT (by first|exact .inr rfl|exact .inl rfl) rfl ?_|refine Go.fin1 (by first|exact .inr rfl|exact .inl rfl) rfl (hq:=?_))
    rfl
  have ptk := ptake_spec a cap zs (by omega) _ (by rw [← hlen]; exact hz)
  rw [← hlen] at ptk
  (refine Go.run (g:=?_))
  refine GoR.call rfl rfl rfl rfl rfl rfl rfl (((ptk).args (by first | rfl | (simp; fail_if_success focus skip) | (simp; omega) | (congr 2; omega))).mono ?_)
  intro v4 h4 hv4 s4
  have n4 := s4.1
  obtain ⟨f, p, g, b, m, c, l, e, rfl, ks, hm, hb, hc⟩ := takeP_cases hv4 (by omega)
  clear hv4 ptk
  (refine Go.run (g:=?_))
  refine Go.name ?_
  intro h5 e5
  have s5 : Same h4 h5 := by subst e5; exact ((Same.refl h4).push _).put (Nat.le_refl _) _
  have n5 : h5.n = h4.n + 1 := by subst e5; rfl
  have g5 : h5.get h4.n = some (.cells [.int .u16 f, .int .u16 p, .int .u32 g, .slice b m c] 28) := by subst e5; exact AHeap.get_put_same _ (by simp) _
  clear e5
  rcases hc with ⟨rfl, hk⟩ | ⟨he, -, rfl, rfl, rfl, rfl, rfl, rfl, rfl⟩
  case inr =>
    have he' : ¬ (e : Int) = 0 := by omega
    (refine Go.run (g:=?_))
    (first|refine Go.finT (by first|exact .inr rfl|exact .inl rfl) rfl ?_|refine Go.fin1 (by first|exact .inr rfl|exact .inl rfl) rfl (hq:=?_))
    simp [retV]
  obtain ⟨z, z1, z2, z3, z4, z5, z6, z7, z8⟩ := take6_put hk ks.ok
  have yl := hput_len f p g z
  (refine Go.run (g:=?_))
  refine GoR.call rfl rfl rfl rfl rfl rfl rfl (((pput_spec f p g z6 z7 z8 b m c l _ (ks.same s5) (by omega) (fun x hx => by have := hb x hx; omega)).args (by first | rfl | (simp; fail_if_success focus skip) | (simp; omega) | (congr 2; omega))).mono ?_)
  intro v6 h6 hv6 s6
  have n6 := s6.1
  have g6 := s6.get g5
  unfold PktR at hv6
  rw [if_pos z4, z1] at hv6
  simp only at hv6
  rw [if_neg (by omega)] at hv6
  obtain ⟨b6, c6, rfl, sv6, o6⟩ := hv6
  generalize hput f p g z = y at *
  have yle : y.length ≤ n := by omega
  have r6 := sv6.rv (P := Try.prog)
  (refine Go.run (g:=?_))
  refine GoR.call rfl rfl rfl rfl rfl rfl rfl (((pmay_spec f p g b m c l _ ((ks.same s5).same s6) (by omega)).args (by first | rfl | (simp; fail_if_success focus skip) | (simp; omega) | (congr 2; omega))).mono ?_)
  rintro _ h7 rfl s7
  have n7 := s7.1
  have g7 := s7.get g6
  rw [z4]
  (refine Go.run (g:=?_))
  refine GoR.call rfl rfl rfl rfl rfl rfl rfl (((ptake_spec b6 c6 y (by omega) _ (r6.same s7)).args (by first | rfl | (simp; fail_if_success focus skip) | (simp; omega) | (congr 2; omega))).mono ?_)
  intro v8 h8 hv8 s8
  have n8 := s8.1
  have g8 := s8.get g7
  rw [z5] at hv8
  obtain ⟨a', n', cap', l', rfl, ks', hpc⟩ := hv8
  (refine Go.run (g:=?_))
  refine GoR.name ?_
  intro h9 e9
  have s9 : Same h8 h9 := by subst e9; exact ((Same.refl h8).push _).put (Nat.le_refl _) _
  have g9 := s9.get g8
  have gq : h9.get h8.n = some (.cells [.int .u16 f, .int .u16 p, .int .u32 g, .slice a' n' cap'] 28) := by subst e9; exact AHeap.get_put_same _ (by simp) _
  clear e9
  (refine Go.run (g:=?_))
  refine GoR.call rfl rfl rfl rfl rfl rfl rfl (((same6_spec f p g b a' m c n' cap' l l' _ (((((ks.same s5).same s6).same s7).same s8).same s9) (ks'.same s9) hpc.symm (by omega) (fun x hx => (hb x hx).1)).args (by first | rfl | (simp; fail_if_success focus skip) | (simp; omega) | (congr 2; omega))).mono ?_)
  rintro _ h10 rfl s10
  (refine Go.run (g:=?_))
  (first|refine Go.finT (by first|exact .inr rfl|exact .inl rfl) rfl ?_|refine Go.fin1 (by first|exact .inr rfl|exact .inl rfl) rfl (hq:=?_))
  simp [retV]
end Go.Proofs.Ytjpegoigipbmiaa
namespace Go.Proofs.Ytjpegoigipbmiaa
set_option maxRecDepth 100000
theorem hu8 : Try.prog.underlying 5 = some (.int .u8) := by kernel_rfl
theorem hbytesU : Try.prog.underlying 31 = some (.slice 5) := by kernel_rfl
theorem plainBytes : plainB Try.prog 3 31 = true := by kernel_rfl
theorem imp_bytes {H : Type} {enc : TypeId × Value → H} {W : World} {m : Mp} {h : AHeap} {base : Nat} {v : Value} {d : DataW H} {ps : List MemPlace} (o : Value.okWide Try.prog W .any base 31 v) (ht : DataW.Trod enc Try.prog W 0 (fun _ => true) true 31 v d ps) (I : Im Try.prog W m h) :
    ∃ m' h', Im Try.prog W m' h' ∧ m.le m' ∧ Same h h' ∧ ∃ (a : Option Addr) (cap : Nat) (zs : List UInt8), VRel m' (.slice a zs.length cap) v ∧ Rv Try.prog h' 1 a zs.length cap (zs.map bv) ∧ cap ≤ maxLen := by
  obtain ⟨a0, l0, c0, rfl⟩ := WideShapes.okWide_slice hbytesU o
  obtain ⟨m', h', cs, I', hm, hs, hA, hR, hl⟩ := imp_val plainBytes ht I
  obtain ⟨x, rfl, hv⟩ := vrel_one hA (by rw [hl]; kernel_rfl) rfl
  obtain ⟨a, cap, zs, e, hz, hc⟩ := hR.bytes hbytesU hu8 (by kernel_rfl)
  cases e
  exact ⟨m', h', I', hm, hs, a, cap, zs, hv, hz, hc⟩
end Go.Proofs.Ytjpegoigipbmiaa
namespace Go.Proofs.Ytjpegoigipbmiaa
open Go.ChangeShapes Go.WideShapes Go.ChangeAt Go.RowKit
set_option maxRecDepth 100000
theorem pktTakenWalk {H : Type} {enc : TypeId × Value → H} {base : Nat} {d0 : DataW H} {p0 : List MemPlace} (v0 : Value) (W : World) (o0 : Value.okWide Try.prog W .any base 31 v0) (h0 : DataW.Trod enc Try.prog W 0 (fun _ => true) true 31 v0 d0 p0) : Calls Try.prog 7 #[v0] W fun e w' => e = .returned (.bool true) ∧ Below W.heap.size W w' := by
  obtain ⟨m, h, I, _, _, a, cap, zs, hv, hz, hc⟩ := imp_bytes o0 h0 (Im.empty Try.prog W)
  exact calls_imp noGlobals I rfl (pktTaken_spec a cap zs hc h hz) (ARel.single hv)
end Go.Proofs.Ytjpegoigipbmiaa