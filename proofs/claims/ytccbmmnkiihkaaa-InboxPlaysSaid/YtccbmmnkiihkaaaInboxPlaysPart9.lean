/- What the law leans on, part 9. No conditions. -/
import Derived.KernelRfl
import Derived.ProofKit
import Derived.OpenShut
import Derived.ChangeOld
import Derived.Test.YtccbmmnkiihkaaaInboxPlaysPart8
set_option linter.unusedVariables false
set_option linter.unusedSimpArgs false
namespace Go.Proofs.Ytccbmmnkiihkaaa
set_option maxRecDepth 100000
attribute [local irreducible] Go GoR GoL
theorem sub32at (f k : Nat) (hf : f < 4294967296) (hk : k < 4294967296) : iBin .sub .u32 (f : Int) (k : Int) = some (.int .u32 ((sub32n f k : Nat) : Int)) := by
 have e : ((sub32n f k : Nat) : Int) = ((f : Int) - (k : Int)) % 4294967296 := by unfold sub32n; omega
 simp [iBin, IntKind.wrap, IntKind.bits, IntKind.signed, e]
structure RJ (h : AHeap) (jb : Nat) (l : List PV) (a : Option Addr) (cap n0 : Nat) : Prop where
 jc : h.get jb = some (.cells [.slice a l.length cap] 86)
 lv : Sv h 33 6 a l.length cap (pcs l)
 dv : ∀ q ∈ l, Rv Try.prog h 1 q.a q.z.length q.cap (q.z.map bv)
 db : ∀ q ∈ l, ∀ i ∈ blk q.a, i < n0
 pb : ∀ q ∈ l, PB q
 ow : n0 ≤ jb ∧ Own n0 a
theorem RJ.same {h h' : AHeap} {jb : Nat} {l : List PV} {a : Option Addr} {cap n0 : Nat} (k : RJ h jb l a cap n0) (s : Same h h') : RJ h' jb l a cap n0 := { k with jc := s.get k.jc, lv := k.lv.same s, dv := fun q hq => (k.dv q hq).same s }
theorem RJ.kept {h h' : AHeap} {jb : Nat} {l : List PV} {a : Option Addr} {cap n0 : Nat} {wr : List Nat} (k : RJ h jb l a cap n0) (kk : Keeps wr h h') (hj : jb ∉ wr) (ha : ∀ i ∈ blk a, i ∉ wr) (hd : ∀ i ∈ wr, n0 ≤ i) : RJ h' jb l a cap n0 := { k with jc := kk.get k.jc hj, lv := k.lv.keeps kk ha, dv := fun q hq => (k.dv q hq).keeps kk (fun i hi hw => by have := k.db q hq i hi; have := hd i hw; omega) }
theorem RJ.out {h : AHeap} {jb : Nat} {l : List PV} {a : Option Addr} {cap n0 : Nat} (k : RJ h jb l a cap n0) : jb ∉ blk a := sv_out k.lv k.jc (fun c e => by cases e)
def PutR (h' : AHeap) (n ssn : Nat) (v : Value) : Option MS → Prop
 | none => v = .tuple #[.agg #[.int .u16 0, .bool false, .int .u32 0, .slice none 0 0], .int .u16 0, .bool false]
 | some m => ∃ ma mc, v = .tuple #[.agg #[.int .u16 (m.1 : Nat), .bool m.2.1, .int .u32 (m.2.2.1 : Nat), .slice ma m.2.2.2.length mc], .int .u16 (ssn : Nat), .bool true] ∧ Sv h' 5 1 ma m.2.2.2.length mc (m.2.2.2.map bv) ∧ Own n ma
theorem gatS_held (L : List PV) (D : List UInt8) (t : Nat) : ∀ i, (gatS L D t i).1.length + heldN (gatS L D t i).2 = D.length + heldN L
 | 0 => rfl
 | i + 1 => by
  have := held_del (gatS L D t i).2 (at32 t i)
  have ih := gatS_held L D t i
  rw [gatS_succ]
  simp only [List.length_append]
  omega
theorem pdel_le : ∀ (l : List PV) (t : Nat), (pdel l t).length ≤ l.length
 | [], t => Nat.le_refl _
 | x :: l, t => by
  unfold pdel
  split
  · simp
  ·
   have := pdel_le l t
   simp only [List.length_cons]; omega
theorem pcs_all (l : List PV) : (pcs l).all Value.oneCell' = true := by
 rw [List.all_eq_true]
 intro x hx
 obtain ⟨c, hc, hx⟩ := List.mem_flatten.1 hx
 obtain ⟨p, -, rfl⟩ := List.mem_map.1 hc
 simp only [pC, List.mem_cons, List.not_mem_nil, or_false] at hx
 rcases hx with rfl | rfl | rfl | rfl | rfl | rfl <;> rfl
theorem all_sub {l k : List Value} (h : l.all Value.oneCell' = true) (hs : ∀ x ∈ k, x ∈ l) : k.all Value.oneCell' = true := by
 rw [List.all_eq_true] at h ⊢
 exact fun x hx => h x (hs x hx)
theorem pcs_take : ∀ (l : List PV) (i : Nat), (pcs l).take (i * 6) = pcs (l.take i)
 | [], i => by simp [pcs]
 | x :: l, 0 => rfl
 | x :: l, i + 1 => by
  rw [show (i + 1) * 6 = i * 6 + 1 + 1 + 1 + 1 + 1 + 1 by omega]
  have := pcs_take l i
  simp only [pcs, pC, List.map_cons, List.flatten_cons, List.cons_append, List.nil_append, List.take_succ_cons] at this ⊢
  rw [this]
theorem pcs_drop : ∀ (l : List PV) (i : Nat), (pcs l).drop (i * 6) = pcs (l.drop i)
 | [], i => by simp [pcs]
 | x :: l, 0 => rfl
 | x :: l, i + 1 => by
  rw [show (i + 1) * 6 = i * 6 + 1 + 1 + 1 + 1 + 1 + 1 by omega]
  exact pcs_drop l i
theorem pcs_app (l k : List PV) : pcs (l ++ k) = pcs l ++ pcs k := by simp [pcs]
set_option maxHeartbeats 64000000 in
theorem put9_spec (jb : Nat) (l : List PV) (a : Option Addr) (cap n0 : Nat) (p : PV) (pb : PB p) (hl : l.length ≤ 100000) (hh : heldN l + p.z.length ≤ 1000000000) (h : AHeap) (hn0 : n0 ≤ h.n) (J : RJ h jb l a cap n0) (hz : Rv Try.prog h 1 p.a p.z.length p.cap (p.z.map bv)) (hzb : ∀ i ∈ blk p.a, i < n0) : CallS Try.prog ([jb] ++ blk a) 43 [.pointer (some ⟨jb, 0, none⟩), pV p] h fun v h' => ∃ a' cap', RJ h' jb (putN l p).1 a' cap' n0 ∧ PutR h' h.n p.ssn v (putN l p).2 ∧ ∀ i ∈ blk a', i ∈ blk a ∨ h.n ≤ i := by
 have gj := J.jc
 have hlt := AHeap.lt gj
 have alt := J.lv.lt
 have pbp := pb
 obtain ⟨b1, b2, b3, b4', b5⟩ := pb
 (refine CallS.of2 Try.func43 rfl Try.ntmps43 Try.results43 rfl ?_)
 simp only [pV, pC]
 (refine Go.run (g:=?_))
 refine GoR.name ?_
 intro h1 e1
 have s1 : Same h h1 := by subst e1; exact ((Same.refl h).push _).push _
 have g3 : h1.get h.n = some (.cells [.int .u32 (p.t : Nat), .int .u8 (p.fl : Nat), .int .u16 (p.sid : Nat), .int .u16 (p.ssn : Nat), .int .u32 (p.ppid : Nat), .slice p.a p.z.length p.cap] 33) := by subst e1; exact hg_
 have g4 : h1.get (h.n + 1) = some (.cells [.int .u16 0, .bool false, .int .u32 0, .slice none 0 0] 39) := by subst e1; exact hg_
 have n1 : h1.n = h.n + 2 := by subst e1; rfl
 clear e1
 have J1 := J.same s1
 have gj1 := J1.jc
 clear gj
 simp only [AHeap.n_push]
 refine GoR.call rfl rfl rfl rfl rfl rfl rfl (((find9_spec jb l a cap p.t b1 (by omega) _ J1.jc J1.lv.rv).argA).mono ?_)
 rintro _ h2 ⟨rfl, hv⟩ -
 rcases hv with ⟨rfl, hno⟩ | ⟨i, i0, rfl, hpf, -⟩
 case inr =>
  (refine Go.run (g:=?_))
  refine Go.name ?_
  intro h3 e3
  have s3 : Same h h3 := by subst e3; exact s1.put (by omega) _
  have g43 : h3.get (h.n + 1) = some (.cells [.int .u16 0, .bool false, .int .u32 0, .slice none 0 0] 39) := by subst e3; exact get_put_self g4
  clear e3
  have J3 := J.same s3
  have hput : putN l p = (l, none) := by unfold putN; rw [hpf]
  refine Go.fin (by first|exact .inr rfl|exact .inl rfl) (.cellN rfl inferInstance hg_ (by first | exact Nat.le_refl _ | (simp; omega)) rfl (.tmp rfl (.tmp rfl .nil))) ?_
  refine ⟨a, cap, ?_, ?_, fun i hi => .inl hi⟩
  · rw [hput]; exact J3
  · rw [hput]; rfl
 refine Go.runN (g:=?_)
 refine Go.kk 2 rfl ?_
 refine Go.loud (by kernel_rfl) rfl ?_
 (refine Go.runL (g:=?_))
 refine GoL.buildRo (c := pC p) rfl rfl rfl rfl rfl (by decide) (by rfl) (by rfl) ?_
 intro b3 h3 hb3 rb3 ob3 s3 n3
 have m3 := s3.1
 have J3 := J1.same s3
 have xr := J.out
 refine GoL.appendV rfl rfl rfl rfl rfl rfl J3.lv hb3 (fun i hi => .inl (by simp [hi])) (by omega) (by omega) (by rfl) ?_
 intro b4 c4 h4 rd4 wr4 hwr4 hrd4 sv4 k4 o4
 have m4 := k4.1
 have gj4 := k4.get J3.jc xr
 have hdis : ∀ b ∈ wr4, b ≠ h.n ∧ b ≠ jb := fun b hb => by
  have q := hwr4 b hb
  have := alt b q
  exact ⟨by omega, fun e => xr (by rw [← e]; exact q)⟩
 have hdis2 := hdis
 (refine Go.runL (g:=?_))
 refine GoL.st (g:=?_)
 (refine Go.runL (g:=?_))
 refine GoL.endC (g:=?_)
 clear hdis hdis2
 refine Go.name ?_
 intro h5 e5
 have k5 : Keeps [jb] h4 h5 := by subst e5; exact (Keeps.rf _ _).pt (.inl (by simp)) _
 have gj5 : h5.get jb = some (.cells [.slice b4 (l.length + 1) c4] 86) := by subst e5; exact get_put_self gj4
 clear e5
 have m5 := k5.1
 have hLl : (l ++ [p]).length = l.length + 1 := by simp
 have nb : ∀ i, i < n0 → i ∉ blk a ∧ i ≠ jb := fun i hi => ⟨fun q => by have := J.ow.2 i q; omega, fun e => by have := J.ow.1; omega⟩
 have ob4 : ∀ i ∈ blk b4, i ∈ blk a ∨ h.n ≤ i := fun i hi => (o4 i hi).imp id (fun q => by omega)
 have jb4 : jb ∉ blk b4 := fun q => by
  rcases o4 jb q with z | z
  · exact xr z
  · omega
 have dk : ∀ {a' : Option Addr} {len cap' : Nat} {cs : List Value}, Rv Try.prog h 1 a' len cap' cs → (∀ i ∈ blk a', i < n0) → Rv Try.prog h5 1 a' len cap' cs := fun d hb => ((((d.same s1).same s3).keeps k4 (fun i hi => (nb i (hb i hi)).1)).keeps k5 (fun i hi => by simp only [List.mem_singleton]; exact (nb i (hb i hi)).2))
 have J5 : RJ h5 jb (l ++ [p]) b4 c4 n0 := ⟨by rw [hLl]; exact gj5, by
  rw [hLl, pcs_snoc]
  exact sv4.keeps k5 (fun i hi => by simp only [List.mem_singleton]; exact fun e => jb4 (by rw [← e]; exact hi)), fun q hq => by
  rcases List.mem_append.1 hq with z | z
  · exact dk (J.dv q z) (J.db q z)
  · rw [List.mem_singleton.1 z]; exact dk hz hzb, fun q hq => by
  rcases List.mem_append.1 hq with z | z
  · exact J.db q z
  · rw [List.mem_singleton.1 z]; exact hzb, fun q hq => by
  rcases List.mem_append.1 hq with z | z
  · exact J.pb q z
  · rw [List.mem_singleton.1 z]; exact pbp, J.ow.1, fun i hi => by
  rcases ob4 i hi with z | z
  · exact J.ow.2 i z
  · omega⟩
 have g35 := k5.get (k4.get (s3.get g3) (fun q => by have := alt _ q; omega)) (by simp; omega)
 have g45 := k5.get (k4.get (s3.get g4) (fun q => by have := alt _ q; omega)) (by simp; omega)
 obtain ⟨L, hLe⟩ : ∃ L, L = l ++ [p] := ⟨_, rfl⟩
 rw [← hLe] at hLl J5
 rw [← hLl] at gj5
 have hLm : L.length ≤ 100001 := by omega
 (refine Go.run (g:=?_))
 refine Go.loop (α := Nat × AHeap) (fun x => [(7, .int .i64 x.1), (0, .pointer (some ⟨jb, 0, none⟩)), (3, .pointer (some ⟨h.n, 0, none⟩)), (4, .pointer (some ⟨h.n + 1, 0, none⟩))]) (fun _ => []) (fun x => x.2) (fun x => 1 ≤ x.1 ∧ x.1 ≤ L.length + 1 ∧ Same h5 x.2 ∧ ∀ n back r, n < x.1 → back < n → rowN L (sub32n p.t back) n = some r → ¬ Whole r) (fun x => L.length + 1 - x.1) (1, h5) ⟨Nat.le_refl _, by simp only; omega, Same.refl _, fun n back r h1 h2 => by simp only at h1; omega⟩ ⟨rfl, rfl, rfl, rfl, trivial⟩ rfl rfl ?_
 rintro ⟨n, H⟩ ⟨hn1, hn2, sH, hno'⟩
 simp only at hn1 hn2 sH hno' ⊢
 have gjH := sH.get gj5
 rcases Nat.lt_or_ge L.length n with q | q
 ·
  have hput : putN l p = (L, none) := by
   rw [hLe]
   exact put_none b1 hno (by omega) (fun n' back r h1 h2 h3 => hno' n' back r (by omega) h2 (by rw [hLe]; exact h3))
  have g4H := sH.get g45
  have JH := J5.same sH
  (refine Go.run (g:=?_))
  refine Go.name ?_
  intro h9 e9
  have k9 : Keeps [h.n + 1] H h9 := by subst e9; exact (Keeps.rf _ _).pt (.inl (by simp)) _
  have g49 : h9.get (h.n + 1) = some (.cells [.int .u16 0, .bool false, .int .u32 0, .slice none 0 0] 39) := by subst e9; exact get_put_self g4H
  clear e9
  have J9 := JH.kept k9 (by simp; omega) (fun i hi hm => by
   simp only [List.mem_singleton] at hm
   rcases o4 i hi with z | z
   · have := alt i z; omega
   · omega) (fun i hi => by simp only [List.mem_singleton] at hi; omega)
  refine Go.fin (by first|exact .inr rfl|exact .inl rfl) (.cellN rfl inferInstance hg_ (by first | exact Nat.le_refl _ | (simp; omega)) rfl (.tmp rfl (.tmp rfl .nil))) ?_
  refine ⟨b4, c4, ?_, ?_, ob4⟩
  · rw [hput]; exact J9
  · rw [hput]; rfl
 (refine Go.run (g:=?_))
 refine Go.loop (α := Nat × AHeap) (fun x => [(8, .int .i64 x.1), (7, .int .i64 n), (0, .pointer (some ⟨jb, 0, none⟩)), (3, .pointer (some ⟨h.n, 0, none⟩)), (4, .pointer (some ⟨h.n + 1, 0, none⟩))]) (fun _ => []) (fun x => x.2) (fun x => x.1 ≤ n ∧ Same h5 x.2 ∧ ∀ back r, back < x.1 → rowN L (sub32n p.t back) n = some r → ¬ Whole r) (fun x => n - x.1) (0, H) ⟨Nat.zero_le _, sH, fun back r h1 => absurd h1 (Nat.not_lt_zero _)⟩ ⟨rfl, rfl, rfl, rfl, rfl, trivial⟩ rfl rfl ?_
 rintro ⟨bk, H6⟩ ⟨hbk, s6, hno6⟩
 simp only at hbk s6 hno6 ⊢
 rcases Nat.lt_or_ge bk n with q6 | q6
 case inr =>
  obtain rfl : bk = n := by omega
  (refine Go.run (g:=?_))
  exact Go.again (bk + 1, H6) ⟨by simp only; omega, by simp only; omega, s6, fun n' back r h1 h2 h3 => by
   rcases Nat.lt_or_ge n' bk with z | z
   · exact hno' n' back r z h2 h3
   ·
    obtain rfl : n' = bk := by simp only at h1; omega
    exact hno6 back r h2 h3⟩ (by simp only; omega) ⟨rfl, rfl, rfl, rfl, trivial⟩ rfl rfl
 have J6 := J5.same s6
 have g36 := s6.get g35
 have hs6 := sub32at p.t bk b1 (by omega)
 have hsl : sub32n p.t bk < 4294967296 := Nat.mod_lt _ (by decide)
 (refine Go.run (g:=?_))
 refine GoR.bin rfl rfl rfl rfl rfl rfl hs6 ?_
 (refine Go.run (g:=?_))
 refine GoR.call rfl rfl rfl rfl rfl rfl rfl (((row9_spec jb L b4 c4 (sub32n p.t bk) n hsl (by omega) (by omega) _ J6.jc J6.lv).argA).mono ?_)
 rintro v7 h7 hv7 s7
 have m6 := s6.1
 have s67 := s6.trans s7
 have hnext : (∀ r, rowN L (sub32n p.t bk) n = some r → ¬ Whole r) → ∀ back r, back < bk + 1 → rowN L (sub32n p.t back) n = some r → ¬ Whole r := fun e back r h1 h2 => by
  rcases Nat.lt_or_ge back bk with z | z
  · exact hno6 back r z h2
  ·
   obtain rfl : back = bk := by omega
   exact e r h2
 rcases hv7 with ⟨rfl, hrn⟩ | ⟨r, oa, oc, rfl, hrs, so, oown⟩
 ·
  (refine Go.run (g:=?_))
  exact Go.again (bk + 1, h7) ⟨q6, s67, hnext fun r e => by rw [hrn] at e; cases e⟩ (by simp only; omega) ⟨rfl, rfl, rfl, rfl, rfl, trivial⟩ rfl rfl
 obtain ⟨hrl, hrk⟩ := (rowN_iff _ _ _ _).1 hrs
 have hrpb : ∀ x ∈ r, PB x := fun x hx => by
  obtain ⟨i, hi, rfl⟩ := List.mem_iff_getElem.1 hx
  exact J5.pb _ (pf_mem (hrk i hi)).1
 (refine Go.run (g:=?_))
 refine GoR.call rfl rfl rfl rfl rfl rfl rfl (((whole9_spec r oa oc (by omega) hrpb _ so.rv).argA).mono ?_)
 rintro _ h8 ⟨w, rfl, hw⟩ s8
 have s68 := s67.trans s8
 cases w with
 | false =>
  (refine Go.run (g:=?_))
  exact Go.again (bk + 1, h8) ⟨q6, s68, hnext fun r' e => by
   rw [hrs] at e
   cases e
   exact fun z => absurd (hw.2 z) (by decide)⟩ (by simp only; omega) ⟨rfl, rfl, rfl, rfl, rfl, trivial⟩ rfl rfl
 | true =>
  have hW := hw.1 rfl
  have hp0 : 0 < r.length := hW.pos
  have hb1 : 0 * 6 < (pcs r).length := by rw [pcs_len]; omega
  have d1 := pcs_at hp0 (j := 1) (by decide)
  have d2 := pcs_at hp0 (j := 2) (by decide)
  have d3 := pcs_at hp0 (j := 3) (by decide)
  have d4 := pcs_at hp0 (j := 4) (by decide)
  obtain ⟨z, hz0, hzt, hzs, hput⟩ := put_whole b1 hno (by omega) q6 (by omega) (by rw [← hLe]; exact hrs) hW
  rw [← hLe] at hput
  have hzr : r[0] = z := by rw [List.getElem?_eq_getElem hp0] at hz0; exact Option.some.inj hz0
  have pbz := hrpb _ (List.getElem_mem hp0)
  rw [hzr] at d1 d2 d3 d4 pbz
  have d1 : (pcs r)[0 * 6 + 1]? = some (.int .u8 (z.fl : Nat)) := d1
  have d2 : (pcs r)[0 * 6 + 2]? = some (.int .u16 (z.sid : Nat)) := d2
  have d3 : (pcs r)[0 * 6 + 3]? = some (.int .u16 (z.ssn : Nat)) := d3
  have d4 : (pcs r)[0 * 6 + 4]? = some (.int .u32 (z.ppid : Nat)) := d4
  have so8 := so.same s8
  have m68 := s68.1
  refine Go.runN (g:=?_)
  refine Go.kk 2 rfl ?_
  refine Go.loud (by kernel_rfl) rfl ?_
  (refine Go.runL (g:=?_))
  refine GoL.call rfl rfl rfl rfl rfl rfl rfl (((bit9_spec z.fl 4 pbz.fl (by decide) (by decide) _).argA).mono ?_)
  rintro _ h9 ⟨rfl, rfl⟩ k9
  refine ⟨fun j hj => (by cases hj), ?_⟩
  (refine Go.runL (g:=?_))
  refine GoL.st (g:=?_)
  (refine Go.runL (g:=?_))
  refine GoL.endN (g:=?_)
  refine Go.name ?_
  intro h10 e10
  have s10 : Same h9 h10 := by subst e10; exact ((Same.refl h9).push _).put (Nat.le_refl _) _
  have g11 : h10.get h9.n = some (.cells [.int .u16 (z.sid : Nat), .bool (bitB z.fl 4), .int .u32 (z.ppid : Nat), .slice none 0 0] 39) := by subst e10; exact hg_
  have n10 : h10.n = h9.n + 1 := by subst e10; rfl
  clear e10
  have J10 := (J6.same s7).same (s8.trans s10)
  have g410 := (s68.trans s10).get g45
  have so10 := so8.same s10
  have m10 := s10.1
  have pcl : (pcs r).length = r.length * 6 := pcs_len r
  have hgl := gatS_held L [] z.t
  have hhL : heldN L ≤ 1000000000 := by rw [hLe, held_snoc]; exact hh
  clear gjH g36 J6 so so8 hno' hno6 hnext J1 J3 J5 dk s1 s3 k4 k5 s6 sH g3 g4
  (refine Go.run (g:=?_))
  refine Go.loop (α := Nat × Option Addr × Nat × Option Addr × Nat × AHeap) (fun x => [(12, .int .i64 x.1), (11, .pointer (some ⟨h9.n, 0, none⟩)), (9, .slice oa r.length oc), (7, .int .i64 n), (0, .pointer (some ⟨jb, 0, none⟩)), (4, .pointer (some ⟨h.n + 1, 0, none⟩))]) (fun _ => []) (fun x => x.2.2.2.2.2) (fun x => x.1 ≤ n ∧ x.2.2.2.2.2.get h9.n = some (.cells [.int .u16 (z.sid : Nat), .bool (bitB z.fl 4), .int .u32 (z.ppid : Nat), .slice x.2.1 (gatS L [] z.t x.1).1.length x.2.2.1] 39) ∧ Sv x.2.2.2.2.2 5 1 x.2.1 (gatS L [] z.t x.1).1.length x.2.2.1 ((gatS L [] z.t x.1).1.map bv) ∧ Own h9.n x.2.1 ∧ RJ x.2.2.2.2.2 jb (gatS L [] z.t x.1).2 x.2.2.2.1 x.2.2.2.2.1 n0 ∧ (∀ i ∈ blk x.2.2.2.1, i ∈ blk a ∨ h.n ≤ i) ∧ Sv x.2.2.2.2.2 33 6 oa r.length oc (pcs r) ∧ x.2.2.2.2.2.get (h.n + 1) = some (.cells [.int .u16 0, .bool false, .int .u32 0, .slice none 0 0] 39) ∧ h10.n ≤ x.2.2.2.2.2.n ∧ (gatS L [] z.t x.1).2.length ≤ L.length) (fun x => n - x.1) (0, none, 0, b4, c4, h10) ⟨Nat.zero_le _, g11, Sv.nil, Own.nil _, J10, ob4, so10, g410, Nat.le_refl _, Nat.le_refl _⟩ ⟨rfl, rfl, rfl, rfl, rfl, rfl, trivial⟩ rfl rfl ?_
  rintro ⟨i, ma, mc, a', cap', H⟩ ⟨hi, gm, sm, om, JH, obH, sr, g4H, nH, hll⟩
  simp only at hi gm sm om JH obH sr g4H nH hll ⊢
  rcases Nat.lt_or_ge i n with qi | qi
  case inr =>
   obtain rfl : i = n := by omega
   have hga := gat_S (i - 1) (t := z.t) L [] (by rw [hzt]; exact hsl)
   rw [show i - 1 + 1 = i by omega] at hga
   rw [hga] at hput
   generalize gatS L [] z.t i = X at *
   have sr0 := sr.rv (P := Try.prog)
   refine Go.runN (g:=?_)
   refine Go.kk 2 rfl ?_
   refine Go.loud (by kernel_rfl) rfl ?_
   (refine Go.runL (g:=?_))
   refine GoL.st (g:=?_)
   (refine Go.runL (g:=?_))
   have hoa : h.n + 1 ∉ blk oa := sv_out sr g4H (fun c e => by cases e)
   have hdis : ∀ b ∈ [h.n + 1], b ∉ blk oa := fun b hb => by simp only [List.mem_singleton] at hb; rw [hb]; exact hoa
   refine GoL.end_ (hl := by (simp only [List.nil_append, List.cons_append]); repeat (first | exact loudP.nil | refine loudP.none ?_ | refine loudP.new (fun _ hb => absurd hb List.not_mem_nil) ?_ | refine loudP.row (by repeat (first | exact loudRowP.nil | refine loudRowP.none ?_ | refine loudRowP.bef (by decide +kernel) ?_ | refine loudRowP.apart (by first | exact .inl rfl | exact .inr (by simp)) rfl (fun i hi => by first | (have hx := hdis _ hi; first | (simp [hx]; fail_if_success focus skip) | (simp [hx]; omega))) ?_)) ?_)) ?_
   refine Go.name ?_
   intro hA eA
   have kA : Keeps [h.n + 1] H hA := by subst eA; exact (Keeps.rf _ _).pt (.inl (by simp)) _
   have gA : hA.get (h.n + 1) = some (.cells [.int .u16 (z.sid : Nat), .bool (bitB z.fl 4), .int .u32 (z.ppid : Nat), .slice ma X.1.length mc] 39) := by subst eA; exact get_put_self g4H
   clear eA
   have JA := JH.kept kA (by simp; omega) (fun i hi hm => by
    simp only [List.mem_singleton] at hm
    rcases obH i hi with q | q
    · have := alt i q; omega
    · subst hm; exact sv_out JH.lv g4H (fun c e => by cases e) hi) (fun i hi => by simp only [List.mem_singleton] at hi; omega)
   have sA := sm.keeps kA (fun i hi => by have := om i hi; simp only [List.mem_singleton]; omega)
   (refine Go.run (g:=?_))
   refine Go.fin (by first|exact .inr rfl|exact .inl rfl) (.cellN rfl inferInstance hg_ (by first | exact Nat.le_refl _ | (simp; omega)) rfl (.tmp rfl (.tmp rfl .nil))) ?_
   refine ⟨a', cap', ?_, ?_, obH⟩
   · rw [hput]; exact JA
   ·
    rw [hput, ← hzs]
    exact ⟨ma, mc, rfl, sA, fun i hi => by have := om i hi; omega⟩
  obtain ⟨hpi, hgs⟩ := gatS_z (L := L) (f := z.t) (n := n) (r := r) (by rw [hzt]; exact hrs) [] (i := i) (by omega) (by omega)
  obtain ⟨hmi, hti⟩ := pf_mem hpi
  have hri : i < r.length := by omega
  have hdi := JH.dv _ hmi
  have hbi := JH.db _ hmi
  have e0 := pcs_at hri (j := 0) (by decide)
  have e5 := pcs_at hri (j := 5) (by decide)
  have bix : i * 6 < (pcs r).length := by rw [pcl]; omega
  rw [← hti] at hpi hgs
  generalize r[i] = y at *
  have e0 : (pcs r)[i * 6 + 0]? = some (.int .u32 (y.t : Nat)) := e0
  have e5 : (pcs r)[i * 6 + 5]? = some (.slice y.a y.z.length y.cap) := e5
  have hh1 := hgl i
  have hh2 := hgl (i + 1)
  rw [hgs] at hh2
  generalize gatS L [] z.t i = X at *
  obtain ⟨D, Li⟩ := X
  simp only [List.length_append, List.length_nil] at gm sm om JH obH hpi hgs hll hmi hh1 hh2 ⊢
  refine Go.runN (g:=?_)
  refine Go.kk 2 rfl ?_
  refine Go.loud (by kernel_rfl) rfl ?_
  (refine Go.runL (g:=?_))
  refine GoL.appendV rfl rfl rfl rfl rfl rfl sm hdi (fun j hj => .inr (by have := om j hj; omega)) (by omega) (by omega) (by rw [List.all_eq_true]; intro x hx; obtain ⟨u, -, rfl⟩ := List.mem_map.1 hx; rfl) ?_
  intro b1' c1' H1 rd1 wr1 hwr1 hrd1 sv1 k1 o1
  have mH1 := k1.1
  have slt := sm.lt
  have nm : ∀ j, j < h9.n + 1 → j ∉ blk ma := fun j hj hm => by
   rcases Nat.lt_or_ge j h9.n with q | q
   · have := om j hm; omega
   ·
    obtain rfl : j = h9.n := by omega
    exact sv_out sm gm (fun c e => by cases e) hm
  have hdis : ∀ b ∈ wr1, b ≠ h9.n ∧ h9.n < b := fun b hb => by
   have q := hwr1 b hb
   have := om b q
   have : b ≠ h9.n := fun e => nm b (by omega) q
   omega
  have hdis2 := hdis
  have gm1 := k1.get gm (nm _ (by omega))
  (refine Go.runL (g:=?_))
  refine GoL.st (g:=?_)
  (refine Go.runL (g:=?_))
  refine GoL.endC (g:=?_)
  clear hdis hdis2
  refine Go.name ?_
  intro H2 eH2
  have k2 : Keeps [h9.n] H1 H2 := by subst eH2; exact (Keeps.rf _ _).pt (.inl (by simp)) _
  have gm2 : H2.get h9.n = some (.cells [.int .u16 (z.sid : Nat), .bool (bitB z.fl 4), .int .u32 (z.ppid : Nat), .slice b1' (D.length + y.z.length) c1'] 39) := by subst eH2; exact get_put_self gm1
  clear eH2
  have m2 := k2.1
  have o1' : ∀ j ∈ blk b1', h9.n < j := fun j hj => by
   rcases o1 j hj with q | q
   ·
    have := nm j; have := om j q; have : j ≠ h9.n := fun e => nm j (by omega) q
    omega
   · omega
  have k12 : Keeps (blk ma ++ [h9.n]) H H2 := ⟨by omega, fun j hj hn => by
   simp only [List.mem_append, List.mem_singleton, not_or] at hn
   rw [k2.2 j (by omega) (by simp; exact hn.2), k1.2 j hj hn.1]⟩
  have n12 : ∀ j, j < h9.n → j ∉ blk ma ++ [h9.n] := fun j hj hm => by
   rcases List.mem_append.1 hm with q | q
   · exact nm j (by omega) q
   · simp only [List.mem_singleton] at q; omega
  have gjm := gm
  have ka : ∀ j ∈ blk a', j ∉ blk ma ++ [h9.n] := fun j hj hm => by
   rcases List.mem_append.1 hm with q | q
   · exact sv_sv JH.lv sm (by decide) j hj q
   · simp only [List.mem_singleton] at q; subst q; exact sv_out JH.lv gm (fun c e => by cases e) hj
  have kr : ∀ j ∈ blk oa, j ∉ blk ma ++ [h9.n] := fun j hj hm => by
   rcases List.mem_append.1 hm with q | q
   · exact sv_sv sr sm (by decide) j hj q
   · simp only [List.mem_singleton] at q; subst q; exact sv_out sr gm (fun c e => by cases e) hj
  have J2 := JH.kept k12 (n12 jb (by omega)) ka (fun i hi => by
   rcases List.mem_append.1 hi with q | q
   · have := om i q; omega
   · simp only [List.mem_singleton] at q; omega)
  have sr2 := sr.keeps k12 kr
  have sm2 := sv1.keeps k2 (fun j hj => by have := o1' j hj; simp only [List.mem_singleton]; omega)
  have g42 := k12.get g4H (n12 _ (by omega))
  have dm2 : ∀ j, j < h9.n + 1 → j ∉ blk b1' := fun j hj hm => by have := o1' j hm; omega
  clear k1 k2 k12 sm sr JH gm gm1 g4H sv1 kr ka n12 nm gjm hwr1 hrd1 hdi
  (refine Go.run (g:=?_))
  refine GoR.call rfl rfl rfl rfl rfl rfl rfl (((find9_spec jb Li a' cap' y.t (hti ▸ Nat.mod_lt _ (by decide)) (by omega) _ J2.jc J2.lv.rv).argA).mono ?_)
  rintro _ h17 ⟨rfl, hv17⟩ -
  rcases hv17 with ⟨-, hno17⟩ | ⟨k, hk, rfl, -, hdel⟩
  · rw [hpi] at hno17; cases hno17
  refine Go.runN (g:=?_)
  refine Go.kk 2 rfl ?_
  refine Go.loud (by kernel_rfl) rfl ?_
  have gj2 := J2.jc
  have lv2 := J2.lv
  have jl2 := AHeap.lt gj2
  have al2 := lv2.lt
  (refine Go.runL (g:=?_))
  refine GoL.buildO (c := []) rfl rfl rfl rfl rfl (by decide) (by rfl) (by rfl) ?_
  intro b8 h18 hb8 ob8 s18 n18
  have m18 := s18.1
  have gj8 := s18.get gj2
  have lv8 := lv2.same s18
  have rv8 := lv8.rv (P := Try.prog)
  have cp8 := rv8.le
  (refine Go.runL (g:=?_))
  refine GoL.sliceV (lo' := none) (hi' := some (.int .i64 k)) (l := 0) (r := k) rfl rfl rfl rfl rfl rfl rfl rv8 rfl (by simp [bnd]) (by omega) (by omega) ?_
  have hb0 : subA a' (0 * 6) = a' := by cases a' <;> simp [subA]
  rw [hb0]
  have fr8 := lv8.front (Nat.le_of_lt hk)
  refine GoL.appendV rfl rfl rfl rfl rfl rfl hb8 fr8.rv (Own.ok ob8 (by omega)) (by omega) (by omega) (all_sub (pcs_all Li) fun x hx => List.mem_of_mem_take hx) ?_
  intro b9 c9 h19 rd9 wr9 hwr9 hrd9 sv9 k9' o9
  have m19 := k9'.1
  have nb8 : ∀ j, j < h17.n → j ∉ blk b8 := fun j hj hm => by have := ob8 j hm; omega
  have gj9 := k9'.get gj8 (nb8 _ jl2)
  have lv9 := lv8.keeps k9' (fun j hj hm => nb8 j (al2 j hj) hm)
  have ob9 : Own h17.n b9 := fun j hj => by
   rcases o9 j hj with q | q
   · have := ob8 j q; omega
   · omega
  have rv9 := lv9.rv (P := Try.prog)
  (refine Go.runL (g:=?_))
  refine GoL.sliceV (lo' := some (.int .i64 (k + 1 : Nat))) (hi' := none) (l := k + 1) (r := Li.length) rfl rfl rfl rfl rfl rfl rfl rv9 (by simp [bnd]; omega) rfl (by omega) (by omega) ?_
  have sb9 := rv9.sub (l := k + 1) (r := Li.length) (by omega) (Nat.le_refl _)
  refine GoL.appendV rfl rfl rfl rfl rfl rfl sv9 sb9 (Own.ok ob9 (by omega)) (by omega) (by omega) (all_sub (pcs_all Li) fun x hx => List.mem_of_mem_drop (List.mem_of_mem_take hx)) ?_
  intro b14 c14 h20 rd14 wr14 hwr14 hrd14 sv14 k14 o14
  have m20 := k14.1
  have nb9 : ∀ j, j < h17.n → j ∉ blk b9 := fun j hj hm => by have := ob9 j hm; omega
  have gj14 := k14.get gj9 (nb9 _ jl2)
  have ob14 : Own h17.n b14 := fun j hj => by
   rcases o14 j hj with q | q
   · exact ob9 j q
   · omega
  have lb8 := hb8.lt
  have lb9 := sv9.lt
  have hdis : ∀ b ∈ wr9, b ≠ jb ∧ b < h19.n := fun b hb => by
   have q := hwr9 b hb
   have := ob8 b q
   have := lb8 b q
   omega
  have hdis2 : ∀ b ∈ wr14, b ≠ jb ∧ b < h19.n := fun b hb => by
   have q := hwr14 b hb
   have := ob9 b q
   have := lb9 b q
   omega
  (refine Go.runL (g:=?_))
  refine GoL.st (g:=?_)
  (refine Go.runL (g:=?_))
  refine GoL.endC (g:=?_)
  clear hdis hdis2
  refine Go.name ?_
  intro h21 e21
  have k21 : Keeps [jb] h20 h21 := by subst e21; exact (Keeps.rf _ _).pt (.inl (by simp)) _
  have eln : 0 + (k - 0) + (Li.length - (k + 1)) = (pdel Li y.t).length := by rw [hdel]; simp; omega
  have gj21 : h21.get jb = some (.cells [.slice b14 (pdel Li y.t).length c14] 86) := by
   subst e21
   rw [get_put_self gj14]
   first | rw [eln] | (rw [← eln]; congr 5; omega)
  clear e21
  have m21 := k21.1
  have nb14 : ∀ j, j < h17.n → j ∉ blk b14 := fun j hj hm => by have := ob14 j hm; omega
  have kk : Keeps [jb] h17 h21 := ⟨by omega, fun j hj hn => by
   rw [k21.2 j (by omega) hn, k14.2 j (by omega) (nb9 j hj), k9'.2 j (by omega) (nb8 j hj), s18.2 j hj]⟩
  have sv21 := sv14.keeps k21 (fun j hj hm => by simp only [List.mem_singleton] at hm; subst hm; exact nb14 _ jl2 hj)
  have ecs : [] ++ (pcs Li).take (k * 6) ++ ((pcs Li).drop ((k + 1) * 6)).take ((Li.length - (k + 1)) * 6) = pcs (pdel Li y.t) := by
   rw [List.nil_append, pcs_take, pcs_drop, pcs_take, ← pcs_app, hdel, List.take_of_length_le (l := Li.drop (k + 1)) (by simp)]
  rw [ecs, eln] at sv21
  have gm21 := kk.get gm2 (by simp only [List.mem_singleton]; omega)
  have sm21 := sm2.keeps kk (fun j hj => by have := o1' j hj; simp only [List.mem_singleton]; omega)
  have sr21 := sr2.keeps kk (fun j hj => by simp only [List.mem_singleton]; intro e; subst e; exact sv_out sr2 gj2 (fun c e => by cases e) hj)
  have g421 := kk.get g42 (by simp only [List.mem_singleton]; omega)
  have J21 : RJ h21 jb (pdel Li y.t) b14 c14 n0 := ⟨gj21, sv21, fun q hq => (J2.dv q (pdel_sub hq)).keeps kk (fun j hj => by have := J2.db q (pdel_sub hq) j hj; have := J2.ow.1; simp only [List.mem_singleton]; omega), fun q hq => J2.db q (pdel_sub hq), fun q hq => J2.pb q (pdel_sub hq), J2.ow.1, fun j hj => by have := ob14 j hj; omega⟩
  have hpl := pdel_le Li y.t
  rw [← List.map_append] at sm21
  (refine Go.run (g:=?_))
  refine Go.again (i + 1, b1', c1', b14, c14, h21) ?_ (by simp only; omega) ⟨rfl, rfl, rfl, rfl, rfl, rfl, trivial⟩ rfl rfl
  simp only
  rw [hgs]
  simp only [List.length_append]
  exact ⟨qi, gm21, sm21, fun j hj => by have := o1' j hj; omega, J21, fun j hj => .inr (by have := ob14 j hj; omega), sr21, g421, by omega, by omega⟩
end Go.Proofs.Ytccbmmnkiihkaaa
namespace Go.Proofs.Ytccbmmnkiihkaaa
open Go.Sort
def sh (b k : Nat) : Nat := (k + b) % 4294967296
theorem sh_lt (b k : Nat) : sh b k < 4294967296 := Nat.mod_lt _ (by decide)
theorem span_sh {b c t : Nat} (hc : c < 4294967296) (ht : t < 4294967296) : spanN (sh b c) (sh b t) = spanN c t := by unfold spanN sh; omega
theorem perm_through {f g s : Nat → Nat} {ws ks : List Nat} (p : ws.Perm (ks.map f)) (h : ∀ k ∈ ks, f k = g (s k)) : ws.Perm ((ks.map s).map g) := by
 rw [List.map_map]
 exact p.trans (.of_eq (List.map_congr_left fun k hk => h k hk))
theorem Alike.sh {b c : Nat} {ks ws : List Nat} (r : Alike c ks ws) : Alike (sh b c) (ks.map (sh b)) ws := by
 refine ⟨perm_through r.pm fun k hk => (span_sh r.cb (r.kb k hk)).symm, r.so, r.po, r.lt, fun k hk => ?_, sh_lt _ _⟩
 obtain ⟨x, -, rfl⟩ := List.mem_map.1 hk
 exact sh_lt _ _
end Go.Proofs.Ytccbmmnkiihkaaa
namespace Go.Proofs.Ytccbmmnkiihkaaa
set_option maxRecDepth 100000
def isU (v : Value) : Bool := match v with
 | .int k n => match k with
  | .u16 => decide (n = 0)
  | _ => false
 | _ => false
def isI (v : Value) : Bool := match v with
 | .int k n => match k with
  | .i64 => decide (n = 0)
  | _ => false
 | _ => false
def isP (v : Value) : Bool := match v with
 | .pointer a => match a with
  | none => true
  | some _ => false
 | _ => false
def isL (v : Value) : Bool := match v with
 | .slice a len cap => match a with
  | none => decide (len = 0 ∧ cap = 0)
  | some _ => false
 | _ => false
theorem isU_eq {v : Value} (h : isU v = true) : v = .int .u16 0 := by
 unfold isU at h
 split at h
 ·
  split at h
  · rw [of_decide_eq_true h]
  · cases h
 · cases h
theorem isI_eq {v : Value} (h : isI v = true) : v = .int .i64 0 := by
 unfold isI at h
 split at h
 ·
  split at h
  · rw [of_decide_eq_true h]
  · cases h
 · cases h
theorem isP_eq {v : Value} (h : isP v = true) : v = .pointer none := by
 unfold isP at h
 split at h
 ·
  split at h
  · rfl
  · cases h
 · cases h
theorem isL_eq {v : Value} (h : isL v = true) : v = .slice none 0 0 := by
 unfold isL at h
 split at h
 ·
  split at h
  ·
   have := of_decide_eq_true h
   rw [this.1, this.2]
  · cases h
 · cases h
def chkK : Nat → List Value → Option (List Value)
 | 0, l => match l with
  | [] => none
  | x :: r => match isU x with
   | true => some r
   | false => none
 | k + 1, l => match chkK k l with
  | none => none
  | some r => chkK k r
theorem chkK_eq : ∀ (k : Nat) {l r : List Value}, chkK k l = some r → l = List.replicate (2 ^ k) (.int .u16 0) ++ r
 | 0, l, r, h => by
  unfold chkK at h
  split at h
  · cases h
  ·
   split at h
   · rename_i e; cases h; rw [isU_eq e]; rfl
   · cases h
 | k + 1, l, r, h => by
  unfold chkK at h
  split at h
  · cases h
  ·
   rename_i r1 e
   rw [chkK_eq k e, chkK_eq k h, ← List.append_assoc, List.replicate_append_replicate]
   congr 2
   omega
def chkX (v : Option Value) : Bool := match v with
 | some (.agg a) => match a.toList with
  | v0 :: v1 :: v2 :: v3 :: v4 :: l => isU v0 && (isI v1 && (isI v2 && (isP v3 && (isP v4 && match chkK 16 l with
   | some r => match r with
    | [v5, v6] => isL v5 && isL v6
    | _ => false
   | none => false))))
  | _ => false
 | _ => false
def rest0 : List Value := List.replicate 65536 (.int .u16 0) ++ [.slice none 0 0, .slice none 0 0]
theorem chkX_eq {v : Option Value} (h : chkX v = true) : v = some (.agg (.int .u16 0 :: .int .i64 0 :: .int .i64 0 :: .pointer none :: .pointer none :: rest0).toArray) := by
 unfold chkX at h
 split at h
 ·
  rename_i a
  obtain ⟨l⟩ := a
  simp only at h
  split at h
  ·
   rename_i v0 v1 v2 v3 v4 l
   simp only [Bool.and_eq_true] at h
   obtain ⟨h0, h1, h2, h3, h4, h5⟩ := h
   split at h5
   ·
    rename_i r e
    split at h5
    ·
     rename_i v5 v6
     rw [Bool.and_eq_true] at h5
     rw [isU_eq h0, isI_eq h1, isI_eq h2, isP_eq h3, isP_eq h4, chkK_eq 16 e, isL_eq h5.1, isL_eq h5.2]
     rfl
    · cases h5
   · cases h5
  · cases h
 · cases h
theorem zero10 : zeroT Try.prog 61 = some (.agg (.int .u16 0 :: .int .i64 0 :: .int .i64 0 :: .pointer none :: .pointer none :: rest0).toArray) := chkX_eq (by decide +kernel)
theorem rest0_len : rest0.length = 65538 := by unfold rest0; rw [List.length_append, List.length_replicate]; rfl
theorem st10 : ST Try.prog 61 (.int .u16 0 :: .int .i64 0 :: .int .i64 0 :: .pointer none :: .pointer none :: rest0) [(0, 1), (1, 1), (2, 1), (3, 1), (4, 1), (5, 65536), (65541, 1), (65542, 1)] := .of (z := .agg (.int .u16 0 :: .int .i64 0 :: .int .i64 0 :: .pointer none :: .pointer none :: rest0).toArray) (fs := (match Try.prog.underlying 61 with | some (.struct fs) => fs | _ => #[])) zero10 (by
  show ((.int .u16 0 :: .int .i64 0 :: .int .i64 0 :: .pointer none :: .pointer none :: rest0).all flat0) = true
  rw [List.all_cons, List.all_cons, List.all_cons, List.all_cons, List.all_cons]
  unfold rest0
  rw [List.all_append, List.all_replicate]
  rfl) (by kernel_rfl) (by kernel_rfl) rfl
end Go.Proofs.Ytccbmmnkiihkaaa
namespace Go.Proofs.Ytccbmmnkiihkaaa
set_option maxRecDepth 100000
attribute [local irreducible] Go GoR GoL
def wC (p : (Nat × Nat) × IM) : List Value := iC p.2 ++ [.int .u16 (p.1.2 : Nat)]
def vws (l : WL) : List Value := (l.map wC).flatten
theorem vws_len (l : WL) : (vws l).length = l.length * 5 := by
 induction l with
 | nil => rfl
 | cons x l ih => simp only [vws, List.map_cons, List.flatten_cons, List.length_append, wC, iC, List.length_cons, List.length_nil] at ih ⊢; omega
theorem vws_get : ∀ {l : WL} {i : Nat} (hi : i < l.length), ((vws l).drop (i * 5)).take 5 = wC l[i]
 | x :: l, 0, _ => rfl
 | x :: l, i + 1, hi => by
  have := vws_get (l := l) (i := i) (by simpa using hi)
  rw [show (i + 1) * 5 = i * 5 + 1 + 1 + 1 + 1 + 1 by omega]
  exact this
theorem vws_at {l : WL} {i : Nat} (hi : i < l.length) {j : Nat} (hj : j < 5) : (vws l)[i * 5 + j]? = (wC l[i])[j]? := by
 rw [← vws_get hi, List.getElem?_take, if_pos hj, List.getElem?_drop]
theorem vws_app (l k : WL) : vws (l ++ k) = vws l ++ vws k := by simp [vws]
theorem vws_take : ∀ (l : WL) (i : Nat), (vws l).take (i * 5) = vws (l.take i)
 | [], i => by simp [vws]
 | x :: l, 0 => rfl
 | x :: l, i + 1 => by
  rw [show (i + 1) * 5 = i * 5 + 1 + 1 + 1 + 1 + 1 by omega]
  have := vws_take l i
  simp only [vws, wC, iC, List.map_cons, List.flatten_cons, List.cons_append, List.nil_append, List.take_succ_cons] at this ⊢
  rw [this]
theorem vws_drop : ∀ (l : WL) (i : Nat), (vws l).drop (i * 5) = vws (l.drop i)
 | [], i => by simp [vws]
 | x :: l, 0 => rfl
 | x :: l, i + 1 => by
  rw [show (i + 1) * 5 = i * 5 + 1 + 1 + 1 + 1 + 1 by omega]
  exact vws_drop l i
theorem vws_all (l : WL) : (vws l).all Value.oneCell' = true := by
 induction l with
 | nil => rfl
 | cons m l ih => simp only [vws, List.map_cons, List.flatten_cons, List.all_append, ih, Bool.and_true] at ih ⊢; simp [ih, wC, iC, Value.oneCell']
theorem ics_get : ∀ {l : List IM} {i : Nat} (hi : i < l.length), ((ics l).drop (i * 4)).take 4 = iC l[i]
 | x :: l, 0, _ => rfl
 | x :: l, i + 1, hi => by
  have := ics_get (l := l) (i := i) (by simpa using hi)
  rw [show (i + 1) * 4 = i * 4 + 1 + 1 + 1 + 1 by omega]
  exact this
theorem ics_at {l : List IM} {i : Nat} (hi : i < l.length) {j : Nat} (hj : j < 4) : (ics l)[i * 4 + j]? = (iC l[i])[j]? := by
 rw [← ics_get hi, List.getElem?_take, if_pos hj, List.getElem?_drop]
theorem lenW_take (l : WL) (i : Nat) : lenW (l.take i) ≤ lenW l := by
 have : lenW (l.take i ++ l.drop i) = lenW (l.take i) + lenW (l.drop i) := by unfold lenW; rw [List.map_append, List.sum_append]
 rw [List.take_append_drop] at this
 omega
theorem lenI_take (l : List IM) (i : Nat) : lenI (l.take i) ≤ lenI l := by
 have : lenI (l.take i ++ l.drop i) = lenI (l.take i) + lenI (l.drop i) := by unfold lenI; rw [List.map_append, List.sum_append]
 rw [List.take_append_drop] at this
 omega
theorem gl_at : ∀ {l : WL} {k : Nat × Nat} {i : Nat} (hi : i < l.length), (∀ j (h : j < i), l[j].1 ≠ k) → l[i].1 = k → gl l k = some l[i].2 ∧ gdel l k = l.take i ++ l.drop (i + 1)
 | x :: l, k, 0, _, _, h => by
  simp only [List.getElem_cons_zero] at h
  unfold gl gdel
  rw [if_pos h, if_pos h]; exact ⟨rfl, rfl⟩
 | x :: l, k, i + 1, hi, hk, h => by
  have h0 := hk 0 (by omega)
  simp only [List.getElem_cons_zero] at h0
  simp only [List.getElem_cons_succ] at h ⊢
  have ih := gl_at (l := l) (k := k) (i := i) (by simpa using hi) (fun j hj' => by
   have := hk (j + 1) (by omega)
   simpa using this) h
  unfold gl gdel
  rw [if_neg h0, if_neg h0, ih.1, ih.2]; exact ⟨rfl, rfl⟩
theorem gl_no : ∀ {l : WL} {k : Nat × Nat}, (∀ j (h : j < l.length), l[j].1 ≠ k) → gl l k = none
 | [], k, _ => rfl
 | x :: l, k, h => by
  have h0 := h 0 (by simp)
  simp only [List.getElem_cons_zero] at h0
  unfold gl
  rw [if_neg h0]
  exact gl_no fun j hj => by
   have := h (j + 1) (by simpa using hj)
   simpa using this
structure RA where
 st : Nat
 rm : Nat
 sp : Nat
 sb : Nat
 jb : Nat
structure RXc (c : List Value) (A : RA) (nx : Nat → Nat) (va : Option Addr) (vl vc : Nat) (ra : Option Addr) (rl rc : Nat) : Prop where
 l : c.length = 65543
 c0 : c[0]? = some (.int .u16 A.st)
 c1 : c[1]? = some (.int .i64 A.rm)
 c2 : c[2]? = some (.int .i64 A.sp)
 c3 : c[3]? = some (.pointer (some ⟨A.sb, 0, none⟩))
 c4 : c[4]? = some (.pointer (some ⟨A.jb, 0, none⟩))
 cn : ∀ k, k < 65536 → c[5 + k]? = some (.int .u16 (nx k : Nat))
 c6 : c[65541]? = some (.slice va vl vc)
 c7 : c[65542]? = some (.slice ra rl rc)
 nb : ∀ k, nx k < 65536
section
variable {c : List Value} {A : RA} {nx : Nat → Nat} {va ra : Option Addr} {vl vc rl rc : Nat}
theorem RXc.set6 (k : RXc c A nx va vl vc ra rl rc) (va' : Option Addr) (vl' vc' : Nat) : RXc (setL c 65541 [.slice va' vl' vc']) A nx va' vl' vc' ra rl rc := by
 have hl := k.l
 have hg := fun i => setL_get (c := c) (vs := [.slice va' vl' vc']) (o := 65541) (by simp only [List.length_cons, List.length_nil]; omega) i
 simp only [List.length_cons, List.length_nil, Nat.zero_add] at hg
 refine ⟨?_, ?_, ?_, ?_, ?_, ?_, fun j hj => ?_, ?_, ?_, k.nb⟩
 · rw [setL_length (by simp only [List.length_cons, List.length_nil]; omega)]; exact hl
 · rw [hg, if_neg (by omega)]; exact k.c0
 · rw [hg, if_neg (by omega)]; exact k.c1
 · rw [hg, if_neg (by omega)]; exact k.c2
 · rw [hg, if_neg (by omega)]; exact k.c3
 · rw [hg, if_neg (by omega)]; exact k.c4
 · rw [hg, if_neg (by omega)]; exact k.cn j hj
 · rw [hg, if_pos (by omega)]; rfl
 · rw [hg, if_neg (by omega)]; exact k.c7
theorem RXc.set7 (k : RXc c A nx va vl vc ra rl rc) (ra' : Option Addr) (rl' rc' : Nat) : RXc (setL c 65542 [.slice ra' rl' rc']) A nx va vl vc ra' rl' rc' := by
 have hl := k.l
 have hg := fun i => setL_get (c := c) (vs := [.slice ra' rl' rc']) (o := 65542) (by simp only [List.length_cons, List.length_nil]; omega) i
 simp only [List.length_cons, List.length_nil, Nat.zero_add] at hg
 refine ⟨?_, ?_, ?_, ?_, ?_, ?_, fun j hj => ?_, ?_, ?_, k.nb⟩
 · rw [setL_length (by simp only [List.length_cons, List.length_nil]; omega)]; exact hl
 · rw [hg, if_neg (by omega)]; exact k.c0
 · rw [hg, if_neg (by omega)]; exact k.c1
 · rw [hg, if_neg (by omega)]; exact k.c2
 · rw [hg, if_neg (by omega)]; exact k.c3
 · rw [hg, if_neg (by omega)]; exact k.c4
 · rw [hg, if_neg (by omega)]; exact k.cn j hj
 · rw [hg, if_neg (by omega)]; exact k.c6
 · rw [hg, if_pos (by omega)]; rfl
def upd1 (nx : Nat → Nat) (s v : Nat) (k : Nat) : Nat := if k = s then v else nx k
theorem RXc.setn (k : RXc c A nx va vl vc ra rl rc) {s v : Nat} (hs : s < 65536) (hv : v < 65536) : RXc (setL c (5 + s) [.int .u16 (v : Nat)]) A (upd1 nx s v) va vl vc ra rl rc := by
 have hl := k.l
 have hg := fun i => setL_get (c := c) (vs := [.int .u16 (v : Nat)]) (o := 5 + s) (by simp only [List.length_cons, List.length_nil]; omega) i
 simp only [List.length_cons, List.length_nil, Nat.zero_add] at hg
 refine ⟨?_, ?_, ?_, ?_, ?_, ?_, fun j hj => ?_, ?_, ?_, fun j => ?_⟩
 · rw [setL_length (by simp only [List.length_cons, List.length_nil]; omega)]; exact hl
 · rw [hg, if_neg (by omega)]; exact k.c0
 · rw [hg, if_neg (by omega)]; exact k.c1
 · rw [hg, if_neg (by omega)]; exact k.c2
 · rw [hg, if_neg (by omega)]; exact k.c3
 · rw [hg, if_neg (by omega)]; exact k.c4
 ·
  rw [hg]
  unfold upd1
  by_cases e : j = s
  · rw [if_pos (by omega), if_pos e, show 5 + j - (5 + s) = 0 by omega]; rfl
  · rw [if_neg (by omega), if_neg e]; exact k.cn j hj
 · rw [hg, if_neg (by omega)]; exact k.c6
 · rw [hg, if_neg (by omega)]; exact k.c7
 ·
  unfold upd1
  split
  · exact hv
  · exact k.nb j
end
set_option maxHeartbeats 16000000 in
theorem find10_spec (xb : Nat) (c : List Value) (W : WL) (va : Option Addr) (vc sid ssn : Nat) (hs : sid < 65536) (hn : ssn < 65536) (hw : W.length ≤ 1000000) (hk : ∀ p ∈ W, p.1.1 = p.2.sid ∧ p.1.1 < 65536 ∧ p.1.2 < 65536) (h : AHeap) (hx : h.get xb = some (.cells c 61)) (c6 : c[65541]? = some (.slice va W.length vc)) (hz : Rv Try.prog h 5 va W.length vc (vws W)) : CallS Try.prog [] 64 [.pointer (some ⟨xb, 0, none⟩), .int .u16 sid, .int .u16 ssn] h fun v h' => h' = h ∧ ((v = .int .i64 (-1) ∧ gl W (sid, ssn) = none) ∨ ∃ i, ∃ hi : i < W.length, v = .int .i64 (i : Nat) ∧ W[i].1 = (sid, ssn) ∧ gl W (sid, ssn) = some W[i].2 ∧ gdel W (sid, ssn) = W.take i ++ W.drop (i + 1)) := by
 (refine CallS.of3 Try.func64 rfl Try.ntmps64 Try.results64 rfl ?_)
 (refine Go.run (g:=?_))
 refine Go.loop (α := Nat) (fun x => [(7, .int .i64 x), (0, .pointer (some ⟨xb, 0, none⟩)), (1, .int .u16 sid), (2, .int .u16 ssn)]) (fun _ => []) (fun x => h) (fun x => x ≤ W.length ∧ ∀ k (hk : k < x) (hk' : k < W.length), W[k].1 ≠ (sid, ssn)) (fun x => W.length - x) 0 ⟨Nat.zero_le _, fun k hk => absurd hk (Nat.not_lt_zero _)⟩ ⟨rfl, rfl, rfl, rfl, trivial⟩ rfl rfl ?_
 rintro i ⟨hi, hno⟩
 rcases Nat.lt_or_ge i W.length with i0 | i0
 case inr =>
  (refine Go.run (g:=?_))
  (first|refine Go.finA rfl ?_|refine Go.finB rfl (hq:=?_))
  exact ⟨rfl, .inl ⟨rfl, gl_no fun k h => hno k (by omega) h⟩⟩
 have hb1 : i * 5 < (vws W).length := by rw [vws_len]; omega
 have d1 := vws_at i0 (j := 0) (by decide)
 have d2 := vws_at i0 (j := 4) (by decide)
 have hpa := gl_at (k := (sid, ssn)) i0 (fun k h => hno k h (by omega))
 have hne : W[i].1 ≠ (sid, ssn) → ∀ k (h : k < i + 1) (h' : k < W.length), W[k].1 ≠ (sid, ssn) := fun e k h h' => by
  rcases Nat.lt_or_ge k i with z | z
  · exact hno k z h'
  ·
   obtain rfl : k = i := by omega
   exact e
 obtain ⟨k1, k2, k3⟩ := hk _ (List.getElem_mem i0)
 have hex : ∀ p, W[i] = p → ∃ hi : i < W.length, W[i] = p := fun p e => ⟨i0, e⟩
 clear hno hk
 generalize hp : W[i] = p at *
 obtain ⟨⟨ps, pn⟩, pm⟩ := p
 simp only at k1 k2 k3 hpa hne
 subst k1
 have d1 : (vws W)[i * 5 + 0]? = some (.int .u16 (pm.sid : Nat)) := d1
 have d2 : (vws W)[i * 5 + 4]? = some (.int .u16 (pn : Nat)) := d2
 have d1' : (vws W)[i * 5 + 0 + 0]? = some (.int .u16 (pm.sid : Nat)) := d1
 by_cases e : pm.sid = sid
 ·
  by_cases e2 : pn = ssn
  ·
   have hpa := hpa (by rw [e, e2])
   (refine Go.run (g:=?_))
   (first|refine Go.finA rfl ?_|refine Go.finB rfl (hq:=?_))
   exact ⟨rfl, .inr ⟨i, i0, rfl, by rw [hp, e, e2], by rw [hp]; exact hpa.1, hpa.2⟩⟩
  ·
   have hne := hne (fun q => e2 (Prod.mk.inj q).2)
   (refine Go.run (g:=?_))
   exact Go.again (i + 1) ⟨i0, hne⟩ (by omega) ⟨rfl, rfl, rfl, rfl, trivial⟩ rfl rfl
 ·
  have hne := hne (fun q => e (Prod.mk.inj q).1)
  (refine Go.run (g:=?_))
  exact Go.again (i + 1) ⟨i0, hne⟩ (by omega) ⟨rfl, rfl, rfl, rfl, trivial⟩ rfl rfl
end Go.Proofs.Ytccbmmnkiihkaaa
namespace Go.Proofs.Ytccbmmnkiihkaaa
set_option maxRecDepth 100000
attribute [local irreducible] Go GoR GoL
structure RT where
 wa : Option Addr
 wc : Nat
 da : Option Addr
 dc : Nat
 ja : Option Addr
 jc : Nat
 va : Option Addr
 vc : Nat
 ra : Option Addr
 rc : Nat
 c : Nat
 ws : List Nat
 ds : List Nat
 kept : List PV
 nx : Nat → Nat
 waits : WL
 ready : List IM
def RT.held (t : RT) : Nat := heldN t.kept + lenW t.waits + lenI t.ready
structure RX (h : AHeap) (xb : Nat) (A : RA) (t : RT) (n0 : Nat) : Prop where
 xc : ∃ c, h.get xb = some (.cells c 61) ∧ RXc c A t.nx t.va t.waits.length t.vc t.ra t.ready.length t.rc
 wv : Sv h 99 5 t.va t.waits.length t.vc (vws t.waits)
 rv : Sv h 39 4 t.ra t.ready.length t.rc (ics t.ready)
 dr : ∀ m ∈ t.ready, Sv h 5 1 m.a m.z.length m.cap (m.z.map bv)
 dw : ∀ m ∈ t.waits.map (·.2), Sv h 5 1 m.a m.z.length m.cap (m.z.map bv)
 mr : ∀ m ∈ t.ready, m.sid < 65536 ∧ m.ppid < 4294967296
 mw : ∀ m ∈ t.waits.map (·.2), m.sid < 65536 ∧ m.ppid < 4294967296
 wk : ∀ p ∈ t.waits, p.1.1 = p.2.sid ∧ p.1.1 < 65536 ∧ p.1.2 < 65536
 ow : n0 ≤ xb ∧ Own n0 t.va ∧ Own n0 t.ra
structure ROk (h : AHeap) (xb : Nat) (A : RA) (t : RT) (n0 : Nat) : Prop where
 X : RX h xb A t n0
 S : RSet h A.sb t.c t.wa t.wc t.ws t.da t.dc t.ds n0
 J : RJ h A.jb t.kept t.ja t.jc n0
section
variable {h h' : AHeap} {xb : Nat} {A : RA} {t : RT} {n0 : Nat}
theorem RX.same (k : RX h xb A t n0) (s : Same h h') : RX h' xb A t n0 := { k with
 xc := by obtain ⟨c, g, r⟩ := k.xc; exact ⟨c, s.get g, r⟩
 wv := k.wv.same s
 rv := k.rv.same s
 dr := fun m hm => (k.dr m hm).same s
 dw := fun m hm => (k.dw m hm).same s }
theorem ROk.same (k : ROk h xb A t n0) (s : Same h h') : ROk h' xb A t n0 := ⟨k.X.same s, k.S.same s, k.J.same s⟩
end
set_option maxHeartbeats 16000000 in
theorem held10_spec (xb : Nat) (A : RA) (t : RT) (n0 : Nat) (hb : t.held ≤ 1000000000) (h1 : t.kept.length ≤ 1000000) (h2 : t.waits.length ≤ 1000000) (h3 : t.ready.length ≤ 1000000) (h : AHeap) (k : ROk h xb A t n0) : CallS Try.prog [] 22 [.pointer (some ⟨xb, 0, none⟩)] h fun v h' => v = .int .i64 (t.held : Nat) ∧ h' = h := by
 obtain ⟨c, gx, R⟩ := k.X.xc
 have c4 := R.c4
 have c6 := R.c6
 have c7 := R.c7
 have wv := k.X.wv.rv (P := Try.prog)
 have rv := k.X.rv.rv (P := Try.prog)
 unfold RT.held at *
 have hj := held9_spec A.jb t.kept t.ja t.jc h1 (by omega) h k.J.jc k.J.lv.rv
 clear R k
 generalize t.waits = W at *
 generalize t.ready = L at *
 generalize heldN t.kept = N at *
 (refine CallS.of1 Try.func22 rfl Try.ntmps22 Try.results22 rfl ?_)
 (refine Go.run (g:=?_))
 refine GoR.call rfl rfl rfl rfl rfl rfl rfl (((hj).argA).mono ?_)
 rintro _ h4 ⟨rfl, rfl⟩ -
 (refine Go.run (g:=?_))
 refine Go.loop (α := Nat) (fun x => [(4, .int .i64 x), (3, .int .i64 (N + lenW (W.take x) : Nat)), (0, .pointer (some ⟨xb, 0, none⟩))]) (fun _ => []) (fun x => h4) (fun x => x ≤ W.length) (fun x => W.length - x) 0 (Nat.zero_le _) ⟨rfl, rfl, rfl, trivial⟩ rfl rfl ?_
 rintro i hi
 rcases Nat.lt_or_ge i W.length with i0 | i0
 case inr =>
  obtain rfl : i = W.length := by omega
  rw [List.take_length]
  generalize hN : N + lenW W = N2 at *
  (refine Go.run (g:=?_))
  refine Go.loop (α := Nat) (fun x => [(5, .int .i64 x), (3, .int .i64 (N2 + lenI (L.take x) : Nat)), (0, .pointer (some ⟨xb, 0, none⟩))]) (fun _ => []) (fun x => h4) (fun x => x ≤ L.length) (fun x => L.length - x) 0 (Nat.zero_le _) ⟨rfl, rfl, rfl, trivial⟩ rfl rfl ?_
  rintro i hi
  rcases Nat.lt_or_ge i L.length with i0 | i0
  case inr =>
   obtain rfl : i = L.length := by omega
   rw [List.take_length]
   (refine Go.run (g:=?_))
   (first|refine Go.finA rfl ?_|refine Go.finB rfl (hq:=?_))
   exact ⟨rfl, rfl⟩
  have hb1 : i * 4 < (ics L).length := by rw [ics_len]; omega
  have d1 := ics_at i0 (j := 3) (by decide)
  have htk : L.take (i + 1) = L.take i ++ [L[i]] := by simp
  have hle := lenI_take L (i + 1)
  have hsn := lenI_snoc (L.take i) L[i]
  rw [← htk] at hsn
  generalize L[i] = p at *
  have d1 : (ics L)[i * 4 + 3]? = some (.slice p.a p.z.length p.cap) := d1
  generalize hA : lenI (L.take (i + 1)) = A1 at *
  generalize lenI (L.take i) = A0 at *
  subst hsn
  (refine Go.run (g:=?_))
  exact Go.again (i + 1) i0 (by omega) ⟨rfl, by rw [hA, Nat.add_assoc]; rfl, rfl, trivial⟩ rfl rfl
 have hb1 : i * 5 < (vws W).length := by rw [vws_len]; omega
 have d1 := vws_at i0 (j := 3) (by decide)
 have htk : W.take (i + 1) = W.take i ++ [W[i]] := by simp
 have hle := lenW_take W (i + 1)
 have hsn := lenW_snoc (W.take i) W[i]
 rw [← htk] at hsn
 generalize W[i] = p at *
 have d1 : (vws W)[i * 5 + 3]? = some (.slice p.2.a p.2.z.length p.2.cap) := d1
 have d1' : (vws W)[i * 5 + 0 + 3]? = some (.slice p.2.a p.2.z.length p.2.cap) := d1
 generalize hA : lenW (W.take (i + 1)) = A1 at *
 generalize lenW (W.take i) = A0 at *
 subst hsn
 (refine Go.run (g:=?_))
 exact Go.again (i + 1) i0 (by omega) ⟨rfl, by rw [hA, Nat.add_assoc]; rfl, rfl, trivial⟩ rfl rfl
set_option maxHeartbeats 4000000 in
theorem rwnd10_spec (xb : Nat) (A : RA) (t : RT) (n0 : Nat) (hb : t.held ≤ 1000000000) (h1 : t.kept.length ≤ 1000000) (h2 : t.waits.length ≤ 1000000) (h3 : t.ready.length ≤ 1000000) (hr : A.rm ≤ 1048576) (hs : A.sp ≤ 1048576) (h : AHeap) (k : ROk h xb A t n0) : CallS Try.prog [] 24 [.pointer (some ⟨xb, 0, none⟩)] h fun v h' => v = .int .u32 (A.rm - A.sp - t.held : Nat) ∧ h' = h := by
 have hh := held10_spec xb A t n0 hb h1 h2 h3 h k
 obtain ⟨c, gx, R⟩ := k.X.xc
 have c1 := R.c1
 have c2 := R.c2
 clear R k
 generalize t.held = hd at *
 (refine CallS.of1 Try.func24 rfl Try.ntmps24 Try.results24 rfl ?_)
 (refine Go.run (g:=?_))
 refine GoR.call rfl rfl rfl rfl rfl rfl rfl (((hh).argA).mono ?_)
 rintro _ h2 ⟨rfl, rfl⟩ -
 rcases Nat.lt_or_ge (A.rm - A.sp) hd with q | q
 ·
  rw [show A.rm - A.sp - hd = 0 by omega]
  (refine Go.run (g:=?_))
  (first|refine Go.finA rfl ?_|refine Go.finB rfl (hq:=?_))
  exact ⟨rfl, rfl⟩
 ·
  have e : (A.rm : Int) - A.sp - hd = ((A.rm - A.sp - hd : Nat) : Int) ∨ A.rm < A.sp := by omega
  rcases e with e | e
  ·
   have e2 : A.rm - A.sp - hd < 4294967296 := by omega
   (iterate 1 (refine Go.one (g:=?_)))
   rw [e]
   generalize A.rm - A.sp - hd = w at *
   (refine Go.run (g:=?_))
   (first|refine Go.finA rfl ?_|refine Go.finB rfl (hq:=?_))
   exact ⟨rfl, rfl⟩
  ·
   rw [show A.rm - A.sp - hd = 0 by omega]
   rw [show A.rm - A.sp = 0 by omega] at q
   have : hd = 0 := by omega
   subst this
   (refine Go.run (g:=?_))
   (first|refine Go.finA rfl ?_|refine Go.finB rfl (hq:=?_))
   exact ⟨rfl, rfl⟩
def bound10 (n : Int) : Nat := if n < 0 then 0 else if n > 1048576 then 1048576 else n.toNat
set_option maxHeartbeats 4000000 in
theorem bound10_spec (n : Int) (h : AHeap) : CallS Try.prog [] 32 [.int .i64 n] h fun v h' => v = .int .i64 (bound10 n : Nat) ∧ h' = h := by
 unfold bound10
 (refine CallS.of1 Try.func32 rfl Try.ntmps32 Try.results32 rfl ?_)
 by_cases h1 : n < 0
 ·
  rw [if_pos h1]
  (refine Go.run (g:=?_))
  (first|refine Go.finA rfl ?_|refine Go.finB rfl (hq:=?_))
  exact ⟨rfl, rfl⟩
 ·
  rw [if_neg h1]
  by_cases h2 : n > 1048576
  ·
   rw [if_pos h2]
   (refine Go.run (g:=?_))
   (first|refine Go.finA rfl ?_|refine Go.finB rfl (hq:=?_))
   exact ⟨rfl, rfl⟩
  ·
   rw [if_neg h2]
   have e : ((n.toNat : Nat) : Int) = n := by omega
   rw [e]
   (refine Go.run (g:=?_))
   (first|refine Go.finA rfl ?_|refine Go.finB rfl (hq:=?_))
   exact ⟨rfl, rfl⟩
set_option maxHeartbeats 8000000 in
theorem new10_spec (st cum : Nat) (rm sp : Int) (hst : st < 65536) (hc : cum < 4294967296) (h : AHeap) : CallS Try.prog [] 9 [.int .u16 st, .int .i64 rm, .int .i64 sp, .int .u32 cum] h fun v h' => ∃ xb sb jb, v = .pointer (some ⟨xb, 0, none⟩) ∧ ROk h' xb ⟨st, bound10 rm, bound10 sp, sb, jb⟩ ⟨none, 0, none, 0, none, 0, none, 0, none, 0, cum, [], [], [], fun _ => 0, [], []⟩ h.n := by
 (refine CallS.of4 Try.func9 rfl Try.ntmps9 Try.results9 rfl ?_)
 (refine Go.run (g:=?_))
 refine GoR.call rfl rfl rfl rfl rfl rfl rfl (((bound10_spec rm _).argA).mono ?_)
 rintro _ h1 ⟨rfl, rfl⟩ -
 (refine Go.run (g:=?_))
 refine GoR.call rfl rfl rfl rfl rfl rfl rfl (((bound10_spec sp _).argA).mono ?_)
 rintro _ h2 ⟨rfl, rfl⟩ -
 (refine Go.run (g:=?_))
 refine GoR.build (hs := st10) (c := .int .u16 st :: .int .i64 (bound10 rm : Nat) :: .int .i64 (bound10 sp : Nat) :: .pointer (some ⟨h2.n, 0, none⟩) :: .pointer (some ⟨h2.n + 1, 0, none⟩) :: rest0) rfl rfl rfl rfl rfl ?_ ?_
 ·
  generalize hr : rest0 = r
  rfl
 (refine Go.run (g:=?_))
 refine Go.name ?_
 intro h3 e3
 have g0 : h3.get h2.n = some (.cells [.int .u32 (cum : Nat), .slice none 0 0, .slice none 0 0] 54) := by subst e3; exact hg_
 have g1 : h3.get (h2.n + 1) = some (.cells [.slice none 0 0] 86) := by subst e3; exact hg_
 have g2 : h3.get (h2.n + 2) = some (.cells (.int .u16 st :: .int .i64 (bound10 rm : Nat) :: .int .i64 (bound10 sp : Nat) :: .pointer (some ⟨h2.n, 0, none⟩) :: .pointer (some ⟨h2.n + 1, 0, none⟩) :: rest0) 61) := by subst e3; exact AHeap.get_push_same _ _
 clear e3
 (first|refine Go.finA rfl ?_|refine Go.finB rfl (hq:=?_))
 refine ⟨h2.n + 2, h2.n, h2.n + 1, rfl, ⟨⟨_, g2, ?_⟩, Sv.nil, Sv.nil, (fun m hm => by cases hm), (fun m hm => by cases hm), (fun m hm => by cases hm), (fun m hm => by cases hm), (fun m hm => by cases hm), Nat.le_add_right _ _, Own.nil _, Own.nil _⟩, ⟨g0, Sv.nil, Sv.nil, (fun m hm => by cases hm), (fun m hm => by cases hm), hc, ⟨(fun hm => by cases hm), (fun hm => by cases hm), (fun j hm => by cases hm)⟩, Nat.le_refl _, Own.nil _, Own.nil _⟩, ⟨g1, Sv.nil, (fun m hm => by cases hm), (fun m hm => by cases hm), (fun m hm => by cases hm), Nat.le_add_right _ _, Own.nil _⟩⟩
 have hl := rest0_len
 have hr : ∀ k, k < 65536 → rest0[k]? = some (.int .u16 0) := fun k hk => by
  unfold rest0
  rw [List.getElem?_append_left (by rw [List.length_replicate]; exact hk), List.getElem?_replicate, if_pos hk]
 have h65 : rest0[65536]? = some (.slice none 0 0) ∧ rest0[65537]? = some (.slice none 0 0) := by
  unfold rest0
  rw [List.getElem?_append_right (by rw [List.length_replicate]; exact Nat.le_refl _), List.getElem?_append_right (by rw [List.length_replicate]; omega), List.length_replicate]
  exact ⟨rfl, rfl⟩
 generalize rest0 = r at *
 refine ⟨by simp only [List.length_cons]; omega, rfl, rfl, rfl, rfl, rfl, fun k hk => ?_, h65.1, h65.2, fun k => by show (0 : Nat) < 65536; decide⟩
 rw [show 5 + k = k + 1 + 1 + 1 + 1 + 1 by omega]
 exact hr k hk
end Go.Proofs.Ytccbmmnkiihkaaa
namespace Go.Proofs.Ytccbmmnkiihkaaa
set_option maxRecDepth 100000
attribute [local irreducible] Go GoR GoL
def rmsgN (nx : Nat → Nat) (W : WL) (R : List IM) (m : IM) (ssn : Nat) : (Nat → Nat) × WL × List IM :=
 if m.un = true then (nx, W, R ++ [m])
 else if ssn = nx m.sid then (upd1 nx m.sid (drainN (W.length + 1) m.sid (nx16 ssn) W (R ++ [m])).1, (drainN (W.length + 1) m.sid (nx16 ssn) W (R ++ [m])).2.1, (drainN (W.length + 1) m.sid (nx16 ssn) W (R ++ [m])).2.2)
 else if bef16 (nx m.sid) ssn = true ∧ gl W (m.sid, ssn) = none then (nx, W ++ [((m.sid, ssn), m)], R)
 else (nx, W, R)
section
variable {h h' : AHeap} {xb : Nat} {A : RA} {t : RT} {n0 : Nat}
theorem RX.lts (k : RX h xb A t n0) : ∀ j ∈ [xb] ++ blk t.va ++ blk t.ra, j < h.n := fun j hj => by
 obtain ⟨c, g, -⟩ := k.xc
 simp only [List.cons_append, List.nil_append, List.mem_cons, List.mem_append] at hj
 rcases hj with rfl | q | q
 · exact AHeap.lt g
 · exact k.wv.lt j q
 · exact k.rv.lt j q
theorem RX.out (k : RX h xb A t n0) {a : Option Addr} {len cap : Nat} {cs : List Value} (d : Sv h 5 1 a len cap cs) : ∀ i ∈ blk a, i ∉ [xb] ++ blk t.va ++ blk t.ra := fun i hi hm => by
 obtain ⟨c, g, -⟩ := k.xc
 simp only [List.cons_append, List.nil_append, List.mem_cons, List.mem_append] at hm
 rcases hm with rfl | q | q
 · exact sv_out d g (fun c e => by cases e) hi
 · exact sv_sv d k.wv (by decide) i hi q
 · exact sv_sv d k.rv (by decide) i hi q
theorem RX.apart (k : RX h xb A t n0) : xb ∉ blk t.va ∧ xb ∉ blk t.ra ∧ ∀ j ∈ blk t.va, j ∉ blk t.ra := by
 obtain ⟨c, g, -⟩ := k.xc
 exact ⟨sv_out k.wv g (fun c e => by cases e), sv_out k.rv g (fun c e => by cases e), sv_sv k.wv k.rv (by decide)⟩
theorem RX.setReady (k : RX h xb A t n0) {c : List Value} {ra' : Option Addr} {rc' : Nat} {m : IM} (R : RXc c A t.nx t.va t.waits.length t.vc t.ra t.ready.length t.rc) (kk : Keeps ([xb] ++ blk t.ra) h h') (gx : h'.get xb = some (.cells (setL c 65542 [.slice ra' (t.ready.length + 1) rc']) 61)) (sv : Sv h' 39 4 ra' (t.ready.length + 1) rc' (ics t.ready ++ iC m)) (ho : Own n0 ra') (hb : m.sid < 65536 ∧ m.ppid < 4294967296) (hz : Sv h' 5 1 m.a m.z.length m.cap (m.z.map bv)) : RX h' xb A { t with ra := ra', rc := rc', ready := t.ready ++ [m] } n0 := by
 have hl : (t.ready ++ [m]).length = t.ready.length + 1 := by simp
 have hd : ∀ {a : Option Addr} {len cap : Nat} {cs : List Value}, Sv h 5 1 a len cap cs → Sv h' 5 1 a len cap cs := fun d => d.keeps kk (fun i hi hm => k.out d i hi (by simp only [List.mem_append] at hm ⊢; exact hm.elim (fun q => .inl (.inl q)) .inr))
 have R7 := R.set7 ra' (t.ready.length + 1) rc'
 rw [← hl] at gx sv R7
 rw [← ics_snoc] at sv
 refine ⟨⟨_, gx, R7⟩, k.wv.keeps kk (fun i hi hm => ?_), sv, fun q hq => ?_, fun q hq => hd (k.dw q hq), fun q hq => ?_, k.mw, k.wk, k.ow.1, k.ow.2.1, ho⟩
 ·
  rcases List.mem_append.1 hm with z | z
  · rw [List.mem_singleton.1 z] at hi; exact k.apart.1 hi
  · exact k.apart.2.2 i hi z
 ·
  rcases List.mem_append.1 hq with z | z
  · exact hd (k.dr q z)
  · rw [List.mem_singleton.1 z]; exact hz
 ·
  rcases List.mem_append.1 hq with z | z
  · exact k.mr q z
  · rw [List.mem_singleton.1 z]; exact hb
theorem RX.setWaits (k : RX h xb A t n0) {c : List Value} {va' : Option Addr} {vc' : Nat} {W : WL} (R : RXc c A t.nx t.va t.waits.length t.vc t.ra t.ready.length t.rc) (kk : Keeps ([xb] ++ blk t.va) h h') (gx : h'.get xb = some (.cells (setL c 65541 [.slice va' W.length vc']) 61)) (sv : Sv h' 99 5 va' W.length vc' (vws W)) (ho : Own n0 va') (hw : ∀ p ∈ W, p ∈ t.waits ∨ (p.1.1 = p.2.sid ∧ p.1.1 < 65536 ∧ p.1.2 < 65536) ∧ p.2.ppid < 4294967296 ∧ Sv h' 5 1 p.2.a p.2.z.length p.2.cap (p.2.z.map bv)) : RX h' xb A { t with va := va', vc := vc', waits := W } n0 := by
 have hd : ∀ {a : Option Addr} {len cap : Nat} {cs : List Value}, Sv h 5 1 a len cap cs → Sv h' 5 1 a len cap cs := fun d => d.keeps kk (fun i hi hm => k.out d i hi (by simp only [List.mem_append] at hm ⊢; exact .inl hm))
 refine ⟨⟨_, gx, R.set6 va' W.length vc'⟩, sv, k.rv.keeps kk (fun i hi hm => ?_), fun q hq => hd (k.dr q hq), fun q hq => ?_, k.mr, fun q hq => ?_, fun p hp => ?_, k.ow.1, ho, k.ow.2.2⟩
 ·
  rcases List.mem_append.1 hm with z | z
  · rw [List.mem_singleton.1 z] at hi; exact k.apart.2.1 hi
  · exact k.apart.2.2 i z hi
 ·
  obtain ⟨p, hp, rfl⟩ := List.mem_map.1 hq
  rcases hw p hp with z | z
  · exact hd (k.dw p.2 (List.mem_map.2 ⟨p, z, rfl⟩))
  · exact z.2.2
 ·
  obtain ⟨p, hp, rfl⟩ := List.mem_map.1 hq
  rcases hw p hp with z | z
  · exact k.mw p.2 (List.mem_map.2 ⟨p, z, rfl⟩)
  · exact ⟨by rw [← z.1.1]; exact z.1.2.1, z.2.1⟩
 ·
  rcases hw p hp with z | z
  · exact k.wk p z
  · exact z.1
theorem RX.setNext (k : RX h xb A t n0) {c : List Value} {s v : Nat} (hs : s < 65536) (hv : v < 65536) (R : RXc c A t.nx t.va t.waits.length t.vc t.ra t.ready.length t.rc) (kk : Keeps [xb] h h') (gx : h'.get xb = some (.cells (setL c (5 + s) [.int .u16 (v : Nat)]) 61)) : RX h' xb A { t with nx := upd1 t.nx s v } n0 := by
 have hd : ∀ {a : Option Addr} {len cap : Nat} {cs : List Value}, Sv h 5 1 a len cap cs → Sv h' 5 1 a len cap cs := fun d => d.keeps kk (fun i hi hm => k.out d i hi (by simp only [List.mem_append] at hm ⊢; exact .inl (.inl hm)))
 exact ⟨⟨_, gx, R.setn hs hv⟩, k.wv.keeps kk (fun i hi hm => by rw [List.mem_singleton.1 hm] at hi; exact k.apart.1 hi), k.rv.keeps kk (fun i hi hm => by rw [List.mem_singleton.1 hm] at hi; exact k.apart.2.1 hi), fun q hq => hd (k.dr q hq), fun q hq => hd (k.dw q hq), k.mr, k.mw, k.wk, k.ow⟩
end
set_option maxHeartbeats 8000000 in
theorem rway16_spec (a b : Nat) (ha : a < 65536) (hb : b < 65536) (h : AHeap) : CallS Try.prog [] 40 [.int .i64 a, .int .i64 b, .int .i64 (65536 : Nat)] h fun v h' => v = .int .i64 (span16 a b : Nat) ∧ h' = h := by
 (refine CallS.of3 Try.func40 rfl Try.ntmps40 Try.results40 rfl ?_)
 rcases Nat.lt_or_ge b a with q | q
 ·
  have e : span16 a b = 65536 + b - a := by unfold span16; omega
  rw [e]
  (refine Go.run (g:=?_))
  (first|refine Go.finA rfl ?_|refine Go.finB rfl (hq:=?_))
  exact ⟨rfl, rfl⟩
 ·
  have e : span16 a b = b - a := by unfold span16; omega
  rw [e]
  (refine Go.run (g:=?_))
  (first|refine Go.finA rfl ?_|refine Go.finB rfl (hq:=?_))
  exact ⟨rfl, rfl⟩
set_option maxHeartbeats 8000000 in
theorem rbefore16_spec (a b : Nat) (ha : a < 65536) (hb : b < 65536) (h : AHeap) : CallS Try.prog [] 63 [.int .u16 a, .int .u16 b] h fun v h' => v = .bool (bef16 a b) ∧ h' = h := by
 have hw := rway16_spec a b ha hb
 have hl := span16_lt a b
 have hb16 : bef16 a b = (decide (0 < span16 a b) && decide (span16 a b < 32768)) := rfl
 rw [hb16]
 generalize span16 a b = s at *
 (refine CallS.of2 Try.func63 rfl Try.ntmps63 Try.results63 rfl ?_)
 (refine Go.run (g:=?_))
 refine GoR.call rfl rfl rfl rfl rfl rfl rfl (((hw _).argA).mono ?_)
 rintro _ h2 ⟨rfl, rfl⟩ -
 rcases Nat.lt_or_ge 0 s with s0 | s0
 case inr =>
  obtain rfl : s = 0 := by omega
  (refine Go.run (g:=?_))
  (first|refine Go.finA rfl ?_|refine Go.finB rfl (hq:=?_))
  exact ⟨rfl, rfl⟩
 (refine Go.run (g:=?_))
 (first|refine Go.finA rfl ?_|refine Go.finB rfl (hq:=?_))
 refine ⟨?_, rfl⟩
 simp only [retV]
 rw [decide_eq_true s0, Bool.true_and]
 exact congrArg Value.bool (decide_eq_decide.2 (by omega))
set_option maxHeartbeats 64000000 in
theorem whole10_spec (xb : Nat) (A : RA) (t : RT) (n0 : Nat) (m : IM) (ssn : Nat) (hss : ssn < 65536) (hl : t.ready.length + t.waits.length ≤ 900000) (h : AHeap) (hn0 : n0 ≤ h.n) (k : RX h xb A t n0) (hm : m.sid < 65536 ∧ m.ppid < 4294967296) (hz : Sv h 5 1 m.a m.z.length m.cap (m.z.map bv)) : CallS Try.prog ([xb] ++ blk t.va ++ blk t.ra) 44 [.pointer (some ⟨xb, 0, none⟩), iV m, .int .u16 ssn] h fun v h' => ∃ va' vc' ra' rc', RX h' xb A { t with va := va', vc := vc', ra := ra', rc := rc', nx := (rmsgN t.nx t.waits t.ready m ssn).1, waits := (rmsgN t.nx t.waits t.ready m ssn).2.1, ready := (rmsgN t.nx t.waits t.ready m ssn).2.2 } n0 ∧ ∀ i ∈ blk ra', i ∈ [xb] ++ blk t.va ++ blk t.ra ∨ h.n ≤ i := by
 have xlt := k.lts
 obtain ⟨hm1, hm2⟩ := hm
 obtain ⟨c, gx, R⟩ := k.xc
 have c6 := R.c6
 have c7 := R.c7
 have cn := R.cn m.sid hm1
 have cl := R.l
 have xap := k.apart
 (refine CallS.of3 Try.func44 rfl Try.ntmps44 Try.results44 rfl ?_)
 simp only [iV, iC]
 refine Go.runN (g:=?_)
 refine Go.name ?_
 intro h1 e1
 have s1 : Same h h1 := by subst e1; exact (Same.refl h).push _
 have g4 : h1.get h.n = some (.cells [.int .u16 (m.sid : Nat), .bool m.un, .int .u32 (m.ppid : Nat), .slice m.a m.z.length m.cap] 39) := by subst e1; exact hg_
 have n1 : h1.n = h.n + 1 := by subst e1; rfl
 clear e1
 have K := k.same s1
 have gx := s1.get gx
 have hz1 := hz.same s1
 have oR : ∀ i ∈ blk t.ra, i ∈ [xb] ++ blk t.va ++ blk t.ra ∨ h.n + 1 ≤ i := fun i hi => .inl (by simp [hi])
 have oV : ∀ i ∈ blk t.va, i ∈ [xb] ++ blk t.va ++ blk t.ra ∨ h.n ≤ i := fun i hi => .inl (by simp [hi])
 have hxb : xb < h.n := xlt xb (by simp)
 clear k s1
 obtain ⟨tt, htt⟩ : ∃ tt, tt = t := ⟨_, rfl⟩
 have oR : ∀ i ∈ blk tt.ra, i ∈ [xb] ++ blk t.va ++ blk t.ra ∨ h.n + 1 ≤ i := by rw [htt]; exact oR
 have K : RX h1 xb A tt n0 := by rw [htt]; exact K
 have R : RXc c A tt.nx tt.va tt.waits.length tt.vc tt.ra tt.ready.length tt.rc := by rw [htt]; exact R
 have htl : tt.ready.length + tt.waits.length ≤ 900000 := by rw [htt]; exact hl
 have c6 : c[65541]? = some (.slice tt.va tt.waits.length tt.vc) := R.c6
 have c7 : c[65542]? = some (.slice tt.ra tt.ready.length tt.rc) := R.c7
 cases hun : m.un with
 | true =>
  have hmsg : rmsgN t.nx t.waits t.ready m ssn = (t.nx, t.waits, t.ready ++ [m]) := by unfold rmsgN; rw [if_pos hun]
  refine Go.runN (g:=?_)
  refine Go.kk 2 rfl ?_
  refine Go.loud (by kernel_rfl) rfl ?_
  (refine Go.runL (g:=?_))
  refine GoL.buildRo rfl rfl rfl rfl rfl (by decide) (by rfl) (by rfl) ?_
  intro b8 h8 hb8 rb8 ob8 s8 n8
  have m8 := s8.1
  have rr := K.rv
  have rlt := rr.lt
  refine GoL.appendV rfl rfl rfl rfl rfl rfl (rr.same s8) hb8 (fun i hi => (oR i hi).imp id fun q => Nat.le_of_succ_le q) (by omega) (by omega) (by rfl) ?_
  intro b9 c9 h9 rd9 wr9 hwr9 hrd9 sv9 k9 o9
  have m9 := k9.1
  have gx9 := k9.get (s8.get gx) K.apart.2.1
  have hdis : ∀ b ∈ wr9, b ≠ xb ∧ b < h1.n := fun b hb => by
   have q := hwr9 b hb
   exact ⟨fun e => K.apart.2.1 (by rw [← e]; exact q), rlt b q⟩
  have hdis2 := hdis
  (refine Go.runL (g:=?_))
  refine GoL.st (g:=?_)
  (refine Go.runL (g:=?_))
  refine GoL.endC (g:=?_)
  clear hdis hdis2
  refine Go.name ?_
  intro h10 e10
  have k10 : Keeps [xb] h9 h10 := by subst e10; exact (Keeps.rf _ _).pt (.inl (by simp)) _
  have gx10 : h10.get xb = some (.cells (setL c 65542 [.slice b9 (tt.ready.length + 1) c9]) 61) := by subst e10; exact get_put_self gx9
  clear e10
  have m10 := k10.1
  have kk : Keeps ([xb] ++ blk tt.ra) h1 h10 := ⟨by omega, fun j hj hn => by
   simp only [List.mem_append, List.mem_singleton, not_or] at hn
   rw [k10.2 j (by omega) (by simp; exact hn.1), k9.2 j (by omega) hn.2, s8.2 j hj]⟩
  have xb9 : xb ∉ blk b9 := sv_out sv9 gx9 (fun c e => by cases e)
  have sv10 := sv9.keeps k10 (fun j hj => by simp only [List.mem_singleton]; intro e; rw [e] at hj; exact xb9 hj)
  have o10 : ∀ i ∈ blk b9, i ∈ [xb] ++ blk t.va ++ blk t.ra ∨ h.n + 1 ≤ i := fun i hi => by
   rcases o9 i hi with q | q
   · exact oR i q
   · exact .inr (by omega)
  have w10 : Own n0 b9 := fun i hi => by
   rcases o9 i hi with q | q
   · exact K.ow.2.2 i q
   · omega
  have KE := K.setReady (m := m) R kk gx10 sv10 w10 ⟨hm1, hm2⟩ (hz1.keeps kk (fun i hi hj => K.out hz1 i hi (by simp only [List.mem_append] at hj ⊢; exact hj.elim (fun q => .inl (.inl q)) .inr)))
  (refine Go.run (g:=?_))
  (first|refine Go.finA rfl ?_|refine Go.finB rfl (hq:=?_))
  exact ⟨tt.va, tt.vc, b9, c9, by rw [hmsg, ← htt]; exact KE, fun i hi => (o10 i hi).imp id fun q => by omega⟩
 | false =>
  have hunf : ¬ m.un = true := by rw [hun]; decide
  by_cases hnx : ssn = t.nx m.sid
  case neg =>
   have hbs := rbefore16_spec (t.nx m.sid) ssn (by rw [← htt]; exact R.nb _) hss
   (refine Go.run (g:=?_))
   refine GoR.call rfl rfl rfl rfl rfl rfl rfl (((hbs _).argA).mono ?_)
   rintro _ h3 ⟨rfl, rfl⟩ -
   cases hbv : bef16 (t.nx m.sid) ssn with
   | false =>
    have hmsg : rmsgN t.nx t.waits t.ready m ssn = (t.nx, t.waits, t.ready) := by unfold rmsgN; rw [if_neg hunf, if_neg hnx, if_neg (fun q => by rw [hbv] at q; exact absurd q.1 (by decide))]
    (refine Go.run (g:=?_))
    (first|refine Go.finA rfl ?_|refine Go.finB rfl (hq:=?_))
    exact ⟨tt.va, tt.vc, tt.ra, tt.rc, by rw [hmsg, ← htt]; exact K, fun i hi => (oR i hi).imp id fun q => by omega⟩
   | true =>
    (refine Go.run (g:=?_))
    refine GoR.call rfl rfl rfl rfl rfl rfl rfl (((find10_spec xb c tt.waits tt.va tt.vc m.sid ssn hm1 hss (by omega) K.wk _ gx c6 K.wv.rv).argA).mono ?_)
    rintro _ h4 ⟨rfl, hv4⟩ -
    rcases hv4 with ⟨rfl, hno⟩ | ⟨i, i0, rfl, -, hyes, -⟩
    ·
     have hmsg : rmsgN t.nx t.waits t.ready m ssn = (t.nx, t.waits ++ [((m.sid, ssn), m)], t.ready) := by unfold rmsgN; rw [if_neg hunf, if_neg hnx, if_pos ⟨hbv, by rw [← htt]; exact hno⟩]
     refine Go.runN (g:=?_)
     refine Go.kk 2 rfl ?_
     refine Go.loud (by kernel_rfl) rfl ?_
     (refine Go.runL (g:=?_))
     refine GoL.buildRo rfl rfl rfl rfl rfl (by decide) (by rfl) (by rfl) ?_
     intro b8 h8 hb8 rb8 ob8 s8 n8
     have m8 := s8.1
     have rr := K.wv
     have rlt := rr.lt
     refine GoL.appendV rfl rfl rfl rfl rfl rfl (rr.same s8) hb8 (by rw [htt]; exact oV) (by omega) (by omega) (by rfl) ?_
     intro b9 c9 h9 rd9 wr9 hwr9 hrd9 sv9 k9 o9
     have m9 := k9.1
     have gx9 := k9.get (s8.get gx) K.apart.1
     have hdis : ∀ b ∈ wr9, b ≠ xb ∧ b < h4.n := fun b hb => by
      have q := hwr9 b hb
      exact ⟨fun e => K.apart.1 (by rw [← e]; exact q), rlt b q⟩
     have hdis2 := hdis
     (refine Go.runL (g:=?_))
     refine GoL.st (g:=?_)
     (refine Go.runL (g:=?_))
     refine GoL.endC (g:=?_)
     clear hdis hdis2
     refine Go.name ?_
     intro h10 e10
     have k10 : Keeps [xb] h9 h10 := by subst e10; exact (Keeps.rf _ _).pt (.inl (by simp)) _
     have gx10 : h10.get xb = some (.cells (setL c 65541 [.slice b9 (tt.waits.length + 1) c9]) 61) := by subst e10; exact get_put_self gx9
     clear e10
     have m10 := k10.1
     have kk : Keeps ([xb] ++ blk tt.va) h4 h10 := ⟨by omega, fun j hj hn => by
      simp only [List.mem_append, List.mem_singleton, not_or] at hn
      rw [k10.2 j (by omega) (by simp; exact hn.1), k9.2 j (by omega) hn.2, s8.2 j hj]⟩
     have xb9 : xb ∉ blk b9 := sv_out sv9 gx9 (fun c e => by cases e)
     have sv10 := sv9.keeps k10 (fun j hj => by simp only [List.mem_singleton]; intro e; rw [e] at hj; exact xb9 hj)
     have w10 : Own n0 b9 := fun i hi => by
      rcases o9 i hi with q | q
      · exact K.ow.2.1 i q
      · omega
     have sv10 : Sv h10 99 5 b9 (tt.waits.length + 1) c9 (vws tt.waits ++ vws [((m.sid, ssn), m)]) := sv10
     rw [← vws_app] at sv10
     have hle : (tt.waits ++ [((m.sid, ssn), m)]).length = tt.waits.length + 1 := by simp
     rw [← hle] at sv10 gx10
     have KE := K.setWaits R kk gx10 sv10 w10 (fun p hp => by
      rcases List.mem_append.1 hp with z | z
      · exact .inl z
      ·
       rw [List.mem_singleton.1 z]
       exact .inr ⟨⟨rfl, hm1, hss⟩, hm2, hz1.keeps kk (fun i hi hj => K.out hz1 i hi (by simp only [List.mem_append] at hj ⊢; exact .inl hj))⟩)
     (refine Go.run (g:=?_))
     (first|refine Go.finA rfl ?_|refine Go.finB rfl (hq:=?_))
     exact ⟨b9, c9, tt.ra, tt.rc, by rw [hmsg, ← htt]; exact KE, fun i hi => (oR i hi).imp id fun q => by omega⟩
    ·
     have hmsg : rmsgN t.nx t.waits t.ready m ssn = (t.nx, t.waits, t.ready) := by unfold rmsgN; rw [if_neg hunf, if_neg hnx, if_neg (fun q => by rw [← htt, hyes] at q; cases q.2)]
     (refine Go.run (g:=?_))
     (first|refine Go.finA rfl ?_|refine Go.finB rfl (hq:=?_))
     exact ⟨tt.va, tt.vc, tt.ra, tt.rc, by rw [hmsg, ← htt]; exact K, fun i hi => (oR i hi).imp id fun q => by omega⟩
  (refine Go.run (g:=?_))
  refine Go.kk 2 rfl ?_
  refine Go.loud (by kernel_rfl) rfl ?_
  (refine Go.runL (g:=?_))
  refine GoL.buildRo rfl rfl rfl rfl rfl (by decide) (by rfl) (by rfl) ?_
  intro b8 h8 hb8 rb8 ob8 s8 n8
  have m8 := s8.1
  have rr := K.rv
  have rlt := rr.lt
  refine GoL.appendV rfl rfl rfl rfl rfl rfl (rr.same s8) hb8 (fun i hi => (oR i hi).imp id fun q => Nat.le_of_succ_le q) (by omega) (by omega) (by rfl) ?_
  intro b9 c9 h9 rd9 wr9 hwr9 hrd9 sv9 k9 o9
  have m9 := k9.1
  have gx9 := k9.get (s8.get gx) K.apart.2.1
  have hdis : ∀ b ∈ wr9, b ≠ xb ∧ b < h1.n := fun b hb => by
   have q := hwr9 b hb
   exact ⟨fun e => K.apart.2.1 (by rw [← e]; exact q), rlt b q⟩
  have hdis2 := hdis
  (refine Go.runL (g:=?_))
  refine GoL.st (g:=?_)
  (refine Go.runL (g:=?_))
  refine GoL.endC (g:=?_)
  clear hdis hdis2
  refine Go.name ?_
  intro h10 e10
  have k10 : Keeps [xb] h9 h10 := by subst e10; exact (Keeps.rf _ _).pt (.inl (by simp)) _
  have gx10 : h10.get xb = some (.cells (setL c 65542 [.slice b9 (tt.ready.length + 1) c9]) 61) := by subst e10; exact get_put_self gx9
  clear e10
  have m10 := k10.1
  have kk : Keeps ([xb] ++ blk tt.ra) h1 h10 := ⟨by omega, fun j hj hn => by
   simp only [List.mem_append, List.mem_singleton, not_or] at hn
   rw [k10.2 j (by omega) (by simp; exact hn.1), k9.2 j (by omega) hn.2, s8.2 j hj]⟩
  have xb9 : xb ∉ blk b9 := sv_out sv9 gx9 (fun c e => by cases e)
  have sv10 := sv9.keeps k10 (fun j hj => by simp only [List.mem_singleton]; intro e; rw [e] at hj; exact xb9 hj)
  have o10 : ∀ i ∈ blk b9, i ∈ [xb] ++ blk t.va ++ blk t.ra ∨ h.n + 1 ≤ i := fun i hi => by
   rcases o9 i hi with q | q
   · exact oR i q
   · exact .inr (by omega)
  have w10 : Own n0 b9 := fun i hi => by
   rcases o9 i hi with q | q
   · exact K.ow.2.2 i q
   · omega
  have KE := K.setReady (m := m) R kk gx10 sv10 w10 ⟨hm1, hm2⟩ (hz1.keeps kk (fun i hi hj => K.out hz1 i hi (by simp only [List.mem_append] at hj ⊢; exact hj.elim (fun q => .inl (.inl q)) .inr)))
  have g4b := kk.get (show h1.get h.n = _ from g4) (fun q => by
   rcases List.mem_append.1 q with z | z
   · rw [List.mem_singleton] at z; omega
   · have := xlt h.n (by rw [← htt]; simp [z]); omega)
  obtain ⟨T, hT⟩ : ∃ T, T = drainN (t.waits.length + 1) m.sid (nx16 ssn) t.waits (t.ready ++ [m]) := ⟨_, rfl⟩
  have hmsg : rmsgN t.nx t.waits t.ready m ssn = (upd1 t.nx m.sid T.1, T.2.1, T.2.2) := by unfold rmsgN; rw [if_neg hunf, if_pos hnx, ← hT]
  have n10 : h1.n ≤ h10.n := kk.1
  clear K R gx c6 c7 cn cl hb8 sv9 sv10 kk k9 k10 s8 gx9 gx10 hwr9 hrd9 rr rlt
  obtain ⟨c, gx, R⟩ := KE.xc
  obtain ⟨t2, ht2⟩ : ∃ t2 : RT, t2 = { tt with ra := b9, rc := c9, ready := tt.ready ++ [m] } := ⟨_, rfl⟩
  rw [← ht2] at KE
  have cn := R.cn m.sid hm1
  have cl := R.l
  have cn : c[5 + m.sid]? = some (.int .u16 (ssn : Nat)) := by rw [hnx, ← htt]; exact cn
  refine Go.kk 0 rfl ?_
  refine Go.seq ?_
  refine Go.kk 2 rfl ?_
  refine Go.loud (by kernel_rfl) rfl ?_
  (refine Go.runL (g:=?_))
  refine GoL.bin rfl rfl rfl rfl rfl rfl (add16n _) ?_
  (refine Go.runL (g:=?_))
  refine GoL.st (g:=?_)
  (refine Go.runL (g:=?_))
  have hdis : ∀ b ∈ [xb], b ≠ h.n := fun b hb => by rw [List.mem_singleton] at hb; omega
  have hdis2 := hdis
  refine GoL.endC (g:=?_)
  clear hdis hdis2
  refine Go.name ?_
  intro hB eB
  have kB : Keeps [xb] h10 hB := by subst eB; exact (Keeps.rf _ _).pt (.inl (by simp)) _
  have gxB : hB.get xb = some (.cells (setL c (5 + m.sid) [.int .u16 (nx16 ssn : Nat)]) 61) := by
   subst eB
   rw [← show 0 + 5 + ((m.sid : Nat) : Int).toNat * 1 = 5 + m.sid by omega]
   exact get_put_self gx
  clear eB
  have KB0 := KE.setNext hm1 (nx16_lt ssn) (by rw [ht2]; exact R) kB gxB
  have g4B := kB.get g4b (by simp only [List.mem_singleton]; omega)
  have mB := kB.1
  obtain ⟨t3, ht3⟩ : ∃ t3 : RT, t3 = { t2 with nx := upd1 t2.nx m.sid (nx16 ssn) } := ⟨_, rfl⟩
  have KB : RX hB xb A t3 n0 := by rw [ht3]; exact KB0
  clear KB0 R gx cn cl KE gxB kB g4b
  obtain ⟨c, gx, R⟩ := KB.xc
  have cn := R.cn m.sid hm1
  have cl := R.l
  have c6 := R.c6
  have c7 := R.c7
  have cn : c[5 + m.sid]? = some (.int .u16 (nx16 ssn : Nat)) := by rw [cn, ht3]; simp [upd1]
  have hx3 : t3.waits = t.waits ∧ t3.ready = t.ready ++ [m] ∧ t3.nx = upd1 t.nx m.sid (nx16 ssn) ∧ t3 = { t with va := t3.va, vc := t3.vc, ra := t3.ra, rc := t3.rc, nx := t3.nx, waits := t3.waits, ready := t3.ready } ∧ t3.ra = b9 ∧ t3.va = t.va := by
   rw [ht3, ht2, htt]; exact ⟨rfl, rfl, rfl, rfl, rfl, rfl⟩
  obtain ⟨hw3, hr3, hnx3, hts3, hra3, hva3⟩ := hx3
  have hl3 : t3.ready.length + t3.waits.length ≤ 900001 := by rw [hr3, hw3]; simp only [List.length_append, List.length_cons, List.length_nil]; omega
  have hw0 : t3.waits.length < t.waits.length + 1 := by rw [hw3]; omega
  generalize t.waits.length + 1 = f0 at hT hw0
  rw [← hw3, ← hr3] at hT
  rw [← hra3] at o10
  rw [← hva3] at oV
  have oV3 : ∀ i ∈ blk t3.va, i ∈ [xb] ++ blk t.va ++ blk t.ra ∨ h.n ≤ i := fun i hi => by
   have := oV i hi
   rw [hva3] at this; exact this
  (refine Go.run (g:=?_))
  refine GoR.call rfl rfl rfl rfl rfl rfl rfl (((find10_spec xb c t3.waits t3.va t3.vc m.sid (nx16 ssn) hm1 (nx16_lt _) (by omega) KB.wk _ gx c6 KB.wv.rv).argA).mono ?_)
  rintro v5 h5 ⟨rfl, hv5⟩ -
  obtain ⟨i5, rfl, hf5⟩ : ∃ i5 : Int, v5 = .int .i64 i5 ∧ ((i5 = -1 ∧ gl t3.waits (m.sid, nx16 ssn) = none) ∨ ∃ k, ∃ hk : k < t3.waits.length, i5 = (k : Nat) ∧ t3.waits[k].1 = (m.sid, nx16 ssn) ∧ gl t3.waits (m.sid, nx16 ssn) = some t3.waits[k].2 ∧ gdel t3.waits (m.sid, nx16 ssn) = t3.waits.take k ++ t3.waits.drop (k + 1)) := by
   rcases hv5 with ⟨rfl, q⟩ | ⟨k, hk, rfl, q⟩
   · exact ⟨-1, rfl, .inl ⟨rfl, q⟩⟩
   · exact ⟨k, rfl, .inr ⟨k, hk, rfl, q⟩⟩
  have e16 := nx16_lt ssn
  generalize nx16 ssn = t0 at *
  clear R gx c6 c7 cn cl
  (refine Go.run (g:=?_))
  refine Go.loop (α := Nat × Nat × RT × Int × AHeap) (fun x => [(7, .int .i64 x.2.2.2.1), (4, .pointer (some ⟨h.n, 0, none⟩)), (0, .pointer (some ⟨xb, 0, none⟩))]) (fun _ => []) (fun x => x.2.2.2.2) (fun x => RX x.2.2.2.2 xb A x.2.2.1 n0 ∧ x.2.2.1 = { t with va := x.2.2.1.va, vc := x.2.2.1.vc, ra := x.2.2.1.ra, rc := x.2.2.1.rc, nx := x.2.2.1.nx, waits := x.2.2.1.waits, ready := x.2.2.1.ready } ∧ x.2.2.1.nx = upd1 t.nx m.sid x.2.1 ∧ x.2.2.2.2.get h.n = some (.cells [.int .u16 (m.sid : Nat), .bool m.un, .int .u32 (m.ppid : Nat), .slice m.a m.z.length m.cap] 39) ∧ h1.n ≤ x.2.2.2.2.n ∧ (∀ i ∈ blk x.2.2.1.ra, i ∈ [xb] ++ blk t.va ++ blk t.ra ∨ h.n + 1 ≤ i) ∧ (∀ i ∈ blk x.2.2.1.va, i ∈ [xb] ++ blk t.va ++ blk t.ra ∨ h.n ≤ i) ∧ x.2.2.1.ready.length + x.2.2.1.waits.length ≤ 900001 ∧ x.2.1 < 65536 ∧ x.2.2.1.waits.length < x.1 ∧ drainN x.1 m.sid x.2.1 x.2.2.1.waits x.2.2.1.ready = T ∧ ((x.2.2.2.1 = -1 ∧ gl x.2.2.1.waits (m.sid, x.2.1) = none) ∨ ∃ k, ∃ hk : k < x.2.2.1.waits.length, x.2.2.2.1 = (k : Nat) ∧ x.2.2.1.waits[k].1 = (m.sid, x.2.1) ∧ gl x.2.2.1.waits (m.sid, x.2.1) = some x.2.2.1.waits[k].2 ∧ gdel x.2.2.1.waits (m.sid, x.2.1) = x.2.2.1.waits.take k ++ x.2.2.1.waits.drop (k + 1))) (fun x => x.2.2.1.waits.length) (f0, t0, t3, i5, h5) ⟨KB, hts3, hnx3, g4B, by simp only; omega, o10, oV3, hl3, e16, hw0, hT.symm, hf5⟩ ⟨rfl, rfl, rfl, trivial⟩ rfl rfl ?_
  clear KB hts3 hnx3 g4B o10 oV3 hl3 e16 hw0 hf5 hT
  rintro ⟨f, tv, tt, i, H⟩ ⟨K, hts, hnxs, g4, nH, oR, oV', htl, htv, hwf, hT, hfind⟩
  simp only at K hts hnxs g4 nH oR oV' htl htv hwf hT hfind ⊢
  rcases hfind with ⟨rfl, hno⟩ | ⟨i, hk, rfl, hkey, hgl, hgd⟩
  ·
   obtain ⟨f', rfl⟩ : ∃ f', f = f' + 1 := ⟨f - 1, by omega⟩
   rw [drainN_none hno] at hT
   (refine Go.run (g:=?_))
   (first|refine Go.finA rfl ?_|refine Go.finB rfl (hq:=?_))
   refine ⟨tt.va, tt.vc, tt.ra, tt.rc, ?_, fun i hi => (oR i hi).imp id fun q => by omega⟩
   rw [hmsg, ← hT]
   rw [hts] at K
   rw [← hnxs]
   exact K
  obtain ⟨c, gx, R⟩ := K.xc
  have c6 := R.c6
  have c7 := R.c7
  have cl := R.l
  have wv := K.wv
  obtain ⟨q, hq⟩ : ∃ q, tt.waits[i].2 = q := ⟨_, rfl⟩
  have hqm : q ∈ tt.waits.map (·.2) := by rw [← hq]; exact List.mem_map.2 ⟨_, List.getElem_mem hk, rfl⟩
  have hqz := K.dw q hqm
  have hqb := K.mw q hqm
  have c0 := vws_get hk
  have hbl : i * 5 < (vws tt.waits).length := by rw [vws_len]; omega
  have hb0 : i * 5 + 0 < (vws tt.waits).length := hbl
  have hb4 : i * 5 + 0 + 4 ≤ (vws tt.waits).length := by rw [vws_len]; omega
  have hd4 : ((vws tt.waits).drop (i * 5 + 0)).take 4 = [.int .u16 (q.sid : Nat), .bool q.un, .int .u32 (q.ppid : Nat), .slice q.a q.z.length q.cap] := by
   have e : wC tt.waits[i] = iC q ++ [.int .u16 (tt.waits[i].1.2 : Nat)] := by unfold wC; rw [hq]
   rw [e] at c0
   have := congrArg (List.take 4) c0
   rw [List.take_take] at this
   exact this
  rw [hq] at hgl
  clear c0
  refine Go.runN (g:=?_)
  refine Go.kk 2 rfl ?_
  refine Go.loud (by kernel_rfl) rfl ?_
  (refine Go.runL (g:=?_))
  refine GoL.buildRo rfl rfl rfl rfl rfl (by decide) (by rfl) (by rfl) ?_
  intro b8 h8 hb8 rb8 ob8 s8 n8
  have m8 := s8.1
  have rr := K.rv
  have rlt := rr.lt
  refine GoL.appendV rfl rfl rfl rfl rfl rfl (rr.same s8) hb8 (fun i hi => (oR i hi).imp id fun q => Nat.le_of_succ_le q) (by omega) (by omega) (by rfl) ?_
  intro b9 c9 h9 rd9 wr9 hwr9 hrd9 sv9 k9 o9
  have m9 := k9.1
  have gx9 := k9.get (s8.get gx) K.apart.2.1
  have hdis : ∀ b ∈ wr9, b ≠ xb ∧ b < H.n := fun b hb => by
   have q := hwr9 b hb
   exact ⟨fun e => K.apart.2.1 (by rw [← e]; exact q), rlt b q⟩
  have hdis2 := hdis
  (refine Go.runL (g:=?_))
  refine GoL.st (g:=?_)
  (refine Go.runL (g:=?_))
  refine GoL.endC (g:=?_)
  clear hdis hdis2
  refine Go.name ?_
  intro h10 e10
  have k10 : Keeps [xb] h9 h10 := by subst e10; exact (Keeps.rf _ _).pt (.inl (by simp)) _
  have gx10 : h10.get xb = some (.cells (setL c 65542 [.slice b9 (tt.ready.length + 1) c9]) 61) := by subst e10; exact get_put_self gx9
  clear e10
  have m10 := k10.1
  have kk : Keeps ([xb] ++ blk tt.ra) H h10 := ⟨by omega, fun j hj hn => by
   simp only [List.mem_append, List.mem_singleton, not_or] at hn
   rw [k10.2 j (by omega) (by simp; exact hn.1), k9.2 j (by omega) hn.2, s8.2 j hj]⟩
  have xb9 : xb ∉ blk b9 := sv_out sv9 gx9 (fun c e => by cases e)
  have sv10 := sv9.keeps k10 (fun j hj => by simp only [List.mem_singleton]; intro e; rw [e] at hj; exact xb9 hj)
  have o10 : ∀ i ∈ blk b9, i ∈ [xb] ++ blk t.va ++ blk t.ra ∨ h.n + 1 ≤ i := fun i hi => by
   rcases o9 i hi with q | q
   · exact oR i q
   · exact .inr (by omega)
  have w10 : Own n0 b9 := fun i hi => by
   rcases o9 i hi with q | q
   · exact K.ow.2.2 i q
   · omega
  have KE0 := K.setReady (m := q) R kk gx10 sv10 w10 hqb (hqz.keeps kk (fun i hi hj => K.out hqz i hi (by simp only [List.mem_append] at hj ⊢; exact hj.elim (fun q => .inl (.inl q)) .inr)))
  have nH0 : H.n ≤ h10.n := kk.1
  have g410 := kk.get g4 (fun q => by
   rcases List.mem_append.1 q with z | z
   · rw [List.mem_singleton] at z; omega
   ·
    rcases oR _ z with y | y
    · have := xlt _ y; omega
    · omega)
  obtain ⟨t2, ht2⟩ : ∃ t2 : RT, t2 = { tt with ra := b9, rc := c9, ready := tt.ready ++ [q] } := ⟨_, rfl⟩
  have KE : RX h10 xb A t2 n0 := by rw [ht2]; exact KE0
  have hx2 : t2.waits = tt.waits ∧ t2.ready = tt.ready ++ [q] ∧ t2.nx = tt.nx ∧ t2 = { t with va := t2.va, vc := t2.vc, ra := t2.ra, rc := t2.rc, nx := t2.nx, waits := t2.waits, ready := t2.ready } ∧ t2.ra = b9 ∧ t2.va = tt.va := by
   rw [ht2]; exact ⟨rfl, rfl, rfl, by rw [hts], rfl, rfl⟩
  obtain ⟨hw2, hr2, hn2, hts2, hra2, hva2⟩ := hx2
  rw [← hra2] at o10
  rw [← hva2] at oV'
  rw [← hw2] at hk hgd hgl htl hwf hT
  have hl2 : t2.ready.length + t2.waits.length ≤ 900002 := by rw [hr2]; simp only [List.length_append, List.length_cons, List.length_nil]; omega
  have hR2 : t2.ready.length = tt.ready.length + 1 := by rw [hr2]; simp
  rw [← hn2] at hnxs
  clear K R gx c6 c7 cl hb8 sv9 sv10 kk k9 k10 s8 gx9 gx10 hwr9 hrd9 rr rlt KE0 ht2 wv hd4 hb4 hb0 hbl g4
  obtain ⟨c, gx, R⟩ := KE.xc
  have c6 := R.c6
  have cl := R.l
  have lv := KE.wv
  have al := lv.lt
  have xlt2 := AHeap.lt gx
  refine Go.runN (g:=?_)
  refine Go.kk 2 rfl ?_
  refine Go.loud (by kernel_rfl) rfl ?_
  (refine Go.runL (g:=?_))
  refine GoL.buildO (c := []) rfl rfl rfl rfl rfl (by decide) (by rfl) (by rfl) ?_
  intro b11 h11 hb11 ob11 s11 n11
  have m11 := s11.1
  have gx11 := s11.get gx
  have lv11 := lv.same s11
  have rv11 := lv11.rv (P := Try.prog)
  have cp11 := rv11.le
  (refine Go.runL (g:=?_))
  refine GoL.sliceV (lo' := none) (hi' := some (.int .i64 i)) (l := 0) (r := i) rfl rfl rfl rfl rfl rfl rfl rv11 rfl (by simp [bnd]) (by omega) (by omega) ?_
  have hb0 : subA t2.va (0 * 5) = t2.va := by cases t2.va <;> simp [subA]
  rw [hb0]
  have fr11 := lv11.front (Nat.le_of_lt hk)
  refine GoL.appendV rfl rfl rfl rfl rfl rfl hb11 fr11.rv (Own.ok ob11 (by omega)) (by omega) (by omega) (all_sub (vws_all t2.waits) fun x hx => List.mem_of_mem_take hx) ?_
  intro b12 c12 h12 rd12 wr12 hwr12 hrd12 sv12 k12 o12
  have m12 := k12.1
  have nb11 : ∀ j, j < h10.n → j ∉ blk b11 := fun j hj hm => by have := ob11 j hm; omega
  have gx12 := k12.get gx11 (nb11 _ xlt2)
  have lv12 := lv11.keeps k12 (fun j hj hm => nb11 j (al j hj) hm)
  have ob12 : Own h10.n b12 := fun j hj => by
   rcases o12 j hj with z | z
   · exact ob11 j z
   · omega
  have rv12 := lv12.rv (P := Try.prog)
  (refine Go.runL (g:=?_))
  refine GoL.sliceV (lo' := some (.int .i64 (i + 1 : Nat))) (hi' := none) (l := i + 1) (r := t2.waits.length) rfl rfl rfl rfl rfl rfl rfl rv12 (by simp [bnd]; omega) rfl (by omega) (by omega) ?_
  have sb12 := rv12.sub (l := i + 1) (r := t2.waits.length) (by omega) (Nat.le_refl _)
  refine GoL.appendV rfl rfl rfl rfl rfl rfl sv12 sb12 (Own.ok ob12 (by omega)) (by omega) (by omega) (all_sub (vws_all t2.waits) fun x hx => List.mem_of_mem_drop (List.mem_of_mem_take hx)) ?_
  intro b14 c14 h14 rd14 wr14 hwr14 hrd14 sv14 k14 o14
  have m14 := k14.1
  have nb12 : ∀ j, j < h10.n → j ∉ blk b12 := fun j hj hm => by have := ob12 j hm; omega
  have gx14 := k14.get gx12 (nb12 _ xlt2)
  have ob14 : Own h10.n b14 := fun j hj => by
   rcases o14 j hj with z | z
   · exact ob12 j z
   · omega
  have lb11 := hb11.lt
  have lb12 := sv12.lt
  have hdis : ∀ b ∈ wr12, b ≠ xb ∧ b < h12.n := fun b hb => by
   have z := hwr12 b hb
   have := ob11 b z
   have := lb11 b z
   omega
  have hdis2 : ∀ b ∈ wr14, b ≠ xb ∧ b < h12.n := fun b hb => by
   have z := hwr14 b hb
   have := ob12 b z
   have := lb12 b z
   omega
  (refine Go.runL (g:=?_))
  refine GoL.st (g:=?_)
  (refine Go.runL (g:=?_))
  refine GoL.endC (g:=?_)
  clear hdis hdis2
  refine Go.name ?_
  intro h21 e21
  have k21 : Keeps [xb] h14 h21 := by subst e21; exact (Keeps.rf _ _).pt (.inl (by simp)) _
  have eln : 0 + (i - 0) + (t2.waits.length - (i + 1)) = (gdel t2.waits (m.sid, tv)).length := by rw [hgd]; simp; omega
  have gx21 : h21.get xb = some (.cells (setL c 65541 [.slice b14 (gdel t2.waits (m.sid, tv)).length c14]) 61) := by
   have eln2 : i - 0 + (t2.waits.length - (i + 1)) = (gdel t2.waits (m.sid, tv)).length := by rw [← eln]; omega
   subst e21
   rw [get_put_self gx14]
   first | rw [eln2] | rw [eln]
   rfl
  clear e21
  have m21 := k21.1
  have kk : Keeps ([xb] ++ blk t2.va) h10 h21 := ⟨by omega, fun j hj hn => by
   simp only [List.mem_append, List.mem_singleton, not_or] at hn
   rw [k21.2 j (by omega) (by simp; exact hn.1), k14.2 j (by omega) (nb12 j hj), k12.2 j (by omega) (nb11 j hj), s11.2 j hj]⟩
  have sv21 := sv14.keeps k21 (fun j hj hm => by rw [List.mem_singleton] at hm; have := ob14 j hj; omega)
  have ecs : [] ++ (vws t2.waits).take (i * 5) ++ ((vws t2.waits).drop ((i + 1) * 5)).take ((t2.waits.length - (i + 1)) * 5) = vws (gdel t2.waits (m.sid, tv)) := by
   rw [List.nil_append, vws_take, vws_drop, vws_take, ← vws_app, hgd, List.take_of_length_le (l := t2.waits.drop (i + 1)) (by simp)]
  rw [ecs, eln] at sv21
  have KF0 := KE.setWaits (W := gdel t2.waits (m.sid, tv)) R kk gx21 sv21 (fun j hj => by have := ob14 j hj; have := KE.ow.1; omega) (fun p hp => .inl (by
   rw [hgd] at hp
   rcases List.mem_append.1 hp with z | z
   · exact List.mem_of_mem_take z
   · exact List.mem_of_mem_drop z))
  have nH1 : h10.n ≤ h21.n := kk.1
  have g421 := kk.get g410 (fun q => by
   rcases List.mem_append.1 q with z | z
   · rw [List.mem_singleton] at z; omega
   · exact sv_out KE.wv g410 (fun c e => by cases e) z)
  obtain ⟨t3, ht3⟩ : ∃ t3 : RT, t3 = { t2 with va := b14, vc := c14, waits := gdel t2.waits (m.sid, tv) } := ⟨_, rfl⟩
  have KF : RX h21 xb A t3 n0 := by rw [ht3]; exact KF0
  have hx3 : t3.waits = gdel t2.waits (m.sid, tv) ∧ t3.ready = t2.ready ∧ t3.nx = t2.nx ∧ t3 = { t with va := t3.va, vc := t3.vc, ra := t3.ra, rc := t3.rc, nx := t3.nx, waits := t3.waits, ready := t3.ready } ∧ t3.ra = t2.ra ∧ t3.va = b14 := by
   rw [ht3]; exact ⟨rfl, rfl, rfl, by rw [hts2], rfl, rfl⟩
  obtain ⟨hw3, hr3, hn3, hts3, hra3, hva3⟩ := hx3
  rw [← hra3] at o10
  rw [← hva3] at ob14
  have hlg := gdel_len hgl
  rw [← hw3] at hlg
  obtain ⟨f', rfl⟩ : ∃ f', f = f' + 1 := ⟨f - 1, by omega⟩
  rw [drainN_some hgl, ← hw3, ← hr2, ← hr3] at hT
  clear KE R gx c6 cl lv al KF0 ht3 hb11 sv12 sv14 sv21 gx11 gx12 gx14 gx21 lv11 lv12 rv11 rv12 fr11 sb12 k12 k14 k21 s11 kk g410 hgl ecs hgd hk
  obtain ⟨c, gx, R⟩ := KF.xc
  have cn := R.cn m.sid hm1
  have cl := R.l
  have cn : c[5 + m.sid]? = some (.int .u16 (tv : Nat)) := by rw [cn, hn3, hnxs]; simp [upd1]
  refine Go.runN (g:=?_)
  refine Go.kk 2 rfl ?_
  refine Go.loud (by kernel_rfl) rfl ?_
  (refine Go.runL (g:=?_))
  refine GoL.bin rfl rfl rfl rfl rfl rfl (add16n _) ?_
  (refine Go.runL (g:=?_))
  refine GoL.st (g:=?_)
  (refine Go.runL (g:=?_))
  have hdis : ∀ b ∈ [xb], b ≠ h.n := fun b hb => by rw [List.mem_singleton] at hb; omega
  have hdis2 := hdis
  refine GoL.endC (g:=?_)
  clear hdis hdis2
  refine Go.name ?_
  intro hB eB
  have kB : Keeps [xb] h21 hB := by subst eB; exact (Keeps.rf _ _).pt (.inl (by simp)) _
  have gxB : hB.get xb = some (.cells (setL c (5 + m.sid) [.int .u16 (nx16 tv : Nat)]) 61) := by
   subst eB
   rw [← show 0 + 5 + ((m.sid : Nat) : Int).toNat * 1 = 5 + m.sid by omega]
   exact get_put_self gx
  clear eB
  have mB := kB.1
  have KB0 := KF.setNext hm1 (nx16_lt tv) R kB gxB
  have g4B := kB.get g421 (by simp only [List.mem_singleton]; omega)
  obtain ⟨t4, ht4⟩ : ∃ t4 : RT, t4 = { t3 with nx := upd1 t3.nx m.sid (nx16 tv) } := ⟨_, rfl⟩
  have KB : RX hB xb A t4 n0 := by rw [ht4]; exact KB0
  have hx4 : t4.waits = t3.waits ∧ t4.ready = t3.ready ∧ t4.nx = upd1 t.nx m.sid (nx16 tv) ∧ t4 = { t with va := t4.va, vc := t4.vc, ra := t4.ra, rc := t4.rc, nx := t4.nx, waits := t4.waits, ready := t4.ready } ∧ t4.ra = t3.ra ∧ t4.va = t3.va := by
   rw [ht4]
   refine ⟨rfl, rfl, ?_, by rw [hts3], rfl, rfl⟩
   show upd1 t3.nx m.sid (nx16 tv) = _
   rw [hn3, hnxs]
   funext k
   unfold upd1
   by_cases e : k = m.sid
   · rw [if_pos e, if_pos e]
   · rw [if_neg e, if_neg e, if_neg e]
  obtain ⟨hw4, hr4, hn4, hts4, hra4, hva4⟩ := hx4
  rw [← hra4] at o10
  rw [← hva4] at ob14
  rw [← hw4, ← hr4] at hT
  rw [← hw4] at hlg
  clear R gx cn cl KF gxB kB g421 KB0 ht4
  obtain ⟨c, gx, R⟩ := KB.xc
  have cn := R.cn m.sid hm1
  have cl := R.l
  have c6 := R.c6
  have cn : c[5 + m.sid]? = some (.int .u16 (nx16 tv : Nat)) := by rw [cn, hn4]; simp [upd1]
  (refine Go.run (g:=?_))
  refine GoR.call rfl rfl rfl rfl rfl rfl rfl (((find10_spec xb c t4.waits t4.va t4.vc m.sid (nx16 tv) hm1 (nx16_lt _) (by omega) KB.wk _ gx c6 KB.wv.rv).argA).mono ?_)
  rintro v5 h5 ⟨rfl, hv5⟩ -
  obtain ⟨i5, rfl, hf5⟩ : ∃ i5 : Int, v5 = .int .i64 i5 ∧ ((i5 = -1 ∧ gl t4.waits (m.sid, nx16 tv) = none) ∨ ∃ k, ∃ hk : k < t4.waits.length, i5 = (k : Nat) ∧ t4.waits[k].1 = (m.sid, nx16 tv) ∧ gl t4.waits (m.sid, nx16 tv) = some t4.waits[k].2 ∧ gdel t4.waits (m.sid, nx16 tv) = t4.waits.take k ++ t4.waits.drop (k + 1)) := by
   rcases hv5 with ⟨rfl, q⟩ | ⟨k, hk, rfl, q⟩
   · exact ⟨-1, rfl, .inl ⟨rfl, q⟩⟩
   · exact ⟨k, rfl, .inr ⟨k, hk, rfl, q⟩⟩
  (refine Go.run (g:=?_))
  have hrl : t4.ready.length = tt.ready.length + 1 := by rw [hr4, hr3, hR2]
  exact Go.again (f', nx16 tv, t4, i5, h5) ⟨KB, hts4, hn4, g4B, by simp only; omega, o10, fun j hj => .inr (by have := ob14 j hj; omega), by simp only; omega, nx16_lt tv, by simp only; omega, hT, hf5⟩ (by simp only; rw [← hw2]; omega) ⟨rfl, rfl, rfl, trivial⟩ rfl rfl
end Go.Proofs.Ytccbmmnkiihkaaa
namespace Go.Proofs.Ytccbmmnkiihkaaa
set_option maxRecDepth 100000
attribute [local irreducible] Go GoR GoL
section
variable {h h' : AHeap} {xb : Nat} {A : RA} {t : RT} {n0 : Nat}
theorem RX.owns (k : RX h xb A t n0) : ∀ j ∈ [xb] ++ blk t.va ++ blk t.ra, n0 ≤ j := fun j hj => by
 simp only [List.cons_append, List.nil_append, List.mem_cons, List.mem_append] at hj
 rcases hj with rfl | q | q
 · exact k.ow.1
 · exact k.ow.2.1 j q
 · exact k.ow.2.2 j q
theorem RJ.owns {jb : Nat} {l : List PV} {a : Option Addr} {cap : Nat} (k : RJ h jb l a cap n0) : ∀ j ∈ [jb] ++ blk a, n0 ≤ j := fun j hj => by
 simp only [List.cons_append, List.nil_append, List.mem_cons] at hj
 rcases hj with rfl | q
 · exact k.ow.1
 · exact k.ow.2 j q
theorem RJ.lts {jb : Nat} {l : List PV} {a : Option Addr} {cap : Nat} (k : RJ h jb l a cap n0) : ∀ j ∈ [jb] ++ blk a, j < h.n := fun j hj => by
 simp only [List.cons_append, List.nil_append, List.mem_cons] at hj
 rcases hj with rfl | q
 · exact AHeap.lt k.jc
 · exact k.lv.lt j q
theorem ROk.sx (k : ROk h xb A t n0) : ∀ j ∈ [A.sb] ++ blk t.wa ++ blk t.da, j ∉ [xb] ++ blk t.va ++ blk t.ra := fun j hj hm => by
 obtain ⟨c, g, -⟩ := k.X.xc
 simp only [List.cons_append, List.nil_append, List.mem_cons, List.mem_append] at hj hm
 rcases hj with rfl | q | q
 ·
  have gs := k.S.sc
  rcases hm with e | z | z
  · rw [e, g] at gs; cases gs
  · exact sv_out k.X.wv gs (fun c e => by cases e) z
  · exact sv_out k.X.rv gs (fun c e => by cases e) z
 ·
  rcases hm with rfl | z | z
  · exact sv_out k.S.wv g (fun c e => by cases e) q
  · exact sv_sv k.S.wv k.X.wv (by decide) j q z
  · exact sv_sv k.S.wv k.X.rv (by decide) j q z
 ·
  rcases hm with rfl | z | z
  · exact sv_out k.S.dv g (fun c e => by cases e) q
  · exact sv_sv k.S.dv k.X.wv (by decide) j q z
  · exact sv_sv k.S.dv k.X.rv (by decide) j q z
theorem ROk.jx (k : ROk h xb A t n0) : ∀ j ∈ [A.jb] ++ blk t.ja, j ∉ [xb] ++ blk t.va ++ blk t.ra := fun j hj hm => by
 obtain ⟨c, g, -⟩ := k.X.xc
 simp only [List.cons_append, List.nil_append, List.mem_cons, List.mem_append] at hj hm
 rcases hj with rfl | q
 ·
  have gs := k.J.jc
  rcases hm with e | z | z
  · rw [e, g] at gs; cases gs
  · exact sv_out k.X.wv gs (fun c e => by cases e) z
  · exact sv_out k.X.rv gs (fun c e => by cases e) z
 ·
  rcases hm with rfl | z | z
  · exact sv_out k.J.lv g (fun c e => by cases e) q
  · exact sv_sv k.J.lv k.X.wv (by decide) j q z
  · exact sv_sv k.J.lv k.X.rv (by decide) j q z
theorem ROk.js (k : ROk h xb A t n0) : ∀ j ∈ [A.jb] ++ blk t.ja, j ∉ [A.sb] ++ blk t.wa ++ blk t.da := fun j hj hm => by
 have gs := k.S.sc
 have gj := k.J.jc
 simp only [List.cons_append, List.nil_append, List.mem_cons, List.mem_append] at hj hm
 rcases hj with rfl | q
 ·
  rcases hm with e | z | z
  · rw [e, gs] at gj; cases gj
  · exact sv_out k.S.wv gj (fun c e => by cases e) z
  · exact sv_out k.S.dv gj (fun c e => by cases e) z
 ·
  rcases hm with rfl | z | z
  · exact sv_out k.J.lv gs (fun c e => by cases e) q
  · exact sv_sv k.J.lv k.S.wv (by decide) j q z
  · exact sv_sv k.J.lv k.S.dv (by decide) j q z
theorem ROk.ds (k : ROk h xb A t n0) {a : Option Addr} {len cap : Nat} {cs : List Value} (d : Sv h 5 1 a len cap cs) : ∀ i ∈ blk a, i ∉ [A.sb] ++ blk t.wa ++ blk t.da := fun i hi hm => by
 simp only [List.cons_append, List.nil_append, List.mem_cons, List.mem_append] at hm
 rcases hm with rfl | z | z
 · exact sv_out d k.S.sc (fun c e => by cases e) hi
 · exact sv_sv d k.S.wv (by decide) i hi z
 · exact sv_sv d k.S.dv (by decide) i hi z
theorem ROk.dj (k : ROk h xb A t n0) {a : Option Addr} {len cap : Nat} {cs : List Value} (d : Sv h 5 1 a len cap cs) : ∀ i ∈ blk a, i ∉ [A.jb] ++ blk t.ja := fun i hi hm => by
 simp only [List.cons_append, List.nil_append, List.mem_cons] at hm
 rcases hm with rfl | z
 · exact sv_out d k.J.jc (fun c e => by cases e) hi
 · exact sv_sv d k.J.lv (by decide) i hi z
theorem RX.kept (k : RX h xb A t n0) {wr : List Nat} (kk : Keeps wr h h') (hn : ∀ j ∈ [xb] ++ blk t.va ++ blk t.ra, j ∉ wr) (hd : ∀ {a : Option Addr} {len cap : Nat} {cs : List Value}, Sv h 5 1 a len cap cs → ∀ i ∈ blk a, i ∉ wr) : RX h' xb A t n0 := { k with
 xc := by obtain ⟨c, g, r⟩ := k.xc; exact ⟨c, kk.get g (hn _ (by simp)), r⟩
 wv := k.wv.keeps kk (fun j hj => hn j (by simp [hj]))
 rv := k.rv.keeps kk (fun j hj => hn j (by simp [hj]))
 dr := fun m hm => (k.dr m hm).keeps kk (hd (k.dr m hm))
 dw := fun m hm => (k.dw m hm).keeps kk (hd (k.dw m hm)) }
theorem ROk.setS (k : ROk h xb A t n0) {wa' da' : Option Addr} {wc' dc' c' : Nat} {ws' ds' : List Nat} (kk : Keeps ([A.sb] ++ blk t.da) h h') (S : RSet h' A.sb c' wa' wc' ws' da' dc' ds' n0) : ROk h' xb A { t with wa := wa', wc := wc', da := da', dc := dc', c := c', ws := ws', ds := ds' } n0 := by
 have up : ∀ j ∈ [A.sb] ++ blk t.da, j ∈ [A.sb] ++ blk t.wa ++ blk t.da := fun j hj => by simp only [List.mem_append] at hj ⊢; exact hj.elim (fun q => .inl (.inl q)) .inr
 have X2 := k.X.kept kk (fun j hj hm => k.sx j (up j hm) hj) (fun d i hi hm => k.ds d i hi (up i hm))
 exact ⟨⟨X2.xc, X2.wv, X2.rv, X2.dr, X2.dw, X2.mr, X2.mw, X2.wk, X2.ow⟩, S, k.J.kept kk (fun hm => k.js _ (by simp) (up _ hm)) (fun i hi hm => k.js i (by simp [hi]) (up i hm)) (fun i hi => k.S.owns i (up i hi))⟩
theorem ROk.setJ (k : ROk h xb A t n0) {kept' : List PV} {ja' : Option Addr} {jc' : Nat} (kk : Keeps ([A.jb] ++ blk t.ja) h h') (J : RJ h' A.jb kept' ja' jc' n0) : ROk h' xb A { t with kept := kept', ja := ja', jc := jc' } n0 :=
 have X2 := k.X.kept kk (fun j hj hm => k.jx j hm hj) (fun d => k.dj d)
 ⟨⟨X2.xc, X2.wv, X2.rv, X2.dr, X2.dw, X2.mr, X2.mw, X2.wk, X2.ow⟩, k.S.kept kk (fun j hj hm => k.js j hm hj), J⟩
theorem ROk.setX (k : ROk h xb A t n0) {va' ra' : Option Addr} {vc' rc' : Nat} {nx' : Nat → Nat} {W : WL} {R : List IM} (kk : Keeps ([xb] ++ blk t.va ++ blk t.ra) h h') (X : RX h' xb A { t with va := va', vc := vc', ra := ra', rc := rc', nx := nx', waits := W, ready := R } n0) : ROk h' xb A { t with va := va', vc := vc', ra := ra', rc := rc', nx := nx', waits := W, ready := R } n0 :=
 ⟨X, k.S.kept kk k.sx, k.J.kept kk (k.jx _ (by simp)) (fun i hi => k.jx i (by simp [hi])) (fun i hi => k.X.owns i hi)⟩
end
structure RG (t : RT) : Prop where
 l : t.ws.length ≤ 65535
 p : ∀ w ∈ t.ws, 1 ≤ w
 s : t.ws.Pairwise (· < ·)
 d : t.ds.length ≤ 16
def limitR (A : RA) (t : RT) (p : PV) : Int := if spanN t.c p.t = 1 then (A.rm : Int) else (A.rm : Int) - (A.sp : Int)
inductive RAddI (A : RA) (t : RT) (p : PV) : Int → RT → Prop
 | arg (h0 : p.z.length = 0) : RAddI A t p 2 t
 | full (h0 : p.z.length ≠ 0) (h1 : ¬ hasW t.c t.ws p.t = true) (h2 : ¬ 65535 < spanN t.c p.t) (h3 : limitR A t p < (t.held : Int) + p.z.length) : RAddI A t p 7 t
 | has {code c' : Nat} {ws' ds' : List Nat} {wa' da' : Option Addr} {wc' dc' : Nat} (h0 : p.z.length ≠ 0) (h1 : hasW t.c t.ws p.t = true) (ha : addW t.c t.ws t.ds p.t = (code, c', ws', ds')) : RAddI A t p 4 { t with wa := wa', wc := wc', da := da', dc := dc', c := c', ws := ws', ds := ds' }
 | far (h0 : p.z.length ≠ 0) (h1 : ¬ hasW t.c t.ws p.t = true) (h2 : 65535 < spanN t.c p.t) : RAddI A t p 4 t
 | stream {code c' : Nat} {ws' ds' : List Nat} {wa' da' : Option Addr} {wc' dc' : Nat} (h0 : p.z.length ≠ 0) (h1 : ¬ hasW t.c t.ws p.t = true) (h2 : ¬ 65535 < spanN t.c p.t) (ha : addW t.c t.ws t.ds p.t = (code, c', ws', ds')) (h3 : (t.held : Int) + p.z.length ≤ limitR A t p) (hs : A.st ≤ p.sid) : RAddI A t p 100 { t with wa := wa', wc := wc', da := da', dc := dc', c := c', ws := ws', ds := ds' }
 | part {code c' : Nat} {ws' ds' : List Nat} {wa' da' ja' : Option Addr} {wc' dc' jc' : Nat} (h0 : p.z.length ≠ 0) (h1 : ¬ hasW t.c t.ws p.t = true) (h2 : ¬ 65535 < spanN t.c p.t) (ha : addW t.c t.ws t.ds p.t = (code, c', ws', ds')) (h3 : (t.held : Int) + p.z.length ≤ limitR A t p) (hs : p.sid < A.st) (hp : (putN t.kept p).2 = none) : RAddI A t p 0 { t with wa := wa', wc := wc', da := da', dc := dc', c := c', ws := ws', ds := ds', kept := (putN t.kept p).1, ja := ja', jc := jc' }
 | whole {code c' : Nat} {ws' ds' : List Nat} {wa' da' ja' va' ra' : Option Addr} {wc' dc' jc' vc' rc' : Nat} {m : IM} (h0 : p.z.length ≠ 0) (h1 : ¬ hasW t.c t.ws p.t = true) (h2 : ¬ 65535 < spanN t.c p.t) (ha : addW t.c t.ws t.ds p.t = (code, c', ws', ds')) (h3 : (t.held : Int) + p.z.length ≤ limitR A t p) (hs : p.sid < A.st) (hp : (putN t.kept p).2 = some (m.sid, m.un, m.ppid, m.z)) : RAddI A t p 0 { t with wa := wa', wc := wc', da := da', dc := dc', c := c', ws := ws', ds := ds', kept := (putN t.kept p).1, ja := ja', jc := jc', va := va', vc := vc', ra := ra', rc := rc', nx := (rmsgN t.nx t.waits t.ready m p.ssn).1, waits := (rmsgN t.nx t.waits t.ready m p.ssn).2.1, ready := (rmsgN t.nx t.waits t.ready m p.ssn).2.2 }
set_option maxHeartbeats 64000000 in
theorem radd10_spec (xb : Nat) (A : RA) (t : RT) (n0 : Nat) (p : PV) (pb : PB p) (g : RG t) (h : AHeap) (hn0 : n0 ≤ h.n) (k : ROk h xb A t n0) (hrm : A.rm ≤ 1048576) (hsp : A.sp ≤ 1048576) (hst : A.st < 65536) (hl : t.ready.length + t.waits.length ≤ 900000) (hkl : t.kept.length ≤ 100000) (hb : t.held + p.z.length ≤ 900000000) (hpo : ∀ i ∈ blk p.a, i < n0) (hz : Rv Try.prog h 1 p.a p.z.length p.cap (p.z.map bv)) : CallS Try.prog ([xb] ++ blk t.va ++ blk t.ra ++ ([A.sb] ++ blk t.da) ++ ([A.jb] ++ blk t.ja)) 11 [.pointer (some ⟨xb, 0, none⟩), pV p] h fun v h' => ∃ code t', v = .int .i64 code ∧ RAddI A t p code t' ∧ ROk h' xb A t' n0 ∧ (∀ i ∈ blk t'.ra, i ∈ [xb] ++ blk t.va ++ blk t.ra ∨ h.n ≤ i) ∧ ∀ i ∈ blk t'.da, i ∈ blk t.da ∨ h.n ≤ i := by
 have pbp := pb
 obtain ⟨b1, b2, b3, b4, b5⟩ := pb
 obtain ⟨g1, g2, g3, g4⟩ := g
 have gx := k.X.xc
 have xlt := k.X.lts
 have slt := k.S.lts
 have jlt := k.J.lts
 (refine CallS.of2 Try.func11 rfl Try.ntmps11 Try.results11 rfl ?_)
 simp only [pV, pC]
 refine Go.runN (g:=?_)
 refine Go.name ?_
 intro h1 e1
 have s1 : Same h h1 := by subst e1; exact (Same.refl h).push _
 have g3h : h1.get h.n = some (.cells [.int .u32 (p.t : Nat), .int .u8 (p.fl : Nat), .int .u16 (p.sid : Nat), .int .u16 (p.ssn : Nat), .int .u32 (p.ppid : Nat), .slice p.a p.z.length p.cap] 33) := by subst e1; exact AHeap.get_push_same _ _
 have n1 : h1.n = h.n + 1 := by subst e1; rfl
 clear e1
 have k1 := k.same s1
 have hz1 := hz.same s1
 clear gx
 by_cases h0 : p.z.length = 0
 ·
  (refine Go.run (g:=?_))
  (first|refine Go.finA rfl ?_|refine Go.finB rfl (hq:=?_))
  exact ⟨2, t, rfl, .arg h0, k1, fun i hi => .inl (by simp [hi]), fun i hi => .inl hi⟩
 obtain ⟨c, gx, R⟩ := k1.X.xc
 have c0 := R.c0
 have c1 := R.c1
 have c2 := R.c2
 have c3 := R.c3
 have c4 := R.c4
 have gs := k1.S.sc
 have cb := k1.S.cb
 clear k s1 hz R
 (refine Go.run (g:=?_))
 have or0 : ∀ i ∈ blk t.ra, i ∈ [xb] ++ blk t.va ++ blk t.ra ∨ h.n ≤ i := fun i hi => .inl (by simp [hi])
 refine GoR.call rfl rfl rfl rfl rfl rfl rfl (((rway_spec t.c p.t cb b1 _).argA).mono ?_)
 rintro _ h2 ⟨rfl, rfl⟩ -
 have hspl := span_lt t.c p.t
 have hlimdef : limitR A t p = if spanN t.c p.t = 1 then (A.rm : Int) else (A.rm : Int) - (A.sp : Int) := rfl
 generalize hspe : spanN t.c p.t = sp at *
 (refine Go.run (g:=?_))
 refine GoR.call rfl rfl rfl rfl rfl rfl rfl (((rhas_spec A.sb t.c t.wa t.da t.wc t.dc t.ws t.ds n0 p.t b1 (by omega) _ k1.S).argA).mono ?_)
 rintro _ h3 rfl s3
 have k3 := k1.same s3
 have gx3 := s3.get gx
 have g33 := s3.get g3h
 have hz3 := hz1.same s3
 have n3 := s3.1
 clear k1 gx g3h hz1 s3 gs
 obtain ⟨code, c', ws', ds', hA⟩ : ∃ code c' ws' ds', addW t.c t.ws t.ds p.t = (code, c', ws', ds') := ⟨_, _, _, _, rfl⟩
 have hsb : ∀ b ∈ [A.sb] ++ blk t.da, b ≠ h.n ∧ b ≠ xb := fun b hb => by
  have up : b ∈ [A.sb] ++ blk t.wa ++ blk t.da := by simp only [List.mem_append] at hb ⊢; exact hb.elim (fun q => .inl (.inl q)) .inr
  have := slt b up
  exact ⟨by omega, fun e => k3.sx b up (by simp [e])⟩
 cases hH : hasW t.c t.ws p.t with
 | true =>
  refine Go.runN (g:=?_)
  refine Go.kk 2 rfl ?_
  refine Go.loud (by kernel_rfl) rfl ?_
  (refine Go.runL (g:=?_))
  refine GoL.call rfl rfl rfl rfl rfl rfl rfl (((radd_specE A.sb t.c t.wa t.da t.wc t.dc t.ws t.ds n0 p.t b1 g4 g1 g2 g3 _ (by omega) k3.S hA).argA).mono ?_)
  rintro _ h4 ⟨rfl, wa4, wc4, da4, dc4, S4, oda, -⟩ k4
  refine ⟨fun j hj => .inl (by simp only [List.mem_append] at hj ⊢; exact .inl (.inr hj)), ?_⟩
  have kA := k3.setS k4 S4
  have hdis := hsb
  have hdis2 := hdis
  (refine Go.runL (g:=?_))
  refine GoL.endC (g:=?_)
  clear hdis hdis2
  (refine Go.run (g:=?_))
  (first|refine Go.finA rfl ?_|refine Go.finB rfl (hq:=?_))
  exact ⟨4, _, rfl, .has h0 hH hA, kA, or0, fun i hi => (oda i hi).imp id fun q => by omega⟩
 | false =>
  have hHf : ¬ hasW t.c t.ws p.t = true := by rw [hH]; decide
  rcases Nat.lt_or_ge 65535 sp with hf | hf
  ·
   (refine Go.run (g:=?_))
   (first|refine Go.finA rfl ?_|refine Go.finB rfl (hq:=?_))
   exact ⟨4, t, rfl, .far h0 hHf (by rw [hspe]; exact hf), k3, or0, fun i hi => .inl hi⟩
  have hHn : ¬ 65535 < spanN t.c p.t := by rw [hspe]; omega
  have hL1 : -1048576 ≤ limitR A t p ∧ limitR A t p ≤ 1048576 := by rw [hlimdef]; split <;> omega
  have hh := held10_spec xb A t n0 (by omega) (by omega) (by omega) (by omega) h3 k3
  (refine Go.run (g:=?_))
  refine Go.join1 (α := Unit) (fun _ => [(6, .int .i64 (limitR A t p)), (3, .pointer (some ⟨h.n, 0, none⟩)), (0, .pointer (some ⟨xb, 0, none⟩))]) (fun _ => []) (fun _ => h3) (fun _ => True) ?_ ?_
  ·
   by_cases hnx : sp = 1
   ·
    rw [hlimdef, if_pos hnx]
    (refine Go.run (g:=?_))
    exact Go.joined () trivial ⟨rfl, rfl, rfl, trivial⟩ rfl rfl
   ·
    rw [hlimdef, if_neg hnx]
    (refine Go.run (g:=?_))
    exact Go.joined () trivial ⟨rfl, rfl, rfl, trivial⟩ rfl rfl
  rintro - -
  generalize hLd : limitR A t p = L at *
  (refine Go.run (g:=?_))
  refine GoR.call rfl rfl rfl rfl rfl rfl rfl (((hh).argA).mono ?_)
  rintro _ h4 ⟨rfl, rfl⟩ -
  rcases Int.lt_or_le L ((t.held : Int) + p.z.length) with hfu | hfu
  ·
   (refine Go.run (g:=?_))
   (first|refine Go.finA rfl ?_|refine Go.finB rfl (hq:=?_))
   exact ⟨7, t, rfl, .full h0 hHf hHn (by rw [hLd]; exact hfu), k3, or0, fun i hi => .inl hi⟩
  have hlim : (t.held : Int) + p.z.length ≤ limitR A t p := by rw [hLd]; exact hfu
  refine Go.runN (g:=?_)
  refine Go.kk 2 rfl ?_
  refine Go.loud (by kernel_rfl) rfl ?_
  (refine Go.runL (g:=?_))
  refine GoL.call rfl rfl rfl rfl rfl rfl rfl (((radd_specE A.sb t.c t.wa t.da t.wc t.dc t.ws t.ds n0 p.t b1 g4 g1 g2 g3 _ (by omega) k3.S hA).argA).mono ?_)
  rintro _ h5 ⟨rfl, wa4, wc4, da4, dc4, S4, oda, -⟩ k5
  refine ⟨fun j hj => .inl (by simp only [List.mem_append] at hj ⊢; exact .inl (.inr hj)), ?_⟩
  have kA := k3.setS k5 S4
  have n5 := k5.1
  have oda : ∀ i ∈ blk da4, i ∈ blk t.da ∨ h.n ≤ i := fun i hi => (oda i hi).imp id fun q => by omega
  have g35 := k5.get g33 (fun q => (hsb _ q).1 rfl)
  have hz5 := hz3.keeps k5 (fun i hi q => by
   have := k3.S.owns i (by simp only [List.mem_append] at q ⊢; exact q.elim (fun q => .inl (.inl q)) .inr)
   have := hpo i hi; omega)
  have gx5 := k5.get gx3 (fun q => (hsb _ q).2 rfl)
  have hdis := hsb
  have hdis2 := hdis
  (refine Go.runL (g:=?_))
  refine GoL.endC (g:=?_)
  clear hdis hdis2 k5 S4 hz3 g33 gx3 k3 hsb
  rcases Nat.lt_or_ge p.sid A.st with hsd | hsd
  case inr =>
   (refine Go.run (g:=?_))
   (first|refine Go.finA rfl ?_|refine Go.finB rfl (hq:=?_))
   exact ⟨100, _, rfl, .stream h0 hHf hHn hA hlim hsd, kA, or0, oda⟩
  refine Go.runN (g:=?_)
  refine Go.kk 2 rfl ?_
  refine Go.drawnQ rfl (by kernel_rfl) rfl ?_
  refine Go.runN (g:=?_)
  refine Go.kk 2 rfl ?_
  refine Go.loud (by kernel_rfl) rfl ?_
  (refine Go.runL (g:=?_))
  refine GoL.call rfl rfl rfl rfl rfl rfl rfl (((put9_spec A.jb t.kept t.ja t.jc n0 p pbp hkl (by unfold RT.held at hb; omega) _ (by omega) kA.J hz5 hpo).argA).mono ?_)
  rintro v6 h6 ⟨ja6, jc6, J6, V6, oja⟩ k6
  refine ⟨fun j hj => .inl (List.mem_append_right _ hj), ?_⟩
  have n6 := k6.1
  have kB := kA.setJ k6 J6
  have hjd : ∀ b ∈ [A.jb] ++ blk t.ja, b < h.n := jlt
  have g36 := k6.get g35 (fun q => by have := hjd _ q; omega)
  have hdis : ∀ b ∈ [A.jb] ++ blk t.ja, b ≠ h.n ∧ b ≠ xb ∧ b < h5.n := fun b hb => by
   have := hjd b hb
   exact ⟨by omega, fun e => kA.jx b hb (by simp [e]), by omega⟩
  have hdis2 := hdis
  cases hput : (putN t.kept p).2 with
  | none =>
   rw [hput] at V6
   obtain rfl : v6 = _ := V6
   (refine Go.runL (g:=?_))
   refine GoL.st (g:=?_)
   (refine Go.runL (g:=?_))
   refine GoL.endC (g:=?_)
   clear hdis hdis2
   refine Go.name ?_
   intro h7 e7
   have s7 : Same h6 h7 := by subst e7; exact ((Same.refl h6).push _).put (Nat.le_refl _) _
   clear e7
   (refine Go.run (g:=?_))
   (first|refine Go.finA rfl ?_|refine Go.finB rfl (hq:=?_))
   exact ⟨0, _, rfl, .part h0 hHf hHn hA hlim hsd hput, kB.same s7, or0, oda⟩
  | some ms =>
   obtain ⟨sid, un, ppid, D⟩ := ms
   rw [hput] at V6
   obtain ⟨ma, mc, rfl, sm6, om6⟩ := V6
   (refine Go.runL (g:=?_))
   refine GoL.st (g:=?_)
   (refine Go.runL (g:=?_))
   refine GoL.endC (g:=?_)
   clear hdis hdis2
   refine Go.name ?_
   intro h7 e7
   have s7 : Same h6 h7 := by subst e7; exact ((Same.refl h6).push _).put (Nat.le_refl _) _
   have g77 : h7.get h6.n = some (.cells [.int .u16 (sid : Nat), .bool un, .int .u32 (ppid : Nat), .slice ma D.length mc] 39) := by subst e7; exact hg_
   have n7 : h7.n = h6.n + 1 := by subst e7; rfl
   clear e7
   have kC := kB.same s7
   have sm7 := sm6.same s7
   obtain ⟨bs, bp⟩ := putN_bound kA.J.pb pbp hput
   clear kA kB k6 J6 gx5 s7 sm6
   (refine Go.run (g:=?_))
   refine GoR.callW rfl rfl rfl rfl rfl rfl rfl (((whole10_spec xb A { t with wa := wa4, wc := wc4, da := da4, dc := dc4, c := c', ws := ws', ds := ds', kept := (putN t.kept p).1, ja := ja6, jc := jc6 } n0 ⟨sid, un, ppid, ma, mc, D⟩ p.ssn b4 hl _ (by omega) kC.X ⟨bs, bp⟩ sm7).argA).mono ?_)
   rintro _ h8 ⟨va8, vc8, ra8, rc8, X8, oX8⟩ k8
   refine ⟨fun i hi => .inl (List.mem_append_left _ (List.mem_append_left _ hi)), ?_⟩
   have kD := kC.setX k8 X8
   (refine Go.run (g:=?_))
   (first|refine Go.finA rfl ?_|refine Go.finB rfl (hq:=?_))
   exact ⟨0, _, rfl, .whole (m := ⟨sid, un, ppid, ma, mc, D⟩) h0 hHf hHn hA hlim hsd hput, kD, fun i hi => (oX8 i hi).imp id fun q => by omega, oda⟩
end Go.Proofs.Ytccbmmnkiihkaaa
namespace Go.Proofs.Ytccbmmnkiihkaaa
set_option maxRecDepth 100000
def PV.w (p : PV) : PV := { p with a := none, cap := 0 }
def IM.w (m : IM) : IM := { m with a := none, cap := 0 }
def pw (l : List PV) : List PV := l.map PV.w
def iw (l : List IM) : List IM := l.map IM.w
def ww (l : WL) : WL := l.map fun p => (p.1, p.2.w)
theorem pf_w : ∀ (l : List PV) (t : Nat), pf (pw l) t = (pf l t).map PV.w
 | [], t => rfl
 | p :: l, t => by
  show (if p.t = t then some p.w else pf (pw l) t) = (if p.t = t then some p else pf l t).map PV.w
  by_cases h : p.t = t
  · rw [if_pos h, if_pos h]; rfl
  · rw [if_neg h, if_neg h, pf_w l t]
theorem pdel_w : ∀ (l : List PV) (t : Nat), pdel (pw l) t = pw (pdel l t)
 | [], t => rfl
 | p :: l, t => by
  show (if p.t = t then pw l else p.w :: pdel (pw l) t) = pw (if p.t = t then l else p :: pdel l t)
  by_cases h : p.t = t
  · rw [if_pos h, if_pos h]
  · rw [if_neg h, if_neg h, pdel_w l t]; rfl
theorem zAt_w (l : List PV) (t : Nat) : zAt (pw l) t = zAt l t := by
 unfold zAt
 rw [pf_w]
 cases pf l t <;> rfl
theorem alikeB_w (q p : PV) : alikeB q.w p.w = alikeB q p := rfl
theorem backN_w (l : List PV) (p : PV) : ∀ (n : Nat) (f : PV), backN (pw l) p.w n f.w = (backN l p n f).map PV.w
 | 0, f => rfl
 | n + 1, f => by
  rw [backN_succ, backN_succ]
  show (if f.fl &&& 2 = 0 then _ else some f.w) = _
  by_cases h : f.fl &&& 2 = 0
  ·
   rw [if_pos h, if_pos h]
   have e : pf (pw l) (prev32 f.w.t) = (pf l (prev32 f.t)).map PV.w := pf_w l _
   rw [e]
   cases hq : pf l (prev32 f.t) with
   | none => rfl
   | some q =>
    show (if alikeB q.w p.w = true ∧ q.fl &&& 1 = 0 then backN (pw l) p.w n q.w else none) = (if alikeB q p = true ∧ q.fl &&& 1 = 0 then backN l p n q else none).map PV.w
    rw [alikeB_w]
    by_cases h2 : alikeB q p = true ∧ q.fl &&& 1 = 0
    · rw [if_pos h2, if_pos h2]; exact backN_w l p n q
    · rw [if_neg h2, if_neg h2]; rfl
  · rw [if_neg h, if_neg h]; rfl
theorem fwdN_w (l : List PV) (p : PV) : ∀ (n : Nat) (f : PV), fwdN (pw l) p.w n f.w = (fwdN l p n f).map PV.w
 | 0, f => rfl
 | n + 1, f => by
  rw [fwdN_succ, fwdN_succ]
  show (if f.fl &&& 1 = 0 then _ else some f.w) = _
  by_cases h : f.fl &&& 1 = 0
  ·
   rw [if_pos h, if_pos h]
   have e : pf (pw l) (nxt32 f.w.t) = (pf l (nxt32 f.t)).map PV.w := pf_w l _
   rw [e]
   cases hq : pf l (nxt32 f.t) with
   | none => rfl
   | some q =>
    show (if alikeB q.w p.w = true ∧ q.fl &&& 2 = 0 then fwdN (pw l) p.w n q.w else none) = (if alikeB q p = true ∧ q.fl &&& 2 = 0 then fwdN l p n q else none).map PV.w
    rw [alikeB_w]
    by_cases h2 : alikeB q p = true ∧ q.fl &&& 2 = 0
    · rw [if_pos h2, if_pos h2]; exact fwdN_w l p n q
    · rw [if_neg h2, if_neg h2]; rfl
  · rw [if_neg h, if_neg h]; rfl
theorem gat_w : ∀ (n t : Nat) (l : List PV) (D : List UInt8), gat n t (pw l) D = ((gat n t l D).1, pw (gat n t l D).2)
 | 0, t, l, D => by rw [gat_zero, gat_zero, zAt_w, pdel_w]
 | n + 1, t, l, D => by rw [gat_succ, gat_succ, zAt_w, pdel_w, gat_w n]
theorem pw_snoc (l : List PV) (p : PV) : pw (l ++ [p]) = pw l ++ [p.w] := by simp [pw]
theorem pw_len (l : List PV) : (pw l).length = l.length := by simp [pw]
theorem putN_has {l : List PV} {p q : PV} (h : pf l p.t = some q) : putN l p = (l, none) := by unfold putN; rw [h]
theorem putN_b0 {l : List PV} {p : PV} (h : pf l p.t = none) (hb : backN (l ++ [p]) p (l.length + 1) p = none) : putN l p = (l ++ [p], none) := by unfold putN; rw [h]; simp only [hb]
theorem putN_f0 {l : List PV} {p f : PV} (h : pf l p.t = none) (hb : backN (l ++ [p]) p (l.length + 1) p = some f) (hf : fwdN (l ++ [p]) p (l.length + 1) p = none) : putN l p = (l ++ [p], none) := by unfold putN; rw [h]; simp only [hb, hf]
def putR (l : List PV) (p f g : PV) (n : Nat) : List PV × Option MS := ((gat n f.t (l ++ [p]) []).2, some (f.sid, decide (¬ f.fl &&& 4 = 0), f.ppid, (gat n f.t (l ++ [p]) []).1))
theorem putN_ok {l : List PV} {p f g : PV} (h : pf l p.t = none) (hb : backN (l ++ [p]) p (l.length + 1) p = some f) (hf : fwdN (l ++ [p]) p (l.length + 1) p = some g) : putN l p = putR l p f g (gone f.t g.t) := by unfold putN putR; rw [h]; simp only [hb, hf]
theorem putR_w (l : List PV) (p f g : PV) (n : Nat) : putR (pw l) p.w f.w g.w n = (pw (putR l p f g n).1, (putR l p f g n).2) := by
 unfold putR
 rw [← pw_snoc, gat_w]
 rfl
theorem gone_w (f g : PV) : gone f.w.t g.w.t = gone f.t g.t := by rw [show f.w.t = f.t from rfl, show g.w.t = g.t from rfl]
theorem putN_w (l : List PV) (p : PV) : putN (pw l) p.w = (pw (putN l p).1, (putN l p).2) := by
 have e0 : pf (pw l) p.w.t = (pf l p.t).map PV.w := pf_w l _
 have eb := backN_w (l ++ [p]) p (l.length + 1) p
 have ef := fwdN_w (l ++ [p]) p (l.length + 1) p
 rw [pw_snoc] at eb ef
 cases h0 : pf l p.t with
 | some q =>
  rw [h0] at e0
  rw [putN_has e0, putN_has h0]
 | none =>
  rw [h0] at e0
  rw [← pw_len l] at eb ef
  have hl := pw_len l
  cases hb : backN (l ++ [p]) p (l.length + 1) p with
  | none =>
   rw [hl, hb, ← hl] at eb
   rw [putN_b0 e0 eb, putN_b0 h0 hb, pw_snoc]
  | some f =>
   rw [hl, hb, ← hl] at eb
   cases hf : fwdN (l ++ [p]) p (l.length + 1) p with
   | none =>
    rw [hl, hf, ← hl] at ef
    rw [putN_f0 e0 eb ef, putN_f0 h0 hb hf, pw_snoc]
   | some g =>
    rw [hl, hf, ← hl] at ef
    rw [putN_ok e0 eb ef, putN_ok h0 hb hf, gone_w, putR_w]
theorem putN_both {l k : List PV} {p q : PV} (h : pw l = pw k) (hp : p.w = q.w) : pw (putN l p).1 = pw (putN k q).1 ∧ (putN l p).2 = (putN k q).2 := by
 have h1 := putN_w l p
 rw [h, hp, putN_w] at h1
 exact ⟨(Prod.mk.inj h1).1.symm, (Prod.mk.inj h1).2.symm⟩
theorem heldN_w (l : List PV) : heldN (pw l) = heldN l := by unfold heldN pw; rw [List.map_map]; rfl
theorem lenI_w (l : List IM) : lenI (iw l) = lenI l := by unfold lenI iw; rw [List.map_map]; rfl
theorem lenW_w (l : WL) : lenW (ww l) = lenW l := by unfold lenW ww; rw [List.map_map]; rfl
theorem iw_snoc (l : List IM) (m : IM) : iw (l ++ [m]) = iw l ++ [m.w] := by simp [iw]
theorem ww_snoc (l : WL) (p : (Nat × Nat) × IM) : ww (l ++ [p]) = ww l ++ [(p.1, p.2.w)] := by simp [ww]
theorem gl_w : ∀ (l : WL) (k : Nat × Nat), gl (ww l) k = (gl l k).map IM.w
 | [], k => rfl
 | p :: l, k => by
  show (if p.1 = k then some p.2.w else gl (ww l) k) = (if p.1 = k then some p.2 else gl l k).map IM.w
  by_cases h : p.1 = k
  · rw [if_pos h, if_pos h]; rfl
  · rw [if_neg h, if_neg h, gl_w l k]
theorem gdel_w : ∀ (l : WL) (k : Nat × Nat), gdel (ww l) k = ww (gdel l k)
 | [], k => rfl
 | p :: l, k => by
  show (if p.1 = k then ww l else (p.1, p.2.w) :: gdel (ww l) k) = ww (if p.1 = k then l else p :: gdel l k)
  by_cases h : p.1 = k
  · rw [if_pos h, if_pos h]
  · rw [if_neg h, if_neg h, gdel_w l k]; rfl
theorem drainN_w : ∀ (n sid t : Nat) (W : WL) (R : List IM), drainN n sid t (ww W) (iw R) = ((drainN n sid t W R).1, ww (drainN n sid t W R).2.1, iw (drainN n sid t W R).2.2)
 | 0, sid, t, W, R => rfl
 | n + 1, sid, t, W, R => by
  have e := gl_w W (sid, t)
  cases hq : gl W (sid, t) with
  | none =>
   rw [hq] at e
   rw [drainN_none e, drainN_none hq]
  | some m =>
   rw [hq] at e
   rw [drainN_some e, drainN_some hq, gdel_w, ← iw_snoc, drainN_w n]
theorem nget_nput : ∀ (l : List (Nat × Nat)) (k v j : Nat), nget (nput l k v) j = if j = k then v else nget l j
 | [], k, v, j => by
  show (if k = j then v else 0) = _
  by_cases h : j = k
  · rw [if_pos h, if_pos h.symm]
  · rw [if_neg h, if_neg (fun e => h e.symm)]; rfl
 | p :: l, k, v, j => by
  have ih := nget_nput l k v j
  unfold nput
  by_cases h : p.1 = k
  ·
   rw [if_pos h]
   show (if k = j then v else nget l j) = (if j = k then v else if p.1 = j then p.2 else nget l j)
   by_cases e : j = k
   · rw [if_pos e, if_pos e.symm]
   · rw [if_neg e, if_neg (fun z => e z.symm), if_neg (fun z => e (by rw [← z, h]))]
  ·
   rw [if_neg h]
   show (if p.1 = j then p.2 else nget (nput l k v) j) = (if j = k then v else if p.1 = j then p.2 else nget l j)
   by_cases e : p.1 = j
   · rw [if_pos e, if_pos e, if_neg (fun z => h (by rw [e, z]))]
   · rw [if_neg e, if_neg e, ih]
structure Both (t : IT) (r : RT) : Prop where
 c : t.c = r.c
 ds : t.ds = r.ds
 al : Alike t.c t.ks r.ws
 kept : pw t.kept = pw r.kept
 nx : ∀ k, r.nx k = nget t.s.next k
 waits : ww t.s.waits = ww r.waits
 ready : iw t.s.ready = iw r.ready
theorem Both.held {t : IT} {r : RT} (b : Both t r) : t.held = r.held := by
 unfold IT.held RT.held lenS
 rw [← heldN_w t.kept, b.kept, heldN_w, ← lenW_w t.s.waits, b.waits, lenW_w, ← lenI_w t.s.ready, b.ready, lenI_w]
 omega
theorem Both.rl {t : IT} {r : RT} (b : Both t r) : r.ready.length = t.s.ready.length ∧ r.waits.length = t.s.waits.length ∧ r.kept.length = t.kept.length := by
 have h1 := congrArg List.length b.ready
 have h2 := congrArg List.length b.waits
 have h3 := congrArg List.length b.kept
 simp only [iw, ww, pw, List.length_map] at h1 h2 h3
 exact ⟨h1.symm, h2.symm, h3.symm⟩
theorem msg_both {s : IS} {nx : Nat → Nat} {W : WL} {R : List IM} {m m' : IM} {ssn : Nat} (hn : ∀ k, nx k = nget s.next k) (hW : ww s.waits = ww W) (hR : iw s.ready = iw R) (hm : m.w = m'.w) {s' : IS} (h : msgN s m ssn = some s' ∨ msgN s m ssn = none ∧ s' = s) : (∀ k, (rmsgN nx W R m' ssn).1 k = nget s'.next k) ∧ ww s'.waits = ww (rmsgN nx W R m' ssn).2.1 ∧ iw s'.ready = iw (rmsgN nx W R m' ssn).2.2 := by
 have hun : m'.un = m.un := (show m'.w.un = m.w.un by rw [hm])
 have hsid : m'.sid = m.sid := (show m'.w.sid = m.w.sid by rw [hm])
 have hgl : gl W (m.sid, ssn) = none ↔ gl s.waits (m.sid, ssn) = none := by
  have h1 := gl_w W (m.sid, ssn)
  rw [← hW, gl_w] at h1
  cases h2 : gl W (m.sid, ssn) with
  | none => rw [h2] at h1; cases h3 : gl s.waits (m.sid, ssn) with
   | none => simp
   | some q => rw [h3] at h1; cases h1
  | some q => rw [h2] at h1; cases h3 : gl s.waits (m.sid, ssn) with
   | none => rw [h3] at h1; cases h1
   | some q => simp
 unfold rmsgN
 unfold msgN at h
 rw [hun, hsid]
 by_cases h1 : m.un = true
 ·
  rw [if_pos h1] at h ⊢
  rcases h with h | ⟨h, -⟩
  ·
   cases h
   exact ⟨hn, hW, by simp only [iw_snoc, hR, hm]⟩
  · cases h
 rw [if_neg h1] at h ⊢
 by_cases h2 : ssn = nget s.next m.sid
 ·
  rw [if_pos h2] at h
  rw [if_pos (by rw [hn]; exact h2)]
  rcases h with h | ⟨h, -⟩
  ·
   cases h
   have hl : s.waits.length = W.length := by have := congrArg List.length hW; simpa [ww] using this
   have e1 := drainN_w (s.waits.length + 1) m.sid (nx16 ssn) s.waits (s.ready ++ [m])
   have e2 := drainN_w (W.length + 1) m.sid (nx16 ssn) W (R ++ [m'])
   rw [iw_snoc, hW, hR, hm, ← iw_snoc, hl] at e1
   rw [hl]
   rw [e1] at e2
   generalize drainN (W.length + 1) m.sid (nx16 ssn) s.waits (s.ready ++ [m]) = X at *
   generalize drainN (W.length + 1) m.sid (nx16 ssn) W (R ++ [m']) = Y at *
   obtain ⟨x1, x2, x3⟩ := X
   obtain ⟨y1, y2, y3⟩ := Y
   simp only [Prod.mk.injEq] at e2
   refine ⟨fun k => ?_, e2.2.1, e2.2.2⟩
   simp only
   rw [nget_nput]
   unfold upd1
   rw [hn, ← e2.1]
  · cases h
 ·
  rw [if_neg h2] at h
  rw [if_neg (by rw [hn]; exact h2)]
  by_cases h3 : bef16 (nget s.next m.sid) ssn = true ∧ gl s.waits (m.sid, ssn) = none
  ·
   rw [if_pos h3] at h
   rw [if_pos (by rw [hn, hgl]; exact h3)]
   rcases h with h | ⟨h, -⟩
   ·
    cases h
    exact ⟨hn, by simp only [ww_snoc, hW, hm], hR⟩
   · cases h
  ·
   rw [if_neg h3] at h
   rw [if_neg (by rw [hn, hgl]; exact h3)]
   rcases h with h | ⟨-, h⟩
   · cases h
   · rw [h]; exact ⟨hn, hW, hR⟩
theorem both10 {c t : Nat} {ks ws ds : List Nat} (al : Alike c ks ws) (ht : t < 4294967296) : ∃ code c' ks' ws' ds', addN c ks ds t = (code, c', ks', ds') ∧ addW c ws ds t = (code, c', ws', ds') ∧ Alike c' ks' ws' := by
 have h := al.add (ds := ds) ht
 generalize addN c ks ds t = X at *
 generalize addW c ws ds t = Y at *
 obtain ⟨x1, x2, x3, x4⟩ := X
 obtain ⟨y1, y2, y3, y4⟩ := Y
 obtain ⟨e1, e2, e3, a⟩ := h
 simp only at e1 e2 e3 a
 subst e1 e2 e3
 exact ⟨_, _, _, _, _, rfl, rfl, a⟩
theorem next_span {c t : Nat} (hc : c < 4294967296) (ht : t < 4294967296) : t = next32 c ↔ spanN c t = 1 := by unfold next32 spanN; omega
set_option maxHeartbeats 4000000 in
theorem add_both {A : IA} {A' : RA} {t t' : IT} {r r' : RT} {p : PV} {code code' : Int} (hA : A.st = A'.st ∧ A.rm = A'.rm ∧ A.sp = A'.sp) (ht : p.t < 4294967296) (b : Both t r) (h1 : AddI A t p code t') (h2 : RAddI A' r p code' r') : code = code' ∧ Both t' r' := by
 obtain ⟨cd, c1, ks1, ws1, ds1, hn, hw, al1⟩ := both10 (ds := t.ds) b.al ht
 have hh : hasN t.c t.ks p.t = hasW r.c r.ws p.t := by rw [← b.c]; exact b.al.has ht
 have hw' : addW r.c r.ws r.ds p.t = (cd, c1, ws1, ds1) := by rw [← b.c, ← b.ds]; exact hw
 have hlim : limitI A t p = limitR A' r p := by
  unfold limitI limitR
  rw [hA.2.1, hA.2.2, ← b.c]
  by_cases e : p.t = next32 t.c
  · rw [if_pos e, if_pos ((next_span b.al.cb ht).1 e)]
  · rw [if_neg e, if_neg (fun q => e ((next_span b.al.cb ht).2 q))]
 have hhd := b.held
 have f1 : hasW r.c r.ws p.t = true → cd = 1 := fun e => by
  rw [addN_has t.ds (hh.trans e)] at hn
  exact (Prod.mk.inj hn).1.symm
 have f2 : ¬ hasW r.c r.ws p.t = true → 65535 < spanN r.c p.t → (2, t.c, t.ks, t.ds) = (cd, c1, ks1, ds1) := fun e q => by
  rw [← b.c] at q
  rw [addN_far t.ds (by rw [hh]; exact e) q] at hn
  exact hn
 have f2w : ¬ hasW r.c r.ws p.t = true → 65535 < spanN r.c p.t → (2, t.c, r.ws, t.ds) = (cd, c1, ws1, ds1) := fun e q => by
  rw [← b.c] at q e
  rw [addW_far t.ds e q] at hw
  exact hw
 have f3 : ¬ hasW r.c r.ws p.t = true → ¬ 65535 < spanN r.c p.t → cd = 0 := fun e q => by
  rw [← b.c] at q
  rw [addN_new t.ds (by rw [hh]; exact e) q rfl] at hn
  exact (Prod.mk.inj hn).1.symm
 have hpw : ∀ (a : Option Addr) (k : Nat), ({ p with a := a, cap := k } : PV).w = p.w := fun a k => rfl
 cases h2 with
 | arg k0 =>
  cases h1 with
  | arg h0 =>
   exact ⟨rfl, b⟩
  | full h0 g1 g2 g3 =>
   exact absurd k0 h0
  | told h0 ha hc =>
   rw [hn] at ha
   simp only [Prod.mk.injEq] at ha
   obtain ⟨hcd, rfl, rfl, rfl⟩ := ha
   exact absurd k0 h0
  | stream h0 ha h3 hs =>
   rw [hn] at ha
   simp only [Prod.mk.injEq] at ha
   obtain ⟨hcd, rfl, rfl, rfl⟩ := ha
   exact absurd k0 h0
  | part h0 ha h3 hs hp =>
   rw [hn] at ha
   simp only [Prod.mk.injEq] at ha
   obtain ⟨hcd, rfl, rfl, rfl⟩ := ha
   exact absurd k0 h0
  | whole h0 ha h3 hs hp hm =>
   rw [hn] at ha
   simp only [Prod.mk.injEq] at ha
   obtain ⟨hcd, rfl, rfl, rfl⟩ := ha
   exact absurd k0 h0
 | full k0 k1 k2 k3 =>
  cases h1 with
  | arg h0 =>
   exact absurd h0 k0
  | full h0 g1 g2 g3 =>
   exact ⟨rfl, b⟩
  | told h0 ha hc =>
   rw [hn] at ha
   simp only [Prod.mk.injEq] at ha
   obtain ⟨hcd, rfl, rfl, rfl⟩ := ha
   exact absurd (hcd.symm.trans (f3 k1 k2)) hc
  | stream h0 ha h3 hs =>
   rw [hn] at ha
   simp only [Prod.mk.injEq] at ha
   obtain ⟨hcd, rfl, rfl, rfl⟩ := ha
   exact absurd h3 (by rw [hlim, hhd]; omega)
  | part h0 ha h3 hs hp =>
   rw [hn] at ha
   simp only [Prod.mk.injEq] at ha
   obtain ⟨hcd, rfl, rfl, rfl⟩ := ha
   exact absurd h3 (by rw [hlim, hhd]; omega)
  | whole h0 ha h3 hs hp hm =>
   rw [hn] at ha
   simp only [Prod.mk.injEq] at ha
   obtain ⟨hcd, rfl, rfl, rfl⟩ := ha
   exact absurd h3 (by rw [hlim, hhd]; omega)
 | has k0 k1 ka =>
  rw [hw'] at ka
  simp only [Prod.mk.injEq] at ka
  obtain ⟨rfl, rfl, rfl, rfl⟩ := ka
  cases h1 with
  | arg h0 =>
   exact absurd h0 k0
  | full h0 g1 g2 g3 =>
   exact absurd (hh.trans k1) g1
  | told h0 ha hc =>
   rw [hn] at ha
   simp only [Prod.mk.injEq] at ha
   obtain ⟨hcd, rfl, rfl, rfl⟩ := ha
   exact ⟨rfl, ⟨rfl, rfl, al1, b.kept, b.nx, b.waits, b.ready⟩⟩
  | stream h0 ha h3 hs =>
   rw [hn] at ha
   simp only [Prod.mk.injEq] at ha
   obtain ⟨hcd, rfl, rfl, rfl⟩ := ha
   exact absurd (hcd.symm.trans (f1 k1)) (by decide)
  | part h0 ha h3 hs hp =>
   rw [hn] at ha
   simp only [Prod.mk.injEq] at ha
   obtain ⟨hcd, rfl, rfl, rfl⟩ := ha
   exact absurd (hcd.symm.trans (f1 k1)) (by decide)
  | whole h0 ha h3 hs hp hm =>
   rw [hn] at ha
   simp only [Prod.mk.injEq] at ha
   obtain ⟨hcd, rfl, rfl, rfl⟩ := ha
   exact absurd (hcd.symm.trans (f1 k1)) (by decide)
 | far k0 k1 k2 =>
  cases h1 with
  | arg h0 =>
   exact absurd h0 k0
  | full h0 g1 g2 g3 =>
   exact absurd (by rw [b.c]; exact k2) g2
  | told h0 ha hc =>
   rw [hn] at ha
   simp only [Prod.mk.injEq] at ha
   obtain ⟨hcd, rfl, rfl, rfl⟩ := ha
   have e1 := f2 k1 k2
   have e2 := f2w k1 k2
   simp only [Prod.mk.injEq] at e1 e2
   obtain ⟨-, q1, q2, q3⟩ := e1
   exact ⟨rfl, ⟨by rw [← b.c]; exact q1.symm, by rw [← b.ds]; exact q3.symm, by rw [e2.2.2.1]; exact al1, b.kept, b.nx, b.waits, b.ready⟩⟩
  | stream h0 ha h3 hs =>
   rw [hn] at ha
   simp only [Prod.mk.injEq] at ha
   obtain ⟨hcd, rfl, rfl, rfl⟩ := ha
   have e1 := f2 k1 k2
   simp only [Prod.mk.injEq] at e1
   exact absurd (hcd.symm.trans e1.1.symm) (by decide)
  | part h0 ha h3 hs hp =>
   rw [hn] at ha
   simp only [Prod.mk.injEq] at ha
   obtain ⟨hcd, rfl, rfl, rfl⟩ := ha
   have e1 := f2 k1 k2
   simp only [Prod.mk.injEq] at e1
   exact absurd (hcd.symm.trans e1.1.symm) (by decide)
  | whole h0 ha h3 hs hp hm =>
   rw [hn] at ha
   simp only [Prod.mk.injEq] at ha
   obtain ⟨hcd, rfl, rfl, rfl⟩ := ha
   have e1 := f2 k1 k2
   simp only [Prod.mk.injEq] at e1
   exact absurd (hcd.symm.trans e1.1.symm) (by decide)
 | stream k0 k1 k2 ka k3 ks =>
  rw [hw'] at ka
  simp only [Prod.mk.injEq] at ka
  obtain ⟨rfl, rfl, rfl, rfl⟩ := ka
  cases h1 with
  | arg h0 =>
   exact absurd h0 k0
  | full h0 g1 g2 g3 =>
   exact absurd k3 (by rw [← hlim, ← hhd]; omega)
  | told h0 ha hc =>
   rw [hn] at ha
   simp only [Prod.mk.injEq] at ha
   obtain ⟨hcd, rfl, rfl, rfl⟩ := ha
   exact absurd (hcd.symm.trans (f3 k1 k2)) hc
  | stream h0 ha h3 hs =>
   rw [hn] at ha
   simp only [Prod.mk.injEq] at ha
   obtain ⟨hcd, rfl, rfl, rfl⟩ := ha
   exact ⟨rfl, ⟨rfl, rfl, al1, b.kept, b.nx, b.waits, b.ready⟩⟩
  | part h0 ha h3 hs hp =>
   rw [hn] at ha
   simp only [Prod.mk.injEq] at ha
   obtain ⟨hcd, rfl, rfl, rfl⟩ := ha
   exact absurd ks (by rw [← hA.1]; omega)
  | whole h0 ha h3 hs hp hm =>
   rw [hn] at ha
   simp only [Prod.mk.injEq] at ha
   obtain ⟨hcd, rfl, rfl, rfl⟩ := ha
   exact absurd ks (by rw [← hA.1]; omega)
 | part k0 k1 k2 ka k3 ks kp =>
  rw [hw'] at ka
  simp only [Prod.mk.injEq] at ka
  obtain ⟨rfl, rfl, rfl, rfl⟩ := ka
  cases h1 with
  | arg h0 =>
   exact absurd h0 k0
  | full h0 g1 g2 g3 =>
   exact absurd k3 (by rw [← hlim, ← hhd]; omega)
  | told h0 ha hc =>
   rw [hn] at ha
   simp only [Prod.mk.injEq] at ha
   obtain ⟨hcd, rfl, rfl, rfl⟩ := ha
   exact absurd (hcd.symm.trans (f3 k1 k2)) hc
  | stream h0 ha h3 hs =>
   rw [hn] at ha
   simp only [Prod.mk.injEq] at ha
   obtain ⟨hcd, rfl, rfl, rfl⟩ := ha
   exact absurd hs (by rw [hA.1]; omega)
  | part h0 ha h3 hs hp =>
   rw [hn] at ha
   simp only [Prod.mk.injEq] at ha
   obtain ⟨hcd, rfl, rfl, rfl⟩ := ha
   exact ⟨rfl, ⟨rfl, rfl, al1, (putN_both b.kept (hpw _ _)).1, b.nx, b.waits, b.ready⟩⟩
  | whole h0 ha h3 hs hp hm =>
   rw [hn] at ha
   simp only [Prod.mk.injEq] at ha
   obtain ⟨hcd, rfl, rfl, rfl⟩ := ha
   rw [(putN_both b.kept (hpw _ _)).2, kp] at hp
   cases hp
 | @whole kcode kc' kws' kds' kwa' kda' kja' kva' kra' kwc' kdc' kjc' kvc' krc' m' k0 k1 k2 ka k3 ks kp =>
  rw [hw'] at ka
  simp only [Prod.mk.injEq] at ka
  obtain ⟨rfl, rfl, rfl, rfl⟩ := ka
  cases h1 with
  | arg h0 =>
   exact absurd h0 k0
  | full h0 g1 g2 g3 =>
   exact absurd k3 (by rw [← hlim, ← hhd]; omega)
  | told h0 ha hc =>
   rw [hn] at ha
   simp only [Prod.mk.injEq] at ha
   obtain ⟨hcd, rfl, rfl, rfl⟩ := ha
   exact absurd (hcd.symm.trans (f3 k1 k2)) hc
  | stream h0 ha h3 hs =>
   rw [hn] at ha
   simp only [Prod.mk.injEq] at ha
   obtain ⟨hcd, rfl, rfl, rfl⟩ := ha
   exact absurd hs (by rw [hA.1]; omega)
  | part h0 ha h3 hs hp =>
   rw [hn] at ha
   simp only [Prod.mk.injEq] at ha
   obtain ⟨hcd, rfl, rfl, rfl⟩ := ha
   rw [(putN_both b.kept (hpw _ _)).2, kp] at hp
   cases hp
  | @whole jc' jks' jds' jda' jdc' jpa jpc m jra' jrc' s' h0 ha h3 hs hp hm =>
   rw [hn] at ha
   simp only [Prod.mk.injEq] at ha
   obtain ⟨hcd, rfl, rfl, rfl⟩ := ha
   rw [(putN_both b.kept (hpw _ _)).2, kp] at hp
   simp only [Option.some.injEq, Prod.mk.injEq] at hp
   obtain ⟨q1, q2, q3, q4⟩ := hp
   have hmw : m.w = m'.w := by unfold IM.w; rw [q1, q2, q3, q4]
   obtain ⟨z1, z2, z3⟩ := msg_both b.nx b.waits b.ready hmw hm
   exact ⟨rfl, ⟨rfl, rfl, al1, (putN_both b.kept (hpw _ _)).1, z1, z2, z3⟩⟩
end Go.Proofs.Ytccbmmnkiihkaaa
namespace Go.Proofs.Ytccbmmnkiihkaaa
set_option maxRecDepth 100000
attribute [local irreducible] Go GoR GoL
theorem Keeps.weak10 {wr wr' : List Nat} {h h' : AHeap} (k : Keeps wr h h') (hw : ∀ j ∈ wr, j ∈ wr') : Keeps wr' h h' := ⟨k.1, fun i hi hn => k.2 i hi fun q => hn (hw i q)⟩
theorem ROk.kept {h h' : AHeap} {xb : Nat} {A : RA} {t : RT} {n0 : Nat} {wr : List Nat} (k : ROk h xb A t n0) (kk : Keeps wr h h') (hx : ∀ j ∈ [xb] ++ blk t.va ++ blk t.ra, j ∉ wr) (hs : ∀ j ∈ [A.sb] ++ blk t.wa ++ blk t.da, j ∉ wr) (hj : ∀ j ∈ [A.jb] ++ blk t.ja, j ∉ wr) (hn : ∀ j ∈ wr, n0 ≤ j) (hd : ∀ {a : Option Addr} {len cap : Nat} {cs : List Value}, Sv h 5 1 a len cap cs → ∀ i ∈ blk a, i ∉ wr) : ROk h' xb A t n0 :=
 ⟨k.X.kept kk hx hd, k.S.kept kk hs, k.J.kept kk (hj _ (by simp)) (fun i hi => hj i (by simp [hi])) hn⟩
set_option maxHeartbeats 16000000 in
theorem rrecv10_spec (xb : Nat) (A : RA) (t : RT) (n0 : Nat) (h : AHeap) (hn0 : n0 ≤ h.n) (k : ROk h xb A t n0) (hl : t.ready.length ≤ 1000000) (hb : t.held ≤ 1000000000) : CallS Try.prog [xb] 13 [.pointer (some ⟨xb, 0, none⟩)] h fun v h' => (t.ready = [] ∧ v = .tuple #[.agg #[.int .u16 0, .bool false, .int .u32 0, .slice none 0 0], .bool false] ∧ ROk h' xb A t n0) ∨ ∃ m rest ra' rc', t.ready = m :: rest ∧ v = .tuple #[iV m, .bool true] ∧ ROk h' xb A { t with ra := ra', rc := rc', ready := rest } n0 ∧ Sv h' 5 1 m.a m.z.length m.cap (m.z.map bv) ∧ m.sid < 65536 ∧ m.ppid < 4294967296 ∧ ∀ i ∈ blk ra', i ∈ blk t.ra := by
 have hlt2 := k.X.lts
 have hxb := hlt2 xb (by simp)
 have slt := k.S.lts
 have jlt := k.J.lts
 (refine CallS.of1 Try.func13 rfl Try.ntmps13 Try.results13 rfl ?_)
 (refine Go.run (g:=?_))
 refine GoR.name ?_
 intro h1 e1
 have s1 : Same h h1 := by subst e1; exact (Same.refl h).push _
 have g1 : h1.get h.n = some (.cells [.int .u16 0, .bool false, .int .u32 0, .slice none 0 0] 39) := by subst e1; exact AHeap.get_push_same _ _
 have n1 : h1.n = h.n + 1 := by subst e1; rfl
 clear e1
 have k1 := k.same s1
 obtain ⟨c, gx, R⟩ := k1.X.xc
 have c7 := R.c7
 have cl := R.l
 have rv := k1.X.rv
 cases hr : t.ready with
 | nil =>
  rw [hr] at c7
  simp only [List.length_nil] at c7
  (refine Go.run (g:=?_))
  refine Go.name ?_
  intro h3 e3
  have s3 : Same h h3 := by subst e3; exact s1.put (Nat.le_refl _) _
  have g3 : h3.get h.n = some (.cells [.int .u16 0, .bool false, .int .u32 0, .slice none 0 0] 39) := by subst e3; exact get_put_self g1
  clear e3
  refine Go.fin (by first|exact .inr rfl|exact .inl rfl) (.cellN rfl inferInstance hg_ (by first | exact Nat.le_refl _ | (simp; omega)) rfl (.tmp rfl .nil)) ?_
  exact .inl ⟨rfl, rfl, k.same s3⟩
 | cons m rest =>
  have hrl : t.ready.length = rest.length + 1 := by rw [hr]; rfl
  have hmz := k1.X.dr m (by rw [hr]; simp)
  have hmb := k1.X.mr m (by rw [hr]; simp)
  have hrd : ∀ q ∈ rest, q ∈ t.ready := fun q hq => by rw [hr]; exact List.mem_cons_of_mem _ hq
  have rv1 := rv
  have R1 := R
  rw [hr] at rv1 c7 R1
  have c0 : ((ics (m :: rest)).drop (0 * 4)).take 4 = iC m := rfl
  have hbe : 0 * 4 + 4 ≤ (ics (m :: rest)).length := by rw [ics_len]; simp only [List.length_cons]; omega
  have hlc : (m :: rest).length = rest.length + 1 := rfl
  simp only [iC] at c0
  (refine Go.run (g:=?_))
  refine GoR.name ?_
  intro h3 e3
  have s3 : Same h1 h3 := by subst e3; exact ((Same.refl h1).push _).put (Nat.le_refl _) _
  have g4 : h3.get h1.n = some (.cells [.int .u16 (m.sid : Nat), .bool m.un, .int .u32 (m.ppid : Nat), .slice m.a m.z.length m.cap] 39) := by subst e3; exact hg_
  have n3 : h3.n = h1.n + 1 := by subst e3; rfl
  clear e3
  have k3 := k1.same s3
  have rv3 := rv1.same s3
  have gx3 := s3.get gx
  have g13 := s3.get g1
  have hmz3 := hmz.same s3
  have le3 := rv3.rv (P := Try.prog) |>.le
  refine GoR.sliceV (lo' := some (.int .i64 1)) (hi' := none) (l := 1) (r := (m :: rest).length) rfl rfl rfl rfl rfl rfl rfl (rv3.rv (P := Try.prog)) (by simp [bnd]) rfl (by rw [hlc]; omega) le3 ?_
  have sb3 := rv3.sub (l := 1) (r := (m :: rest).length) (by rw [hlc]; omega) (Nat.le_refl _)
  rw [hlc, Nat.add_sub_cancel] at sb3
  rw [hlc, Nat.add_sub_cancel]
  rw [ics_drop, List.take_of_length_le (by rw [ics_len]; exact Nat.le_refl _)] at sb3
  have hsub : blk (subA t.ra (1 * 4)) = blk t.ra := by cases t.ra <;> rfl
  generalize subA t.ra (1 * 4) = ra' at *
  (refine Go.run (g:=?_))
  refine Go.name ?_
  intro h5 e5
  obtain ⟨h4, e4⟩ : ∃ h4, h4 = h3.put xb (some (.cells (setL c 65542 [.slice ra' rest.length (t.rc - 1)]) 61)) := ⟨_, rfl⟩
  have e5 : h5 = h4.put h.n (some (.cells [.int .u16 (m.sid : Nat), .bool m.un, .int .u32 (m.ppid : Nat), .slice m.a m.z.length m.cap] 39)) := by rw [e5, e4]; rfl
  have k4 : Keeps [xb] h3 h4 := by subst e4; exact (Keeps.rf _ _).pt (.inl (by simp)) _
  have gx4 : h4.get xb = some (.cells (setL c 65542 [.slice ra' rest.length (t.rc - 1)]) 61) := by subst e4; exact get_put_self gx3
  clear e4
  have g14 := k4.get g13 (by simp; omega)
  have n4 := k4.1
  have ap := k3.X.apart
  have X4 : RX h4 xb A { t with ra := ra', rc := t.rc - 1, ready := rest } n0 := by
   have hd : ∀ {a : Option Addr} {len cap : Nat} {cs : List Value}, Sv h3 5 1 a len cap cs → Sv h4 5 1 a len cap cs := fun d => d.keeps k4 (fun i hi hm => k3.X.out d i hi (by simp only [List.mem_append] at hm ⊢; exact .inl (.inl hm)))
   exact ⟨⟨_, gx4, R1.set7 ra' rest.length (t.rc - 1)⟩, k3.X.wv.keeps k4 (fun j hj hm => by rw [List.mem_singleton.1 hm] at hj; exact ap.1 hj), sb3.keeps k4 (fun j hj hm => by rw [List.mem_singleton.1 hm, hsub] at hj; exact ap.2.1 hj), fun q hq => hd (k3.X.dr q (hrd q hq)), fun q hq => hd (k3.X.dw q hq), fun q hq => k3.X.mr q (hrd q hq), k3.X.mw, k3.X.wk, k3.X.ow.1, k3.X.ow.2.1, fun j hj => k3.X.ow.2.2 j (by rw [← hsub]; exact hj)⟩
  have kX := k3.setX (k4.weak10 (fun j hj => by simp only [List.mem_append]; exact .inl (.inl hj))) X4
  have hmz4 := hmz3.keeps k4 (fun i hi hm => k3.X.out hmz3 i hi (by simp only [List.mem_append] at hm ⊢; exact .inl (.inl hm)))
  have k5 : Keeps [h.n] h4 h5 := by subst e5; exact (Keeps.rf _ _).pt (.inl (by simp)) _
  have g15 : h5.get h.n = some (.cells [.int .u16 (m.sid : Nat), .bool m.un, .int .u32 (m.ppid : Nat), .slice m.a m.z.length m.cap] 39) := by subst e5; exact get_put_self g14
  clear e5
  have kY := kX.kept k5 (fun j hj => by
   have : j ∈ [xb] ++ blk t.va ++ blk t.ra := by rw [← hsub]; exact hj
   have := hlt2 j this
   simp only [List.mem_singleton]; omega) (fun j hj => by have := slt j hj; simp only [List.mem_singleton]; omega) (fun j hj => by have := jlt j hj; simp only [List.mem_singleton]; omega) (fun j hj => by rw [List.mem_singleton.1 hj]; exact hn0) (fun d i hi hm => by rw [List.mem_singleton.1 hm] at hi; exact sv_out d g14 (fun c e => by cases e) hi)
  have hmz5 := hmz4.keeps k5 (fun i hi hm => by rw [List.mem_singleton.1 hm] at hi; exact sv_out hmz4 g14 (fun c e => by cases e) hi)
  refine Go.fin (by first|exact .inr rfl|exact .inl rfl) (.cellN rfl inferInstance hg_ (by first | exact Nat.le_refl _ | (simp; omega)) rfl (.tmp rfl .nil)) ?_
  exact .inr ⟨m, rest, ra', t.rc - 1, rfl, rfl, kY, hmz5, hmb.1, hmb.2, fun i hi => by rw [← hsub]; exact hi⟩
end Go.Proofs.Ytccbmmnkiihkaaa
namespace Go.Proofs.Ytccbmmnkiihkaaa
set_option maxRecDepth 100000
attribute [local irreducible] Go GoR GoL
def sackC (c w : Nat) (ga : Option Addr) (gl gc : Nat) (da : Option Addr) (dl dc : Nat) : List Value := [.int .u8 3, .int .u8 0, .int .u32 0, .int .u32 w, .int .u32 c, .int .u16 0, .int .u16 0, .int .u16 0, .int .u16 0, .int .u32 0, .slice none 0 0, .slice none 0 0, .slice ga gl gc, .slice da dl dc, .slice none 0 0]
def sackV (c w : Nat) (ga : Option Addr) (gl gc : Nat) (da : Option Addr) (dl dc : Nat) : Value := .agg (sackC c w ga gl gc da dl dc).toArray
set_option maxHeartbeats 32000000 in
theorem rsack10_spec (xb : Nat) (A : RA) (t : RT) (n0 : Nat) (h : AHeap) (hn0 : n0 ≤ h.n) (g : RG t) (k : ROk h xb A t n0) (hb : t.held ≤ 1000000000) (h1 : t.kept.length ≤ 1000000) (h2 : t.waits.length ≤ 1000000) (h3 : t.ready.length ≤ 1000000) (hrm : A.rm ≤ 1048576) (hsp : A.sp ≤ 1048576) : CallS Try.prog [A.sb] 16 [.pointer (some ⟨xb, 0, none⟩)] h fun v h' => ∃ ga gc, v = sackV t.c (A.rm - A.sp - t.held) ga (rgaps t.ws).length gc t.da t.ds.length t.dc ∧ Sv h' 97 2 ga (rgaps t.ws).length gc (gcs (rgaps t.ws)) ∧ Sv h' 23 1 t.da t.ds.length t.dc (u32s' t.ds) ∧ ROk h' xb A { t with da := none, dc := 0, ds := [] } n0 := by
 have hxl := k.X.lts
 have slt := k.S.lts
 have jlt := k.J.lts
 (refine CallS.of1 Try.func16 rfl Try.ntmps16 Try.results16 rfl ?_)
 refine Go.runN (g:=?_)
 refine Go.name ?_
 intro h1' e1
 have s1 : Same h h1' := by subst e1; exact (Same.refl h).push _
 have g1 : h1'.get h.n = some (.cells [.int .u8 0, .int .u8 0, .int .u32 0, .int .u32 0, .int .u32 0, .int .u16 0, .int .u16 0, .int .u16 0, .int .u16 0, .int .u32 0, .slice none 0 0, .slice none 0 0, .slice none 0 0, .slice none 0 0, .slice none 0 0] 47) := by subst e1; exact AHeap.get_push_same _ _
 have n1 : h1'.n = h.n + 1 := by subst e1; rfl
 clear e1
 have k1 := k.same s1
 obtain ⟨c, gx, R⟩ := k1.X.xc
 have c3 := R.c3
 have gs := k1.S.sc
 refine Go.kk 2 rfl ?_
 refine Go.loudS 6 18 (by kernel_rfl) rfl rfl rfl rfl rfl (by kernel_rfl) (by kernel_rfl) rfl gs (off := 0) (v := .int .u32 (t.c : Nat)) rfl ?_
 (refine Go.runL (g:=?_))
 refine GoL.call rfl rfl rfl rfl rfl rfl rfl (((rwnd10_spec xb A t n0 hb h1 h2 h3 hrm hsp _ k1).argA).mono ?_)
 rintro _ h4 ⟨rfl, rfl⟩ -
 refine ⟨fun j hj => (by cases hj), ?_⟩
 generalize A.rm - A.sp - t.held = w at *
 (refine Go.runL (g:=?_))
 refine GoL.call rfl rfl rfl rfl rfl rfl rfl (((rgaps_spec A.sb t.c t.wa t.da t.wc t.dc t.ws t.ds n0 (by have := g.l; omega) _ k1.S).argA).mono ?_)
 rintro _ h5 ⟨ga, gc, rfl, svg, owng⟩ k5
 refine ⟨fun j hj => (by cases hj), ?_⟩
 have s5 := k5.same
 have k6 := k1.same s5
 have gx6 := s5.get gx
 have g16 := s5.get g1
 have m5 := s5.1
 clear k1 gx g1 gs s1
 generalize rgaps t.ws = G at *
 (refine Go.runL (g:=?_))
 refine GoL.call rfl rfl rfl rfl rfl rfl rfl (((rtake_spec A.sb t.c t.wa t.da t.wc t.dc t.ws t.ds n0 _ k6.S).argA).mono ?_)
 rintro _ h7 ⟨rfl, S7, sd7⟩ k7
 refine ⟨fun j hj => .inl hj, ?_⟩
 have m7 := k7.1
 have hsbl : A.sb < h.n := slt _ (by simp)
 have kS := k6.setS (k7.weak10 (fun j hj => by simp only [List.mem_append]; exact .inl hj)) S7
 have g17 := k7.get g16 (by simp only [List.mem_singleton]; omega)
 have svg7 := svg.keeps k7 (fun j hj hm => by rw [List.mem_singleton.1 hm] at hj; exact sv_out svg k6.S.sc (fun c e => by cases e) hj)
 have hxs : xb ≠ A.sb := fun e => k6.sx A.sb (by simp) (by simp [e])
 have hdis : ∀ b ∈ [A.sb], b ≠ xb ∧ b ≠ h.n := fun b hb => by rw [List.mem_singleton.1 hb]; exact ⟨fun e => hxs e.symm, by omega⟩
 have hdis2 : ∀ b ∈ [h.n], b ≠ xb ∧ b ≠ A.sb := fun b hb => by rw [List.mem_singleton.1 hb]; have := hxl xb (by simp); omega
 (refine Go.runL (g:=?_))
 refine GoL.st (g:=?_)
 (refine Go.runL (g:=?_))
 refine GoL.name ?_
 intro h8 e8
 have k8 : Keeps [h.n] h7 h8 := by subst e8; exact (Keeps.rf _ _).pt (.inl (by simp)) _
 have g18 : h8.get h.n = some (.cells (sackC t.c w ga G.length gc t.da t.ds.length t.dc) 47) := by subst e8; exact get_put_self g17
 clear e8
 have hnn : ∀ j, j < h.n → j ∉ [h.n] := fun j hj => by simp only [List.mem_singleton]; omega
 have gsE := k8.get kS.S.sc (hnn _ hsbl)
 have kE := kS.kept k8 (fun j hj => hnn j (hxl j hj)) (fun j hj => hnn j (by
  simp only [List.mem_append] at hj
  rcases hj with (q | q) | q
  · exact slt j (by simp only [List.mem_append]; exact .inl (.inl q))
  · exact slt j (by simp only [List.mem_append]; exact .inl (.inr q))
  · cases q)) (fun j hj => hnn j (jlt j hj)) (fun j hj => by rw [List.mem_singleton.1 hj]; exact hn0) (fun d i hi hm => by rw [List.mem_singleton.1 hm] at hi; exact sv_out d g17 (fun c e => by cases e) hi)
 have svgE := svg7.keeps k8 (fun j hj hm => by rw [List.mem_singleton.1 hm] at hj; exact sv_out svg7 g17 (fun c e => by cases e) hj)
 have sdE := sd7.keeps k8 (fun j hj hm => by rw [List.mem_singleton.1 hm] at hj; exact sv_out sd7 g17 (fun c e => by cases e) hj)
 refine GoL.endS (by (simp only [List.nil_append, List.cons_append]); repeat (first | exact loudPS.nil | refine loudPS.none ?_ | refine loudPS.new (fun _ hb => absurd hb List.not_mem_nil) ?_ | refine loudPS.row (by repeat (first | exact loudRowPS.nil | refine loudRowPS.none ?_ | refine loudRowPS.soft rfl ?_ | refine loudRowPS.one (.inl (by decide +kernel)) ?_ | refine loudRowPS.one (.inr ⟨by first | exact .inl rfl | exact .inr (by simp), rfl, fun i hi => by first | (have hx := hdis _ hi; first | (simp; fail_if_success focus skip) | (simp; omega) | (simp [hx]; fail_if_success focus skip)) | (have hx := hdis2 _ hi; first | (simp; fail_if_success focus skip) | (simp; omega) | (simp [hx]; fail_if_success focus skip))⟩) ?_)) ?_)) (by simp only [List.nil_append, List.cons_append]; simp [onlyW]; try omega) ⟨_, rfl, rfl, rfl⟩ rfl rfl gsE rfl ?_
 (refine Go.run (g:=?_))
 refine Go.fin (by first|exact .inr rfl|exact .inl rfl) (.cellN rfl inferInstance g18 (by first | exact Nat.le_refl _ | (simp; omega)) rfl .nil) ?_
 exact ⟨ga, gc, rfl, svgE, sdE, kE⟩
set_option maxHeartbeats 32000000 in
theorem isack_spec (xb : Nat) (A : IA) (r mr : Nat) (t : IT) (n0 : Nat) (h : AHeap) (hn0 : n0 ≤ h.n) (ws : List Nat) (al : Alike t.c t.ks ws) (k : IOk h xb A r mr t n0) (hb : t.held ≤ 1000000000) (hks : t.ks.length ≤ 1000000) (hrm : A.rm ≤ 1048576) (hsp : A.sp ≤ 1048576) : CallS Try.prog [A.sb] 15 [.pointer (some ⟨xb, 0, none⟩)] h fun v h' => ∃ ga gc, v = sackV t.c (A.rm - A.sp - t.held) ga (rgaps ws).length gc t.da t.ds.length t.dc ∧ Sv h' 97 2 ga (rgaps ws).length gc (gcs (rgaps ws)) ∧ Sv h' 23 1 t.da t.ds.length t.dc (u32s' t.ds) ∧ IOk h' xb A r mr { t with da := none, dc := 0, ds := [] } n0 := by
 have xlt := k.X.lts
 have glt := k.G.lts
 have jl1 := AHeap.lt k.J.jc
 have jl2 := k.J.mp.lt
 have hsp' := hsp
 (refine CallS.of1 Try.func15 rfl Try.ntmps15 Try.results15 rfl ?_)
 refine Go.runN (g:=?_)
 refine GoR.name ?_
 intro h1 e1
 have s1 : Same h h1 := by subst e1; exact (Same.refl h).push _
 have g1 : h1.get h.n = some (.cells [.int .u8 0, .int .u8 0, .int .u32 0, .int .u32 0, .int .u32 0, .int .u16 0, .int .u16 0, .int .u16 0, .int .u16 0, .int .u32 0, .slice none 0 0, .slice none 0 0, .slice none 0 0, .slice none 0 0, .slice none 0 0] 47) := by subst e1; exact AHeap.get_push_same _ _
 have n1 : h1.n = h.n + 1 := by subst e1; rfl
 clear e1
 have k1 := k.same s1
 have gx := k1.X.xc
 have hrw := irwnd_spec xb A r mr t n0 h1 k1 hb hrm hsp
 have hcm := icum_spec xb A r mr t n0 h1 k1
 generalize A.rm - A.sp - t.held = w at *
 refine GoR.eqRef rfl rfl rfl rfl (.inl rfl) rfl rfl (aEq_ptrNil9 inboxU _) ?_
 refine Go.runN (g:=?_)
 refine Go.kk 2 rfl ?_
 refine Go.loud (by kernel_rfl) rfl ?_
 (refine Go.runL (g:=?_))
 refine GoL.call rfl rfl rfl rfl rfl rfl rfl ((hcm.argA).mono ?_)
 rintro _ h2 ⟨rfl, rfl⟩ -
 refine ⟨fun j hj => (by cases hj), ?_⟩
 (refine Go.runL (g:=?_))
 refine GoL.call rfl rfl rfl rfl rfl rfl rfl ((hrw.argA).mono ?_)
 rintro _ h4 ⟨rfl, rfl⟩ -
 refine ⟨fun j hj => (by cases hj), ?_⟩
 (refine Go.runL (g:=?_))
 refine GoL.call rfl rfl rfl rfl rfl rfl rfl (((ggaps_spec A.sb r t.c t.ks t.da t.dc t.ds n0 ws al hks _ k1.G).argA).mono ?_)
 rintro _ h5 ⟨ga, rfl, svg, owng⟩ k5
 refine ⟨fun j hj => (by cases hj), ?_⟩
 have s5 := k5.same
 have k6 := k1.same s5
 have gx6 := s5.get gx
 have g16 := s5.get g1
 have m5 := s5.1
 clear k1 gx g1 s1 hrw hcm
 generalize rgaps ws = G at *
 (refine Go.runL (g:=?_))
 refine GoL.call rfl rfl rfl rfl rfl rfl rfl (((gdups_spec A.sb r t.c t.ks t.da t.dc t.ds n0 _ k6.G).argA).mono ?_)
 rintro _ h7 ⟨rfl, S7, sd7⟩ k7
 refine ⟨fun j hj => .inl hj, ?_⟩
 have m7 := k7.1
 have hsbl : A.sb < h.n := glt _ (by simp)
 have hxbl : xb < h.n := xlt _ (by simp)
 have kS := k6.setG (k7.weak10 (fun j hj => by rw [List.mem_singleton.1 hj]; simp)) S7
 have g17 := k7.get g16 (by simp only [List.mem_singleton]; omega)
 have svg7 := svg.keeps k7 (fun j hj hm => by rw [List.mem_singleton.1 hm] at hj; exact sv_out svg k6.G.sc (fun c e => by cases e) hj)
 have hxs : xb ≠ A.sb := fun e => k6.gx A.sb (by simp) (by simp [e])
 have hdis : ∀ b ∈ [A.sb], b ≠ xb ∧ b ≠ h.n := fun b hb => by rw [List.mem_singleton.1 hb]; exact ⟨fun e => hxs e.symm, by omega⟩
 have hdis2 : ∀ b ∈ [h.n], b ≠ xb ∧ b ≠ A.sb := fun b hb => by rw [List.mem_singleton.1 hb]; omega
 (refine Go.runL (g:=?_))
 refine GoL.st (g:=?_)
 (refine Go.runL (g:=?_))
 refine GoL.endC (g:=?_)
 refine Go.name ?_
 intro h8 e8
 have k8 : Keeps [h.n] h7 h8 := by subst e8; exact (Keeps.rf _ _).pt (.inl (by simp)) _
 have g18 : h8.get h.n = some (.cells (sackC t.c w ga G.length G.length t.da t.ds.length t.dc) 47) := by subst e8; exact get_put_self g17
 clear e8
 have hnn : ∀ j, j < h.n → j ∉ [h.n] := fun j hj => by simp only [List.mem_singleton]; omega
 have hu8 : ∀ {a : Option Addr} {len cap : Nat} {cs : List Value}, Sv h7 5 1 a len cap cs → ∀ i ∈ blk a, i ∉ [h.n] := fun d i hi hm => by rw [List.mem_singleton.1 hm] at hi; exact sv_out d g17 (fun c e => by cases e) hi
 have kE : IOk h8 xb A r mr { t with da := none, dc := 0, ds := [] } n0 := ⟨kS.X.kept k8 (fun j hj => hnn j (xlt j hj)) hu8, kS.G.kept k8 (fun j hj => hnn j (by
  simp only [List.cons_append, List.nil_append, List.mem_cons] at hj
  rcases hj with q | q | q
  · rw [q]; exact glt _ (by simp)
  · rw [q]; exact glt _ (by simp)
  · cases q)), kS.J.kept k8 (hnn _ jl1) (hnn _ jl2) (fun p hp => hu8 (kS.J.dv p hp)), kS.ne⟩
 have svgE := svg7.keeps k8 (fun j hj hm => by rw [List.mem_singleton.1 hm] at hj; exact sv_out svg7 g17 (fun c e => by cases e) hj)
 have sdE := sd7.keeps k8 (fun j hj hm => by rw [List.mem_singleton.1 hm] at hj; exact sv_out sd7 g17 (fun c e => by cases e) hj)
 (refine Go.run (g:=?_))
 refine Go.fin (by first|exact .inr rfl|exact .inl rfl) (.cellN rfl inferInstance g18 (by first | exact Nat.le_refl _ | (simp; omega)) rfl .nil) ?_
 exact ⟨ga, G.length, rfl, svgE, sdE, kE⟩
end Go.Proofs.Ytccbmmnkiihkaaa
namespace Go.Proofs.Ytccbmmnkiihkaaa
set_option maxRecDepth 100000
def tyOf (h : AHeap) (j : Nat) : Option TypeId := match h.get j with
 | some (.cells _ t) => some t
 | _ => none
theorem tyOf_cells {h : AHeap} {j : Nat} {c : List Value} {t : TypeId} (g : h.get j = some (.cells c t)) : tyOf h j = some t := by unfold tyOf; rw [g]
theorem tyOf_map {h : AHeap} {j : Nat} {es : Array MapEntry} {ck : Nat} (g : h.get j = some (.map es ck)) : tyOf h j = none := by unfold tyOf; rw [g]
theorem sv_ty {h : AHeap} {t : TypeId} {sz : Nat} {a : Option Addr} {len cap : Nat} {cs : List Value} (k : Sv h t sz a len cap cs) : ∀ j ∈ blk a, tyOf h j = some t := fun j hj => by
 cases k with
 | nil => cases hj
 | mk hg _ _ _ =>
  simp only [blk, List.mem_singleton] at hj
  rw [hj]; exact tyOf_cells hg
section
variable {h h' : AHeap} {xb yb r mr n0 : Nat} {A : IA} {B : RA} {t : IT} {q : RT}
def wrI (xb : Nat) (A : IA) (r mr : Nat) (t : IT) : List Nat := [xb, A.nx, A.wt] ++ blk t.ra ++ ([A.sb, r] ++ blk t.da) ++ [A.jb, mr]
def blR (yb : Nat) (B : RA) (q : RT) : List Nat := [yb] ++ blk q.va ++ blk q.ra ++ ([B.sb] ++ blk q.wa ++ blk q.da) ++ ([B.jb] ++ blk q.ja)
theorem IOk.kinds (k : IOk h xb A r mr t n0) : ∀ j ∈ wrI xb A r mr t, tyOf h j ∈ [none, some 84, some 104, some 107] ∨ (tyOf h j = some 39 ∧ j ∈ blk t.ra) ∨ (tyOf h j = some 23 ∧ j ∈ blk t.da) := fun j hj => by
 obtain ⟨es, ck, g, -⟩ := k.G.mp
 obtain ⟨es1, ck1, g1, -⟩ := k.X.nm
 obtain ⟨es2, ck2, g2, -⟩ := k.X.wm
 obtain ⟨es3, ck3, g3, -⟩ := k.J.mp
 simp only [wrI, List.cons_append, List.nil_append, List.mem_cons, List.mem_append, List.not_mem_nil, or_false] at hj
 rcases hj with rfl | rfl | rfl | (z | rfl | rfl | z) | rfl | rfl
 · left; rw [tyOf_cells k.X.xc]; simp
 · left; rw [tyOf_map g1]; simp
 · left; rw [tyOf_map g2]; simp
 · exact .inr (.inl ⟨sv_ty k.X.rv j z, z⟩)
 · left; rw [tyOf_cells k.G.sc]; simp
 · left; rw [tyOf_map g]; simp
 · exact .inr (.inr ⟨sv_ty k.G.dv j z, z⟩)
 · left; rw [tyOf_cells k.J.jc]; simp
 · left; rw [tyOf_map g3]; simp
theorem ROk.kinds (k : ROk h yb B q n0) : ∀ j ∈ blR yb B q, tyOf h j ∈ [some 61, some 99, some 54, some 2, some 86, some 33] ∨ (tyOf h j = some 39 ∧ j ∈ blk q.ra) ∨ (tyOf h j = some 23 ∧ j ∈ blk q.da) := fun j hj => by
 obtain ⟨c, g, -⟩ := k.X.xc
 simp only [blR, List.cons_append, List.nil_append, List.mem_cons, List.mem_append] at hj
 rcases hj with rfl | ((z | z) | rfl | z | z) | rfl | z
 · left; rw [tyOf_cells g]; simp
 · left; rw [sv_ty k.X.wv j z]; simp
 · exact .inr (.inl ⟨sv_ty k.X.rv j z, z⟩)
 · left; rw [tyOf_cells k.S.sc]; simp
 · left; rw [sv_ty k.S.wv j z]; simp
 · exact .inr (.inr ⟨sv_ty k.S.dv j z, z⟩)
 · left; rw [tyOf_cells k.J.jc]; simp
 · left; rw [sv_ty k.J.lv j z]; simp
theorem two_apart (k : IOk h xb A r mr t n0) (y : ROk h yb B q n0) (hra : ∀ j ∈ blk t.ra, j ∉ blk q.ra) (hda : ∀ j ∈ blk t.da, j ∉ blk q.da) : ∀ j ∈ blR yb B q, j ∉ wrI xb A r mr t := fun j hj hi => by
 have d1 : ∀ o ∈ [some 61, some 99, some 54, some 2, some 86, some 33], o ∉ ([none, some 84, some 104, some 107] : List (Option TypeId)) ∧ o ≠ some 39 ∧ o ≠ some 23 := by decide
 have d2 : ∀ o ∈ ([none, some 84, some 104, some 107] : List (Option TypeId)), o ≠ some 39 ∧ o ≠ some 23 := by decide
 rcases y.kinds j hj with e | ⟨e, z⟩ | ⟨e, z⟩
 ·
  rcases k.kinds j hi with e' | ⟨e', z'⟩ | ⟨e', z'⟩
  · exact (d1 _ e).1 e'
  · exact (d1 _ e).2.1 e'
  · exact (d1 _ e).2.2 e'
 ·
  rcases k.kinds j hi with e' | ⟨e', z'⟩ | ⟨e', z'⟩
  · exact (d2 _ e').1 e
  · exact hra j z' z
  · rw [e] at e'; exact absurd e' (by decide)
 ·
  rcases k.kinds j hi with e' | ⟨e', z'⟩ | ⟨e', z'⟩
  · exact (d2 _ e').2 e
  · rw [e] at e'; exact absurd e' (by decide)
  · exact hda j z' z
theorem IOk.u8 (k : IOk h xb A r mr t n0) {a : Option Addr} {len cap : Nat} {cs : List Value} (d : Sv h 5 1 a len cap cs) : ∀ i ∈ blk a, i ∉ wrI xb A r mr t := fun i hi hm => by
 have e := sv_ty d i hi
 rcases k.kinds i hm with e' | ⟨e', -⟩ | ⟨e', -⟩
 · rw [e] at e'; exact absurd e' (by decide)
 · rw [e] at e'; exact absurd e' (by decide)
 · rw [e] at e'; exact absurd e' (by decide)
theorem ROk.u8 (k : ROk h yb B q n0) {a : Option Addr} {len cap : Nat} {cs : List Value} (d : Sv h 5 1 a len cap cs) : ∀ i ∈ blk a, i ∉ blR yb B q := fun i hi hm => by
 have e := sv_ty d i hi
 rcases k.kinds i hm with e' | ⟨e', -⟩ | ⟨e', -⟩
 · rw [e] at e'; exact absurd e' (by decide)
 · rw [e] at e'; exact absurd e' (by decide)
 · rw [e] at e'; exact absurd e' (by decide)
theorem IOk.ownW (k : IOk h xb A r mr t n0) : ∀ j ∈ wrI xb A r mr t, n0 ≤ j := fun j hj => by
 unfold wrI at hj
 rcases List.mem_append.1 hj with hj | hj
 ·
  rcases List.mem_append.1 hj with hj | hj
  · exact k.X.owns j hj
  · exact k.G.owns j hj
 ·
  simp only [List.mem_cons, List.not_mem_nil, or_false] at hj
  rcases hj with rfl | rfl
  · exact k.J.ow.1
  · exact k.J.ow.2
theorem ROk.ownB (k : ROk h yb B q n0) : ∀ j ∈ blR yb B q, n0 ≤ j := fun j hj => by
 unfold blR at hj
 rcases List.mem_append.1 hj with hj | hj
 ·
  rcases List.mem_append.1 hj with hj | hj
  · exact k.X.owns j hj
  · exact k.S.owns j hj
 · exact k.J.owns j hj
theorem IOk.ltW (k : IOk h xb A r mr t n0) : ∀ j ∈ wrI xb A r mr t, j < h.n := fun j hj => by
 unfold wrI at hj
 rcases List.mem_append.1 hj with hj | hj
 ·
  rcases List.mem_append.1 hj with hj | hj
  · exact k.X.lts j hj
  · exact k.G.lts j hj
 ·
  simp only [List.mem_cons, List.not_mem_nil, or_false] at hj
  rcases hj with rfl | rfl
  · exact AHeap.lt k.J.jc
  · exact k.J.mp.lt
theorem ROk.ltB (k : ROk h yb B q n0) : ∀ j ∈ blR yb B q, j < h.n := fun j hj => by
 unfold blR at hj
 rcases List.mem_append.1 hj with hj | hj
 ·
  rcases List.mem_append.1 hj with hj | hj
  · exact k.X.lts j hj
  · exact k.S.lts j hj
 · exact k.J.lts j hj
theorem ROk.byI (y : ROk h yb B q n0) (k : IOk h xb A r mr t n0) (hra : ∀ j ∈ blk t.ra, j ∉ blk q.ra) (hda : ∀ j ∈ blk t.da, j ∉ blk q.da) {wr : List Nat} (hw : ∀ j ∈ wr, j ∈ wrI xb A r mr t) (kk : Keeps wr h h') : ROk h' yb B q n0 := by
 have ap := two_apart k y hra hda
 refine y.kept kk (fun j hj hm => ap j (by unfold blR; exact List.mem_append_left _ (List.mem_append_left _ hj)) (hw j hm)) (fun j hj hm => ap j (by unfold blR; exact List.mem_append_left _ (List.mem_append_right _ hj)) (hw j hm)) (fun j hj hm => ap j (by unfold blR; exact List.mem_append_right _ hj) (hw j hm)) (fun j hj => k.ownW j (hw j hj)) (fun d i hi hm => k.u8 d i hi (hw i hm))
theorem IOk.byR (k : IOk h xb A r mr t n0) (y : ROk h yb B q n0) (hra : ∀ j ∈ blk t.ra, j ∉ blk q.ra) (hda : ∀ j ∈ blk t.da, j ∉ blk q.da) {wr : List Nat} (hw : ∀ j ∈ wr, j ∈ blR yb B q) (kk : Keeps wr h h') : IOk h' xb A r mr t n0 := by
 have ap : ∀ j ∈ wrI xb A r mr t, j ∉ wr := fun j hj hm => two_apart k y hra hda j (hw j hm) hj
 have u8 : ∀ {a : Option Addr} {len cap : Nat} {cs : List Value}, Sv h 5 1 a len cap cs → ∀ i ∈ blk a, i ∉ wr := fun d i hi hm => y.u8 d i hi (hw i hm)
 exact ⟨k.X.kept kk (fun j hj => ap j (by unfold wrI; exact List.mem_append_left _ (List.mem_append_left _ hj))) u8, k.G.kept kk (fun j hj => ap j (by unfold wrI; exact List.mem_append_left _ (List.mem_append_right _ hj))), k.J.kept kk (ap _ (by unfold wrI; simp)) (ap _ (by unfold wrI; simp)) (fun p hp => u8 (k.J.dv p hp)), k.ne⟩
theorem apart_new {g : List Nat} {a a' : Option Addr} {n : Nat} (hg : ∀ j ∈ g, j < n) (h : ∀ j ∈ blk a, j ∉ g) (hn : ∀ i ∈ blk a', i ∈ blk a ∨ n ≤ i) : ∀ j ∈ blk a', j ∉ g := fun j hj hm => by
 rcases hn j hj with z | z
 · exact h j z hm
 · have := hg j hm; omega
end
end Go.Proofs.Ytccbmmnkiihkaaa
namespace Go.Proofs.Ytccbmmnkiihkaaa
open Go.RowKit
set_option maxRecDepth 100000
def asB10 : Value → AHeap → List Nat → Option Bool
 | .bool b, _, _ => some b
 | _, _, _ => none
theorem asB10_true {v : Value} {h : AHeap} {wr : List Nat} (e : asB10 v h wr = some true) : v = .bool true := by
 unfold asB10 at e
 split at e
 · cases e; rfl
 · cases e
theorem known10Run : callK (A := Bool) Try.prog noS (fev Try.prog noS 50000) 6 [] emptyH asB10 = some true := by kernel_rfl
theorem known10 (h : AHeap) : CallS Try.prog [] 6 [] h fun u h' => u = .bool true ∧ h' = h := by
 obtain ⟨v, h', wr, hc, he⟩ := callRun_of (noS_ok _) known10Run
 obtain rfl := asB10_true he
 exact CallS.known noGlobals hc rfl h
end Go.Proofs.Ytccbmmnkiihkaaa
namespace Go.Proofs.Ytccbmmnkiihkaaa
set_option maxRecDepth 100000
attribute [local irreducible] Go GoR GoL
theorem boolU10 : Try.prog.underlying 4 = some .bool := by kernel_rfl
theorem sumN_mem : ∀ {l : List (Int × PV)} {x : Int × PV}, x ∈ l → x.2.z.length ≤ sumN l
 | y :: l, x, h => by
  show _ ≤ y.2.z.length + sumN l
  rcases List.mem_cons.1 h with rfl | h
  · omega
  · have := sumN_mem h; omega
structure RdOk (h H : AHeap) (xb : Nat) (A : IA) (r mr : Nat) (t : IT) (i : Nat) : Prop where
 k : IOk H xb A r mr t h.n
 old : Same h H
 held : t.held ≤ A.rm
 ks : t.ks.length ≤ i
 ds : t.ds.length ≤ 16
 kept : t.kept.length ≤ i
 cnt : t.s.ready.length + t.s.waits.length ≤ i
end Go.Proofs.Ytccbmmnkiihkaaa
namespace Go.Proofs.Ytccbmmnkiihkaaa
set_option maxRecDepth 100000
attribute [local irreducible] Go GoR GoL
theorem bound_eq (n : Int) : bound10 n = boundN n := by unfold bound10 boundN; split <;> split <;> omega
set_option maxHeartbeats 4000000 in
theorem same10_spec (m m' : IM) (e : m.w = m'.w) (h : AHeap) (hz : Sv h 5 1 m.a m.z.length m.cap (m.z.map bv)) (hz' : Sv h 5 1 m'.a m'.z.length m'.cap (m'.z.map bv)) : CallS Try.prog [] 14 [iV m, iV m'] h fun v h' => v = .bool true := by
 obtain ⟨sid, un, pp, a, cap, z⟩ := m
 obtain ⟨sid', un', pp', a', cap', z'⟩ := m'
 simp only [IM.w, IM.mk.injEq] at e
 obtain ⟨rfl, rfl, rfl, -, -, rfl⟩ := e
 simp only [iV, iC] at *
 have hy := hz.rv (P := Try.prog)
 have hy' := hz'.rv (P := Try.prog)
 (refine CallS.of2 Try.func14 rfl Try.ntmps14 Try.results14 rfl ?_)
 (refine Go.run (g:=?_))
 refine GoR.boolEq rfl rfl rfl rfl rfl rfl boolU10 ?_
 rw [beq_self_eq_true]
 (refine Go.run (g:=?_))
 (first|refine Go.finA rfl ?_|refine Go.finB rfl (hq:=?_))
 simp [retV]
theorem rgaps_le10 (ws : List Nat) : (rgaps ws).length ≤ 64 := by unfold rgaps; rw [List.length_take]; omega
structure PlOk (h H : AHeap) (xb : Nat) (A : IA) (r mr : Nat) (t : IT) (yb : Nat) (B : RA) (q : RT) (i : Nat) : Prop where
 k : IOk H xb A r mr t h.n
 y : ROk H yb B q h.n
 b : Both t q
 old : Same h H
 held : t.held ≤ A.rm
 ks : t.ks.length ≤ i
 ds : t.ds.length ≤ 16
 kept : t.kept.length ≤ i
 cnt : t.s.ready.length + t.s.waits.length ≤ i
 ra : ∀ j ∈ blk t.ra, j ∉ blk q.ra
 da : ∀ j ∈ blk t.da, j ∉ blk q.da
theorem PlOk.rg {h H : AHeap} {xb yb r mr i : Nat} {A : IA} {B : RA} {t : IT} {q : RT} (o : PlOk h H xb A r mr t yb B q i) (hi : i ≤ 1000) : RG q := by
 have hl := o.b.al.len
 have := o.ks
 exact ⟨by omega, o.b.al.po, o.b.al.so, by rw [← o.b.ds]; exact o.ds⟩
theorem PlOk.same {h H H' : AHeap} {xb yb r mr i : Nat} {A : IA} {B : RA} {t : IT} {q : RT} (o : PlOk h H xb A r mr t yb B q i) (s : Same H H') : PlOk h H' xb A r mr t yb B q i := { o with k := o.k.same s, y := o.y.same s, old := o.old.trans s }
theorem PlOk.up {h H : AHeap} {xb yb r mr i : Nat} {A : IA} {B : RA} {t : IT} {q : RT} (o : PlOk h H xb A r mr t yb B q i) : PlOk h H xb A r mr t yb B q (i + 1) := { o with ks := Nat.le_succ_of_le o.ks, kept := Nat.le_succ_of_le o.kept, cnt := Nat.le_succ_of_le o.cnt }
set_option maxHeartbeats 64000000 in
theorem inboxPlays_spec (st : Nat) (hst : st < 65536) (room most : Int) (c : Nat) (hc : c < 4294967296) (l : List (Int × PV)) (a : Option Addr) (cap : Nat) (h : AHeap) (hz : Rv Try.prog h 7 a l.length cap (dos10 l)) (hlen : l.length ≤ 140737488355328) (hb : ∀ x ∈ l, x.2.z.length ≤ 140737488355328) (hpb : ∀ x ∈ l, PB x.2) (hd : ∀ x ∈ l, Rv Try.prog h 1 x.2.a x.2.z.length x.2.cap (x.2.z.map bv)) : CallS Try.prog [] 3 [.int .u16 st, .int .i64 room, .int .i64 most, .int .u32 c, .slice a l.length cap] h fun v h' => v = .bool true := by
 have hkn := known10 h
 have hhv := heavy_spec l a cap h hz hlen hb
 (refine CallS.of5 Try.func3 rfl Try.ntmps3 Try.results3 rfl ?_)
 (refine Go.run (g:=?_))
 refine GoR.call rfl rfl rfl rfl rfl rfl rfl (((hkn).argA).mono ?_)
 rintro _ h1 ⟨rfl, rfl⟩ -
 (refine Go.run (g:=?_))
 refine GoR.call rfl rfl rfl rfl rfl rfl rfl (((hhv).argA).mono ?_)
 rintro _ h2 ⟨hv, rfl, hvf⟩ s2
 cases hv with
 | true =>
  (refine Go.run (g:=?_))
  (first|refine Go.finA rfl ?_|refine Go.finB rfl (hq:=?_))
  rfl
 | false =>
 obtain ⟨hsum, hadd, h200⟩ := hvf rfl
 have n2 := s2.1
 (refine Go.run (g:=?_))
 refine GoR.call rfl rfl rfl rfl rfl rfl rfl (((inew_spec st room most c hc _).argA).mono ?_)
 rintro _ h3 ⟨xb, sb, jb, nx, wt, r, mr, rfl, k3⟩ s3
 have n3 := s3.1
 (refine Go.run (g:=?_))
 refine GoR.call rfl rfl rfl rfl rfl rfl rfl (((new10_spec st c room most hst hc _).argA).mono ?_)
 rintro _ h4 ⟨yb, sb', jb', rfl, y4⟩ s4
 rw [bound_eq, bound_eq] at y4
 have hrm := boundN_le room
 have hsp := boundN_le most
 have k3' : IOk h3 xb ⟨st, boundN room, boundN most, sb, jb, nx, wt⟩ r mr ⟨none, 0, none, 0, c, [], [], [], ⟨[], [], []⟩⟩ h1.n := by
  have X := k3.X
  have G := k3.G
  have J := k3.J
  exact ⟨{ X with ow := ⟨Nat.le_trans n2 X.ow.1, Nat.le_trans n2 X.ow.2.1, Nat.le_trans n2 X.ow.2.2.1, Own.nil _⟩ }, { G with ow := ⟨Nat.le_trans n2 G.ow.1, Nat.le_trans n2 G.ow.2.1, Own.nil _⟩ }, { J with ow := ⟨Nat.le_trans n2 J.ow.1, Nat.le_trans n2 J.ow.2⟩ }, k3.ne⟩
 have y4' : ROk h4 yb ⟨st, boundN room, boundN most, sb', jb'⟩ ⟨none, 0, none, 0, none, 0, none, 0, none, 0, c, [], [], [], fun _ => 0, [], []⟩ h1.n := by
  have X := y4.X
  have S := y4.S
  have J := y4.J
  have n13 := Nat.le_trans n2 n3
  exact ⟨{ X with ow := ⟨Nat.le_trans n13 X.ow.1, Own.nil _, Own.nil _⟩ }, { S with ow := ⟨Nat.le_trans n13 S.ow.1, Own.nil _, Own.nil _⟩ }, { J with ow := ⟨Nat.le_trans n13 J.ow.1, Own.nil _⟩, db := (fun q hq => by cases hq) }⟩
 have b0 : Both ⟨none, 0, none, 0, c, [], [], [], ⟨[], [], []⟩⟩ ⟨none, 0, none, 0, none, 0, none, 0, none, 0, c, [], [], [], fun _ => 0, [], []⟩ := ⟨rfl, rfl, Alike.start hc, rfl, fun k => rfl, rfl, rfl⟩
 have ok0 : PlOk h1 h4 xb ⟨st, boundN room, boundN most, sb, jb, nx, wt⟩ r mr ⟨none, 0, none, 0, c, [], [], [], ⟨[], [], []⟩⟩ yb ⟨st, boundN room, boundN most, sb', jb'⟩ ⟨none, 0, none, 0, none, 0, none, 0, none, 0, c, [], [], [], fun _ => 0, [], []⟩ 0 := ⟨k3'.same s4, y4', b0, (s2.trans s3).trans s4, Nat.zero_le _, Nat.le_refl _, Nat.zero_le _, Nat.le_refl _, Nat.le_refl _, (fun j hj => by cases hj), (fun j hj => by cases hj)⟩
 obtain ⟨A, hA⟩ : ∃ A : IA, A = ⟨st, boundN room, boundN most, sb, jb, nx, wt⟩ := ⟨_, rfl⟩
 obtain ⟨B, hB⟩ : ∃ B : RA, B = ⟨st, boundN room, boundN most, sb', jb'⟩ := ⟨_, rfl⟩
 have hAB : A.st = B.st ∧ A.rm = B.rm ∧ A.sp = B.sp := by rw [hA, hB]; exact ⟨rfl, rfl, rfl⟩
 have hArm : A.rm ≤ 1048576 := by rw [hA]; exact hrm
 have hAsp : A.sp ≤ 1048576 := by rw [hA]; exact hsp
 have hAst : A.st < 65536 := by rw [hA]; exact hst
 obtain ⟨hAB1, hAB2, hAB3⟩ := hAB
 have hBrm : B.rm ≤ 1048576 := by rw [← hAB2]; exact hArm
 have hBsp : B.sp ≤ 1048576 := by rw [← hAB3]; exact hAsp
 have hBst : B.st < 65536 := by rw [← hAB1]; exact hAst
 rw [← hA, ← hB] at ok0
 clear k3 k3' y4 y4' s2 s3 s4 hA hB hkn hhv b0 hrm hsp
 (refine Go.run (g:=?_))
 refine Go.loop (α := Nat × IT × RT × AHeap) (fun x => [(37, .int .i64 x.1), (36, .int .i64 l.length), (35, .slice a l.length cap), (11, .pointer (some ⟨xb, 0, none⟩)), (12, .pointer (some ⟨yb, 0, none⟩))]) (fun _ => []) (fun x => x.2.2.2) (fun x => x.1 ≤ l.length ∧ PlOk h1 x.2.2.2 xb A r mr x.2.1 yb B x.2.2.1 x.1) (fun x => l.length - x.1) (0, _, _, h4) ⟨Nat.zero_le _, ok0⟩ ⟨rfl, rfl, rfl, rfl, rfl, trivial⟩ rfl rfl ?_
 clear ok0
 rintro ⟨i, t, q, H⟩ ⟨hi, ok⟩
 simp only at hi ok ⊢
 have hz1 := hz.same ok.old
 have hHn := ok.old.1
 rcases Nat.lt_or_ge i l.length with i0 | i0
 case inr =>
  (refine Go.run (g:=?_))
  (first|refine Go.finA rfl ?_|refine Go.finB rfl (hq:=?_))
  rfl
 have c0 := dos10_get i0
 have hbe : i * 7 + 7 ≤ (dos10 l).length := by rw [dos10_len]; omega
 have hp1 := hpb _ (List.getElem_mem i0)
 have hd1 := (hd _ (List.getElem_mem i0)).same ok.old
 have hdlt := (hd _ (List.getElem_mem i0)).lt
 have hzs : l[i].2.z.length ≤ 20000 := by
  have : l[i].2.z.length ≤ sumN l := by
   exact sumN_mem (List.getElem_mem i0)
  omega
 generalize l[i].1 = kd at *
 generalize l[i].2 = p at *
 simp only [pC] at c0
 (refine Go.run (g:=?_))
 refine Go.name ?_
 intro H1 e1
 have s1 : Same H H1 := by subst e1; exact ((Same.refl H).push _).put (Nat.le_refl _) _
 have g13 : H1.get H.n = some (.cells [.int .i64 kd, .int .u32 (p.t : Nat), .int .u8 (p.fl : Nat), .int .u16 (p.sid : Nat), .int .u16 (p.ssn : Nat), .int .u32 (p.ppid : Nat), .slice p.a p.z.length p.cap] 35) := by subst e1; exact hg_
 have n1 : H1.n = H.n + 1 := by subst e1; rfl
 clear e1
 have klt := ok.k.ltW
 have ylt := ok.y.ltB
 have ok1 := ok.same s1
 have hd1' := hd1.same s1
 clear ok hz1 hd1 s1
 refine Go.join2 (α := IT × RT × AHeap) (fun _ => [(37, .int .i64 i), (36, .int .i64 l.length), (35, .slice a l.length cap), (11, .pointer (some ⟨xb, 0, none⟩)), (12, .pointer (some ⟨yb, 0, none⟩))]) (fun _ => []) (fun x => x.2.2) (fun x => PlOk h1 x.2.2 xb A r mr x.1 yb B x.2.1 (i + 1)) ?_ ?_
 ·
  have hg := ok1.rg (by omega)
  have hhd := ok1.b.held
  have hrl := ok1.b.rl
  have o1 := ok1.held
  have o2 := ok1.ks
  have o3 := ok1.ds
  have o4 := ok1.kept
  have o5 := ok1.cnt
  by_cases k0 : kd = 0
  ·
   subst k0
   refine Go.runN (g:=?_)
   refine Go.kk 2 rfl ?_
   refine Go.loud (by kernel_rfl) rfl ?_
   (refine Go.runL (g:=?_))
   refine GoL.call rfl rfl rfl rfl rfl rfl rfl (((iadd_specO xb A r mr t h1.n p hp1 _ (by omega) ok1.k (by omega) hAsp hAst (by omega) (by omega) o3 (by omega) hdlt hd1').argA).mono ?_)
   rintro _ H5 ⟨code, t', rfl, hai, k5, ora, oda⟩ kk
   refine ⟨fun j hj => .inr (ok1.k.ownW j hj), ?_⟩
   have y5 := ok1.y.byI ok1.k ok1.ra ok1.da (fun j hj => hj) kk
   have old5 := ok1.old.own kk ok1.k.ownW
   have ra5 : ∀ j ∈ blk t'.ra, j ∉ blk q.ra := apart_new (fun j hj => ok1.y.ltB j (by simp [blR, hj])) ok1.ra ora
   have da5 : ∀ j ∈ blk t'.da, j ∉ blk q.da := apart_new (fun j hj => ok1.y.ltB j (by simp [blR, hj])) ok1.da oda
   have hd5 := hd1'.keeps kk (fun j hj hm => by have := ok1.k.ownW j hm; have := hdlt j hj; omega)
   have n5 := kk.1
   have g15 := kk.get g13 (fun hm => by have := klt _ hm; omega)
   have hdis : ∀ b ∈ wrI xb A r mr t, b ≠ H.n := fun b hb => by have := klt b hb; omega
   (refine Go.runL (g:=?_))
   refine GoL.call rfl rfl rfl rfl rfl rfl rfl (((radd10_spec yb B q h1.n p hp1 hg _ (by omega) y5 hBrm hBsp hBst (by omega) (by omega) (by omega) hdlt hd5).argA).mono ?_)
   rintro _ H6 ⟨code', q', rfl, hbi, y6, orb, odb⟩ kk6
   have hsub : ∀ j ∈ [yb] ++ blk q.va ++ blk q.ra ++ ([B.sb] ++ blk q.da) ++ ([B.jb] ++ blk q.ja), j ∈ blR yb B q := fun j hj => by
    unfold blR
    simp only [List.mem_append] at hj ⊢
    rcases hj with (z | z | z) | z
    · exact .inl (.inl z)
    · exact .inl (.inr (.inl (.inl z)))
    · exact .inl (.inr (.inr z))
    · exact .inr z
   refine ⟨fun j hj => .inr (y5.ownB j (hsub j hj)), ?_⟩
   have k6 := k5.byR y5 ra5 da5 hsub kk6
   have old6 := old5.own kk6 (fun j hj => y5.ownB j (hsub j hj))
   obtain ⟨rfl, b6⟩ := add_both ⟨hAB1, hAB2, hAB3⟩ hp1.t ok1.b hai hbi
   obtain ⟨ao, -⟩ := addI_ok ok1.k.G.cb o3 hai
   have hdis2 : ∀ b ∈ [yb] ++ blk q.va ++ blk q.ra ++ ([B.sb] ++ blk q.da) ++ ([B.jb] ++ blk q.ja), b ≠ H.n := fun b hb => by have := ylt b (hsub b hb); omega
   have ap5 := two_apart k5 y5 ra5 da5
   have ra6 : ∀ j ∈ blk t'.ra, j ∉ blk q'.ra := fun j hj hm => by
    rcases orb j hm with z | z
    · exact ap5 j (by unfold blR; exact List.mem_append_left _ (List.mem_append_left _ z)) (by simp [wrI, hj])
    · have := k5.ltW j (by simp [wrI, hj]); omega
   have da6 : ∀ j ∈ blk t'.da, j ∉ blk q'.da := fun j hj hm => by
    rcases odb j hm with z | z
    · exact da5 j hj z
    · have := k5.ltW j (by simp [wrI, hj]); omega
   have ok6 : PlOk h1 H6 xb A r mr t' yb B q' (i + 1) := ⟨k6, y6, b6, old6, ao.held o1, by have := ao.ks; omega, ao.ds, by have := ao.kept; omega, by have := ao.cnt; omega, ra6, da6⟩
   (refine Go.runL (g:=?_))
   refine GoL.endC (g:=?_)
   rw [decide_eq_true (rfl : code = code)]
   (refine Go.run (g:=?_))
   exact Go.joined (t', q', H6) ok6 ⟨rfl, rfl, rfl, rfl, rfl, trivial⟩ rfl rfl
  by_cases k1' : kd = 1
  ·
   subst k1'
   (refine Go.run (g:=?_))
   refine GoR.callW rfl rfl rfl rfl rfl rfl rfl (((irecv_specO xb A r mr t h1.n _ (by omega) ok1.k (by omega) (by omega)).argA).mono ?_)
   rintro v H5 hv kk
   have hx1 : ∀ j ∈ [xb], j ∈ wrI xb A r mr t := fun j hj => by rw [List.mem_singleton.1 hj]; simp [wrI]
   refine ⟨fun j hj => .inr (ok1.k.ownW j (hx1 j hj)), ?_⟩
   have y5 := ok1.y.byI ok1.k ok1.ra ok1.da hx1 kk
   have old5 := ok1.old.own kk (fun j hj => ok1.k.ownW j (hx1 j hj))
   have n5 := kk.1
   obtain ⟨m, B1, t', rfl, k5, m5, hm5, ht5⟩ : ∃ (m : IM) (B1 : Bool) (t' : IT), v = .tuple #[.agg #[.int .u16 (m.sid : Nat), .bool m.un, .int .u32 (m.ppid : Nat), .slice m.a m.z.length m.cap], .bool B1] ∧ IOk H5 xb A r mr t' h1.n ∧ Sv H5 5 1 m.a m.z.length m.cap (m.z.map bv) ∧ ((t.s.ready = [] ∧ B1 = false ∧ m.w = ⟨0, false, 0, none, 0, []⟩ ∧ t' = t) ∨ ∃ rest ra' rc', t.s.ready = m :: rest ∧ B1 = true ∧ t' = { t with ra := ra', rc := rc', s := { t.s with ready := rest } } ∧ ∀ i ∈ blk ra', i ∈ blk t.ra) ∧ True := by
    rcases hv with ⟨hre, rfl, k5⟩ | ⟨m, rest, ra', rc', hre, rfl, k5, dm, -, hra⟩
    · exact ⟨⟨0, false, 0, none, 0, []⟩, false, t, rfl, k5, Sv.nil, .inl ⟨hre, rfl, rfl, rfl⟩, trivial⟩
    · exact ⟨m, true, _, rfl, k5, dm, .inr ⟨rest, ra', rc', hre, rfl, rfl, hra⟩, trivial⟩
   clear hv
   (refine Go.run (g:=?_))
   refine GoR.name ?_
   intro H6 e6
   have s6 : Same H5 H6 := by subst e6; exact ((Same.refl H5).push _).put (Nat.le_refl _) _
   have g16 : H6.get H5.n = some (.cells [.int .u16 (m.sid : Nat), .bool m.un, .int .u32 (m.ppid : Nat), .slice m.a m.z.length m.cap] 39) := by subst e6; exact hg_
   have n6 : H6.n = H5.n + 1 := by subst e6; rfl
   clear e6
   have k6 := k5.same s6
   have y6 := y5.same s6
   have m6 := m5.same s6
   have old6 := old5.trans s6
   clear k5 y5 m5 old5 s6
   refine GoR.callW rfl rfl rfl rfl rfl rfl rfl (((rrecv10_spec yb B q h1.n _ (by omega) y6 (by omega) (by omega)).argA).mono ?_)
   rintro v H7 hv kk7
   have hy1 : ∀ j ∈ [yb], j ∈ blR yb B q := fun j hj => by rw [List.mem_singleton.1 hj]; simp [blR]
   refine ⟨fun j hj => .inr (y6.ownB j (hy1 j hj)), ?_⟩
   have n7 := kk7.1
   have hra6 : (∀ j ∈ blk t'.ra, j ∈ blk t.ra) ∧ t'.da = t.da := by
    rcases hm5 with ⟨-, -, -, rfl⟩ | ⟨rest, ra', rc', -, -, rfl, hra⟩
    · exact ⟨fun j hj => hj, rfl⟩
    · exact ⟨hra, rfl⟩
   have k7 := k6.byR y6 (fun j hj => ok1.ra j (hra6.1 j hj)) (by rw [hra6.2]; exact ok1.da) hy1 kk7
   have old7 := old6.own kk7 (fun j hj => y6.ownB j (hy1 j hj))
   have hbr := ok1.b.ready
   have m7 := m6.keeps kk7 (fun i hi hm => y6.u8 m6 i hi (hy1 i hm))
   obtain ⟨m', q', rfl, m7', emw, ok7⟩ : ∃ (m' : IM) (q' : RT), v = .tuple #[.agg #[.int .u16 (m'.sid : Nat), .bool m'.un, .int .u32 (m'.ppid : Nat), .slice m'.a m'.z.length m'.cap], .bool B1] ∧ Sv H7 5 1 m'.a m'.z.length m'.cap (m'.z.map bv) ∧ m.w = m'.w ∧ PlOk h1 H7 xb A r mr t' yb B q' (i + 1) := by
    rcases hm5 with ⟨hr1, rfl, hmw, rfl⟩ | ⟨rest, ra', rc', hr1, rfl, rfl, hra⟩
    ·
     rw [hr1] at hbr
     rcases hv with ⟨hre, rfl, y7⟩ | ⟨m', rest', ra2, rc2, hre, rfl, y7, dm, -, -, hra2⟩
     · exact ⟨⟨0, false, 0, none, 0, []⟩, q, rfl, Sv.nil, hmw, ⟨k7, y7, ok1.b, old7, o1, by omega, o3, by omega, by omega, ok1.ra, ok1.da⟩⟩
     · rw [hre] at hbr; cases hbr
    ·
     rw [hr1] at hbr
     rcases hv with ⟨hre, rfl, y7⟩ | ⟨m', rest', ra2, rc2, hre, rfl, y7, dm, -, -, hra2⟩
     · rw [hre] at hbr; cases hbr
     ·
      rw [hre] at hbr
      have hbr : m.w :: iw rest = m'.w :: iw rest' := hbr
      obtain ⟨e1, e2⟩ := List.cons.inj hbr
      have hh7 : ({ t with ra := ra', rc := rc', s := { t.s with ready := rest } } : IT).held ≤ t.held := by
       unfold IT.held lenS lenI
       simp only
       rw [hr1]
       simp only [List.map_cons, List.sum_cons]
       omega
      have hc7 : rest.length + 1 = t.s.ready.length := by rw [hr1]; rfl
      exact ⟨m', _, rfl, dm, e1, ⟨k7, y7, ⟨ok1.b.c, ok1.b.ds, ok1.b.al, ok1.b.kept, ok1.b.nx, ok1.b.waits, e2⟩, old7, Nat.le_trans hh7 o1, by simp only; omega, o3, by simp only; omega, by simp only; omega, fun j hj hm => ok1.ra j (hra j hj) (hra2 j hm), ok1.da⟩⟩
   clear hv hm5 k7 k6 y6 m6 hbr old7 old6
   have g17 := kk7.get g16 (fun hm => by have := ylt _ (hy1 _ hm); omega)
   (refine Go.run (g:=?_))
   refine GoR.name ?_
   intro H8 e8
   have s8 : Same H7 H8 := by subst e8; exact ((Same.refl H7).push _).put (Nat.le_refl _) _
   have g18 := s8.get g17
   have g28 : H8.get H7.n = some (.cells [.int .u16 (m'.sid : Nat), .bool m'.un, .int .u32 (m'.ppid : Nat), .slice m'.a m'.z.length m'.cap] 39) := by subst e8; exact hg_
   clear e8
   have ok8 := ok7.same s8
   have m8 := m7.same s8
   have m8' := m7'.same s8
   refine GoR.boolNe rfl rfl rfl rfl rfl rfl boolU10 ?_
   rw [beq_self_eq_true, Bool.not_true]
   (refine Go.run (g:=?_))
   refine GoR.call rfl rfl rfl rfl rfl rfl rfl (((same10_spec m m' emw _ m8 m8').argA).mono ?_)
   rintro _ H9 rfl s9
   have ok9 := ok8.same s9
   (refine Go.run (g:=?_))
   exact Go.joined (t', q', H9) ok9 ⟨rfl, rfl, rfl, rfl, rfl, trivial⟩ rfl rfl
  by_cases k2 : kd = 2
  ·
   subst k2
   have hx2 : ∀ j ∈ [A.sb], j ∈ wrI xb A r mr t := fun j hj => by rw [List.mem_singleton.1 hj]; simp [wrI]
   have hy2 : ∀ j ∈ [B.sb], j ∈ blR yb B q := fun j hj => by rw [List.mem_singleton.1 hj]; simp [blR]
   have hgl := rgaps_le10 q.ws
   (refine Go.run (g:=?_))
   refine GoR.callW rfl rfl rfl rfl rfl rfl rfl (((isack_spec xb A r mr t h1.n _ (by omega) q.ws ok1.b.al ok1.k (by omega) (by omega) hArm hAsp).argA).mono ?_)
   rintro _ H5 ⟨ga, gc, rfl, svg, svd, k5⟩ kk
   refine ⟨fun j hj => .inr (ok1.k.ownW j (hx2 j hj)), ?_⟩
   have y5 := ok1.y.byI ok1.k ok1.ra ok1.da hx2 kk
   have old5 := ok1.old.own kk (fun j hj => ok1.k.ownW j (hx2 j hj))
   have n5 := kk.1
   (refine Go.run (g:=?_))
   refine GoR.callW rfl rfl rfl rfl rfl rfl rfl (((rsack10_spec yb B q h1.n _ (by omega) hg y5 (by omega) (by omega) (by omega) (by omega) hBrm hBsp).argA).mono ?_)
   rintro _ H6 ⟨gb, hc6, rfl, svg', svd', y6⟩ kk6
   refine ⟨fun j hj => .inr (y5.ownB j (hy2 j hj)), ?_⟩
   have k6 := k5.byR y5 ok1.ra (fun j hj => by cases hj) hy2 kk6
   have old6 := old5.own kk6 (fun j hj => y5.ownB j (hy2 j hj))
   have svg6 := svg.keeps kk6 (fun j hj hm => by rw [List.mem_singleton.1 hm] at hj; exact sv_out svg y5.S.sc (fun c e => by cases e) hj)
   have svd6 := svd.keeps kk6 (fun j hj hm => by rw [List.mem_singleton.1 hm] at hj; exact sv_out svd y5.S.sc (fun c e => by cases e) hj)
   have ok6 : PlOk h1 H6 xb A r mr { t with da := none, dc := 0, ds := [] } yb B { q with da := none, dc := 0, ds := [] } (i + 1) := ⟨k6, y6, ⟨ok1.b.c, rfl, ok1.b.al, ok1.b.kept, ok1.b.nx, ok1.b.waits, ok1.b.ready⟩, old6, o1, by simp only; omega, Nat.zero_le _, by simp only; omega, by simp only; omega, ok1.ra, (fun j hj => by cases hj)⟩
   rw [← ok1.b.c, ← hhd, ← hAB2, ← hAB3]
   rw [← ok1.b.ds] at svd'
   rw [← ok1.b.ds]
   have hdl : t.ds.length ≤ 70000 := by omega
   have n6 := kk6.1
   generalize rgaps q.ws = G at *
   simp only [sackV, sackC]
   generalize A.rm - A.sp - t.held = w at *
   (refine Go.run (g:=?_))
   refine GoR.name ?_
   intro H7 e7
   have s7 : Same H6 H7 := by subst e7; exact ((((Same.refl H6).push _).push _).put (Nat.le_refl _) _).put (by simp only [AHeap.n_push]; omega) _
   have g17 : H7.get H6.n = some (.cells (sackC t.c w ga G.length gc t.da t.ds.length t.dc) 47) := by subst e7; unfold sackC; exact hg_
   have g27 : H7.get (H6.n + 1) = some (.cells (sackC t.c w gb G.length hc6 q.da t.ds.length q.dc) 47) := by subst e7; unfold sackC; exact hg_
   clear e7
   simp only [sackC] at g17 g27
   have ok7 := ok6.same s7
   refine GoR.call rfl rfl rfl rfl rfl rfl rfl (((sameGaps_spec ga gb gc hc6 G G (by omega) (by omega) _ (svg6.same s7) (svg'.same s7)).argA).mono ?_)
   rintro _ H8 ⟨rfl, rfl⟩ -
   rw [decide_eq_true (rfl : G = G)]
   (refine Go.run (g:=?_))
   refine GoR.call rfl rfl rfl rfl rfl rfl rfl (((sameTsns_spec t.da q.da t.dc q.dc t.ds t.ds (by omega) (by omega) _ (svd6.same s7) (svd'.same s7)).argA).mono ?_)
   rintro _ H9 ⟨rfl, rfl⟩ -
   rw [decide_eq_true (rfl : t.ds = t.ds)]
   (refine Go.run (g:=?_))
   exact Go.joined (_, _, H9) ok7 ⟨rfl, rfl, rfl, rfl, rfl, trivial⟩ rfl rfl
  (refine Go.run (g:=?_))
  exact Go.joined (t, q, H1) ok1.up ⟨rfl, rfl, rfl, rfl, rfl, trivial⟩ rfl rfl
 clear ok1 g13 hd1' klt ylt c0 hbe hdlt hp1
 rintro ⟨t', q', H5⟩ ok
 simp only at ok ⊢
 have hhd := ok.b.held
 have hrl := ok.b.rl
 have o1 := ok.held
 have o2 := ok.ks
 have o4 := ok.kept
 have o5 := ok.cnt
 have hcm := icum_spec xb A r mr t' h1.n _ ok.k
 have hrd := iready_spec xb A r mr t' h1.n _ ok.k
 have hhl := iheld_spec xb A r mr t' h1.n _ ok.k (by omega)
 have hrw := irwnd_spec xb A r mr t' h1.n _ ok.k (by omega) hArm hAsp
 have rhl := held10_spec yb B q' h1.n (by omega) (by omega) (by omega) (by omega) _ ok.y
 have rrw := rwnd10_spec yb B q' h1.n (by omega) (by omega) (by omega) (by omega) hBrm hBsp _ ok.y
 have gs := ok.y.S.sc
 have ec := ok.b.c
 rw [← hhd] at rhl rrw
 rw [← hAB2, ← hAB3] at rrw
 rw [← ec] at gs
 obtain ⟨cc, gx, R⟩ := ok.y.X.xc
 have c3 := R.c3
 have c7 := R.c7
 rw [hrl.1] at c7
 clear R
 generalize A.rm - A.sp - t'.held = w at *
 (refine Go.run (g:=?_))
 refine GoR.call rfl rfl rfl rfl rfl rfl rfl (((hcm).argA).mono ?_)
 rintro _ H6 ⟨rfl, rfl⟩ -
 (refine Go.run (g:=?_))
 refine GoR.call rfl rfl rfl rfl rfl rfl rfl (((hrd).argA).mono ?_)
 rintro _ H7 ⟨rfl, rfl⟩ -
 (refine Go.run (g:=?_))
 refine GoR.call rfl rfl rfl rfl rfl rfl rfl (((hhl).argA).mono ?_)
 rintro _ H8 ⟨rfl, rfl⟩ -
 (refine Go.run (g:=?_))
 refine GoR.call rfl rfl rfl rfl rfl rfl rfl (((rhl).argA).mono ?_)
 rintro _ H9 ⟨rfl, rfl⟩ -
 (refine Go.run (g:=?_))
 refine GoR.call rfl rfl rfl rfl rfl rfl rfl (((hrw).argA).mono ?_)
 rintro _ H10 ⟨rfl, rfl⟩ -
 (refine Go.run (g:=?_))
 refine GoR.call rfl rfl rfl rfl rfl rfl rfl (((rrw).argA).mono ?_)
 rintro _ H11 ⟨rfl, rfl⟩ -
 (refine Go.run (g:=?_))
 exact Go.again (i + 1, t', q', _) ⟨by simp only; omega, ok⟩ (by simp only; omega) ⟨rfl, rfl, rfl, rfl, rfl, trivial⟩ rfl rfl
end Go.Proofs.Ytccbmmnkiihkaaa
namespace Go.Proofs.Ytccbmmnkiihkaaa
set_option maxRecDepth 100000
open Go.ChangeShapes Go.WideShapes Go.ChangeAt Go.RowKit
theorem v10i : Try.prog.underlying 3 = some (.int .i64) := by kernel_rfl
theorem v10u8 : Try.prog.underlying 5 = some (.int .u8) := by kernel_rfl
theorem v10u16 : Try.prog.underlying 22 = some (.int .u16) := by kernel_rfl
theorem v10u32 : Try.prog.underlying 23 = some (.int .u32) := by kernel_rfl
theorem v10bs : Try.prog.underlying 31 = some (.slice 5) := by kernel_rfl
theorem v10dos : Try.prog.underlying 24 = some (.slice 35) := by kernel_rfl
theorem v10w : Try.prog.bytesOf 5 = 1 := by kernel_rfl
theorem v10plain : plainB Try.prog 6 24 = true := by kernel_rfl
theorem cells10P {α : Type} {f : α → List Value} {p : α → Prop} {sz : Nat} : ∀ (len : Nat) (c : List Value), c.length = len * sz → (∀ i, i < len → ∃ x, (c.drop (i * sz)).take sz = f x ∧ p x) → ∃ l : List α, l.length = len ∧ c = (l.map f).flatten ∧ ∀ x ∈ l, p x
 | 0, c, hl, _ => ⟨[], rfl, by simpa using hl, fun x hx => by cases hx⟩
 | n + 1, c, hl, each => by
  obtain ⟨x, e, hp⟩ := each 0 (by omega)
  rw [Nat.zero_mul, List.drop_zero] at e
  obtain ⟨l, h1, h2, h3⟩ := cells10P (f := f) (p := p) (sz := sz) n (c.drop sz) (by rw [List.length_drop, hl, Nat.succ_mul]; omega) (fun i hi => by
   have := each (i + 1) (by omega)
   rwa [show (i + 1) * sz = sz + i * sz from by rw [Nat.succ_mul]; omega, ← List.drop_drop] at this)
  refine ⟨x :: l, by simp [h1], ?_, fun y hy => ?_⟩
  · rw [← List.take_append_drop sz c, e, h2]; simp
  ·
   rcases List.mem_cons.1 hy with rfl | hy
   · exact hp
   · exact h3 y hy
theorem len10 {n b : Nat} (hb : 0 < b) (h : n * b ≤ reachBytes) : n ≤ 140737488355328 := by
 have := reachBytes_lt
 have : n ≤ n * b := Nat.le_mul_of_pos_right n hb
 omega
structure PIn (h : AHeap) (p : PV) : Prop where
 b : PB p
 len : p.z.length ≤ 140737488355328
 ok : Rv Try.prog h 1 p.a p.z.length p.cap (p.z.map bv)
theorem piece_of {h : AHeap} {H : Type} {cs : List Value} {d : DataW H} (r : ARd Try.prog h 33 cs d) (z : Sized Try.prog 33 d) : ∃ p : PV, cs = pC p ∧ PIn h p := by
 obtain ⟨hl, hf⟩ := r.fieldZ z Try.underlying33
 rw [show Try.prog.cellsOf 33 = 6 from by kernel_rfl] at hl
 match cs, hl with
 | [c0, c1, c2, c3, c4, c5], _ =>
  obtain ⟨d0, r0, -⟩ := hf 0 23 0 1 rfl (by kernel_rfl)
  obtain ⟨d1, r1, -⟩ := hf 1 5 1 1 rfl (by kernel_rfl)
  obtain ⟨d2, r2, -⟩ := hf 2 22 2 1 rfl (by kernel_rfl)
  obtain ⟨d3, r3, -⟩ := hf 3 22 3 1 rfl (by kernel_rfl)
  obtain ⟨d4, r4, -⟩ := hf 4 23 4 1 rfl (by kernel_rfl)
  obtain ⟨d5, r5, z5⟩ := hf 5 31 5 1 rfl (by kernel_rfl)
  obtain ⟨n0, e0, b0⟩ := r0.u_inv rfl v10u32
  obtain ⟨n1, e1, b1⟩ := r1.u_inv rfl v10u8
  obtain ⟨n2, e2, b2⟩ := r2.u_inv rfl v10u16
  obtain ⟨n3, e3, b3⟩ := r3.u_inv rfl v10u16
  obtain ⟨n4, e4, b4⟩ := r4.u_inv rfl v10u32
  obtain ⟨a, cap, zs, e5, hR, hm, hZ⟩ := r5.bytesZ z5 v10bs v10u8 (by kernel_rfl) v10w
  simp at e0 e1 e2 e3 e4 e5
  subst e0 e1 e2 e3 e4 e5
  exact ⟨⟨n0, n1, n2, n3, n4, a, cap, zs⟩, rfl, ⟨b0, b1, b2, b3, b4⟩, hZ, hR⟩
theorem do10_of {h : AHeap} {H : Type} {cs : List Value} {d : DataW H} (r : ARd Try.prog h 35 cs d) (z : Sized Try.prog 35 d) : ∃ x : Int × PV, cs = .int .i64 x.1 :: pC x.2 ∧ PIn h x.2 := by
 obtain ⟨hl, hf⟩ := r.fieldZ z Try.underlying35
 rw [show Try.prog.cellsOf 35 = 7 from by kernel_rfl] at hl
 match cs, hl with
 | [c0, c1, c2, c3, c4, c5, c6], _ =>
  obtain ⟨d0, r0, -⟩ := hf 0 3 0 1 rfl (by kernel_rfl)
  obtain ⟨d1, r1, z1⟩ := hf 1 33 1 6 rfl (by kernel_rfl)
  obtain ⟨n, e0, -⟩ := r0.int_inv v10i
  obtain ⟨p, e1, hp⟩ := piece_of r1 z1
  simp only [List.drop_succ_cons, List.drop_zero, List.take_succ_cons, List.take_zero] at e0 e1
  obtain rfl := (List.cons.inj e0).1
  exact ⟨(n, p), by rw [← e1], hp⟩
section
variable {H : Type} {enc : TypeId × Value → H} {W : World} {m : Mp} {h : AHeap} {base : Nat} {v : Value} {d : DataW H} {ps : List MemPlace}
theorem imp_dos10 (o : Value.okWide Try.prog W .any base 24 v) (ht : DataW.Trod enc Try.prog W 0 (fun _ => true) true 24 v d ps) (z : Sized Try.prog 24 d) (I : Im Try.prog W m h) :
  ∃ m' h', Im Try.prog W m' h' ∧ ∃ (a : Option Addr) (cap : Nat) (l : List (Int × PV)), VRel m' (.slice a l.length cap) v ∧ Rv Try.prog h' 7 a l.length cap (dos10 l) ∧ l.length ≤ 140737488355328 ∧ ∀ x ∈ l, PIn h' x.2 := by
 obtain ⟨a0, l0, c0, rfl⟩ := okWide_slice v10dos o
 obtain ⟨m', h', cs, I', hm, hs, hA, hR, hl⟩ := imp_val v10plain ht I
 obtain ⟨x, rfl, hv⟩ := vrel_one hA (by rw [hl]; kernel_rfl) rfl
 obtain ⟨a, len, cap, c, e, hz, -, hb, hel⟩ := hR.slice_invZ z v10dos
 cases e
 rw [show Try.prog.cellsOf 35 = 7 from by kernel_rfl] at hz hel
 obtain ⟨l, rfl, rfl, hp⟩ := cells10P (f := fun x : Int × PV => .int .i64 x.1 :: pC x.2) (p := fun x => PIn h' x.2) len c hz.length fun i hi => let ⟨d', r, z'⟩ := hel i hi; do10_of r z'
 exact ⟨m', h', I', a, cap, l, hv, hz, len10 (show 0 < Try.prog.bytesOf 35 from of_decide_eq_true (by kernel_rfl)) hb, hp⟩
end
theorem u16_of {n : Int} (w : (Lit.int .u16 n).wf = true) : ∃ k : Nat, k < 65536 ∧ n = (k : Nat) := by
 simp [Lit.wf, IntKind.wrap, IntKind.bits, IntKind.signed, IntKind.min, IntKind.max] at w
 exact ⟨n.toNat, by omega, by omega⟩
theorem u32_of10 {n : Int} (w : (Lit.int .u32 n).wf = true) : ∃ k : Nat, k < 4294967296 ∧ n = (k : Nat) := by
 simp [Lit.wf, IntKind.wrap, IntKind.bits, IntKind.signed, IntKind.min, IntKind.max] at w
 exact ⟨n.toNat, by omega, by omega⟩
end Go.Proofs.Ytccbmmnkiihkaaa
namespace Go.Proofs.Ytccbmmnkiihkaaa
open Go.ChangeShapes Go.WideShapes Go.ChangeAt Go.RowKit
set_option maxRecDepth 100000
theorem inboxPlaysWalk {H : Type} {enc : TypeId × Value → H} {base : Nat} {d4 : DataW H} {p4 : List MemPlace} (a0 a1 a2 a3 : Int) (v4 : Value) (W : World) (w0 : (Lit.int .u16 a0).wf = true) (w1 : (Lit.int .i64 a1).wf = true) (w2 : (Lit.int .i64 a2).wf = true) (w3 : (Lit.int .u32 a3).wf = true) (o4 : Value.okWide Try.prog W .any base 24 v4) (h4 : DataW.Trod enc Try.prog W 0 (fun _ => true) true 24 v4 d4 p4) (z4 : Sized Try.prog 24 d4) : Calls Try.prog 3 #[.int .u16 a0, .int .i64 a1, .int .i64 a2, .int .u32 a3, v4] W fun e w' => e = .returned (.bool true) ∧ Below W.heap.size W w' := by
 obtain ⟨m, h, I, a, cap, l, hv, hz, hlen, hp⟩ := imp_dos10 o4 h4 z4 (Im.empty Try.prog W)
 obtain ⟨st, hst, rfl⟩ := u16_of w0
 obtain ⟨c, hc, rfl⟩ := u32_of10 w3
 refine calls_imp noGlobals I rfl (inboxPlays_spec st hst a1 a2 c hc l a cap h hz hlen (fun x hx => (hp x hx).len) (fun x hx => (hp x hx).b) (fun x hx => (hp x hx).ok)) ?_
 exact (((((ARel.single (.int _ _)).push (.int _ _)).push (.int _ _)).push (.int _ _)).push hv)
end Go.Proofs.Ytccbmmnkiihkaaa