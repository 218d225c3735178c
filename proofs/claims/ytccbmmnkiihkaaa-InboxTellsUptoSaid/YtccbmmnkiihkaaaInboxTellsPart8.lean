/- What the law leans on, part 8. No conditions. -/
import Derived.ProofKit
import Derived.OpenShut
import Derived.ChangeOld
import Derived.Test.YtccbmmnkiihkaaaRows
import Derived.JoinedCond
import Derived.Test.YtccbmmnkiihkaaaInboxTellsPart7
set_option linter.unusedVariables false
set_option linter.unusedSimpArgs false
namespace Go.Proofs.Ytccbmmnkiihkaaa
set_option maxRecDepth 100000
attribute [local irreducible] Go GoR GoL
def u16r (l : List Nat) : List Value := l.map fun n => .int .u16 (n : Nat)
theorem u16r_at {l : List Nat} {i : Nat} (hi : i < l.length) : (u16r l)[i]? = some (.int .u16 (l[i] : Nat)) := by
 unfold u16r
 rw [List.getElem?_map, List.getElem?_eq_getElem hi]; rfl
theorem prev_T (T : Nat) : prev32 T = at32 T 4294967295 := rfl
theorem look_def (M : Nat → IM) (uf : Nat → Bool) (pl : List (Nat × Nat)) (m : IM) (i : Nat) : look M uf pl m i = (!uf i && (sameB m (M i) && !(!m.un && decide (i < nget pl m.sid)))) := rfl
structure TlOk (h3 H : AHeap) (xv tv xb : Nat) (A : IA) (r mr : Nat) (ps : List PV) (l : List (IM × Int)) (ow rk : Nat → Nat) (T : Nat) (acc : Nat → Bool) (k : Nat) (dl : List Nat) (tl : Nat) (t : IT) (ta : Option Addr) (tc : Nat) (told : List IM) : Prop where
 o : TOk h3 H xv tv xb A r mr t ta tc told
 I : Tin ps.length l.length (pAt ps) (mAt l) ow rk T A acc k dl tl t
 w : told.map IM.w = (dl.take tl).map fun g => (mAt l g).w
 ds : t.ds.length ≤ 16
theorem TlOk.own {h3 H : AHeap} {xv tv xb : Nat} {A : IA} {r mr : Nat} {ps : List PV} {l : List (IM × Int)} {ow rk : Nat → Nat} {T : Nat} {acc : Nat → Bool} {k : Nat} {dl : List Nat} {tl : Nat} {t : IT} {ta : Option Addr} {tc : Nat} {told : List IM} (ok : TlOk h3 H xv tv xb A r mr ps l ow rk T acc k dl tl t ta tc told) : ∀ j ∈ [xb, tv] ++ blk ta, h3.n ≤ j := fun j hj => by
 simp only [List.cons_append, List.nil_append, List.mem_cons] at hj
 rcases hj with rfl | rfl | hj
 · exact ok.o.k.ownW _ (by simp [wrI])
 · exact ok.o.tv0
 · exact ok.o.own j hj
theorem TlOk.take {h3 H : AHeap} {xv tv xb : Nat} {A : IA} {r mr : Nat} {ps : List PV} {l : List (IM × Int)} {ow rk sg cn : Nat → Nat} {T S : Nat} {most : Int} {acc : Nat → Bool} {k : Nat} {dl : List Nat} {tl : Nat} {t : IT} {ta : Option Addr} {tc : Nat} {told : List IM} (X : Snd ps.length l.length (pAt ps) (mAt l) ow sg cn rk T S most) (hm : most ≤ 1048576) (ok : TlOk h3 H xv tv xb A r mr ps l ow rk T acc k dl tl t ta tc told) : CallS Try.prog ([xb, tv] ++ blk ta) 26 [.pointer (some ⟨xv, 0, none⟩), .pointer (some ⟨tv, 0, none⟩)] H fun v H' => ∃ t' ta' tc' told', TlOk h3 H' xv tv xb A r mr ps l ow rk T acc k dl dl.length t' ta' tc' told' ∧ t'.c = t.c := by
 obtain ⟨q1, q2, q3, q4, q5⟩ := ok.I.small X hm
 have hwl := congrArg List.length ok.w
 simp only [List.length_map, List.length_take] at hwl
 refine (take_spec h3 xv tv xb A r mr t ta tc told H ok.o (by omega) (by omega)).mono ?_
 rintro v H' ⟨ra', rc', ta', tc', o'⟩
 refine ⟨_, ta', tc', _, ⟨o', ok.I.take, ?_, ok.ds⟩, rfl⟩
 rw [List.map_append, ok.w, ok.I.rd, ← List.map_append, List.take_append_drop, List.take_length]
theorem TlOk.same {h3 H H' : AHeap} {xv tv xb : Nat} {A : IA} {r mr : Nat} {ps : List PV} {l : List (IM × Int)} {ow rk : Nat → Nat} {T : Nat} {acc : Nat → Bool} {k : Nat} {dl : List Nat} {tl : Nat} {t : IT} {ta : Option Addr} {tc : Nat} {told : List IM} (ok : TlOk h3 H xv tv xb A r mr ps l ow rk T acc k dl tl t ta tc told) (s : Same H H') : TlOk h3 H' xv tv xb A r mr ps l ow rk T acc k dl tl t ta tc told := ⟨ok.o.same s, ok.I, ok.w, ok.ds⟩
theorem TlOk.add {h3 H : AHeap} {xv tv xb : Nat} {A : IA} {r mr : Nat} {ps : List PV} {l : List (IM × Int)} {ow rk sg cn : Nat → Nat} {T S : Nat} {most : Int} {acc : Nat → Bool} {k : Nat} {dl : List Nat} {tl : Nat} {t : IT} {ta : Option Addr} {tc : Nat} {told : List IM} (X : Snd ps.length l.length (pAt ps) (mAt l) ow sg cn rk T S most) (hm : most ≤ 1048576) (hS : S = A.st) (hS2 : S < 65536) (hsp : A.sp ≤ A.rm) (hrm : A.rm ≤ 1048576) (hpp : ∀ g, g < l.length → (mAt l g).ppid < 4294967296) (ok : TlOk h3 H xv tv xb A r mr ps l ow rk T acc k dl tl t ta tc told) {i : Nat} (hi : i < ps.length) (hlt : ∀ p ∈ ps, ∀ j ∈ blk p.a, j < h3.n) (hdv : ∀ p ∈ ps, Sv h3 5 1 p.a p.z.length p.cap (p.z.map bv)) : CallS Try.prog (wrI xb A r mr t) 10 [.pointer (some ⟨xb, 0, none⟩), pV (pAt ps i)] H fun v H' => Keeps (wrI xb A r mr t) H H' → ∃ code t' acc' k' dl', v = .int .i64 code ∧ TlOk h3 H' xv tv xb A r mr ps l ow rk T acc' k' dl' tl t' ta tc told ∧ k ≤ k' ∧ (code = 0 → i = k → k < k') ∧ (i = k → (t.held : Int) + (pAt ps i).z.length ≤ A.rm → code = 0) := by
 obtain ⟨q1, q2, q3, q4, q5⟩ := ok.I.small X hm
 have hpl := X.plen hi
 have hmem : pAt ps i ∈ ps := by rw [pAt_get hi]; exact List.getElem_mem hi
 refine (iadd_specO xb A r mr t h3.n (pAt ps i) (X.pbP hS2 hpp hi) H ok.o.old.1 ok.o.k hrm (by omega) (by omega) (by omega) (by omega) ok.ds (by omega) (hlt _ hmem) (((hdv _ hmem).same ok.o.old).rv)).mono ?_
 rintro v H' ⟨code, t', rfl, hai, k', hra, hda⟩ kk
 obtain ⟨acc', k2, dl', I', e1, h1, h2, h3'⟩ := inv_add X hS hsp ok.I hi hai
 obtain ⟨ao, -⟩ := addI_ok ok.o.k.G.cb ok.ds hai
 exact ⟨code, t', acc', k2, dl', rfl, ⟨ok.o.setI (fun j hj => hj) kk k' hra, I', by rw [e1]; exact ok.w, ao.ds⟩, h1, h2, h3'⟩
attribute [local irreducible] ucs look sameB
set_option maxHeartbeats 128000000 in
theorem inboxTells_spec (l : List (IM × Int)) (la : Option Addr) (lc : Nat) (st : Nat) (room most : Int) (T : Nat) (tn : List Nat) (na : Option Addr) (nc : Nat) (hst : st < 65536) (hT : T < 4294967296) (h : AHeap) (hz : Rv Try.prog h 5 la l.length lc (sns l)) (hlen : ∀ x ∈ l, x.1.z.length ≤ 2000000) (hsid : ∀ x ∈ l, x.1.sid < 65536) (hpp : ∀ x ∈ l, x.1.ppid < 4294967296) (hd : ∀ x ∈ l, Rv Try.prog h 1 x.1.a x.1.z.length x.1.cap (x.1.z.map bv)) (hzn : Rv Try.prog h 1 na tn.length nc (u16r tn)) (htn : ∀ x ∈ tn, x < 65536) : CallS Try.prog [] 5 [.slice la l.length lc, .int .u16 st, .int .i64 room, .int .i64 most, .int .u32 T, .slice na tn.length nc] h fun v h' => v = .bool true := by
 have hkn := known10 h
 (refine CallS.of6 Try.func5 rfl Try.ntmps5 Try.results5 rfl ?_)
 (refine Go.run (g:=?_))
 refine GoR.call rfl rfl rfl rfl rfl rfl rfl (((hkn).argA).mono ?_)
 rintro _ h1 ⟨rfl, rfl⟩ s1
 have n1 := s1.1
 have hz1 := hz.same s1
 have hzn1 := hzn.same s1
 have hd1 := fun x hx => (hd x hx).same s1
 clear hkn hz hzn hd
 by_cases g1 : most < 1
 ·
  (refine Go.run (g:=?_))
  (first|refine Go.finA rfl ?_|refine Go.finB rfl (hq:=?_))
  rfl
 by_cases g2 : most > room
 ·
  (refine Go.run (g:=?_))
  (first|refine Go.finA rfl ?_|refine Go.finB rfl (hq:=?_))
  rfl
 by_cases g3 : room > 1048576
 ·
  (refine Go.run (g:=?_))
  (first|refine Go.finA rfl ?_|refine Go.finB rfl (hq:=?_))
  rfl
 by_cases g4 : (l.length : Int) > 60
 ·
  (refine Go.run (g:=?_))
  (first|refine Go.finA rfl ?_|refine Go.finB rfl (hq:=?_))
  rfl
 by_cases g5 : (tn.length : Int) > 500
 ·
  (refine Go.run (g:=?_))
  (first|refine Go.finA rfl ?_|refine Go.finB rfl (hq:=?_))
  rfl
 have hpc := pieces_spec l la lc st most T hT h1 (by omega) hz1 hlen hsid hd1
 (refine Go.run (g:=?_))
 refine GoR.call rfl rfl rfl rfl rfl rfl rfl (((hpc).argA).mono ?_)
 rintro v h2 ⟨b, n, c, ok, rfl, hok⟩ s2
 have n2 := s2.1
 cases ok with
 | false =>
  (refine Go.run (g:=?_))
  (first|refine Go.finA rfl ?_|refine Go.finB rfl (hq:=?_))
  rfl
 | true =>
 obtain ⟨ps, nx, rfl, hn60, hR, prow, pown, pdv⟩ := hok rfl
 obtain ⟨ow, sg, cn, rk, X, N⟩ := snd_of hR hn60
 have hz2 := hz1.same s2
 have hzn2 := hzn1.same s2
 have hd2 := fun x hx => (hd1 x hx).same s2
 clear hz1 hzn1 hd1 hpc hok hR N
 (refine Go.run (g:=?_))
 refine GoR.bin rfl rfl rfl rfl rfl rfl (sub32p T) ?_
 rw [prev_T]
 refine GoR.call rfl rfl rfl rfl rfl rfl rfl (((inew_spec st room most (at32 T 4294967295) (at32_lt _ _) _).argA).mono ?_)
 rintro _ h3 ⟨xb, sb, jb, nx', wt, r, mr, rfl, k3⟩ s3
 have n3 := s3.1
 have er : boundN room = room.toNat := by unfold boundN; split <;> omega
 have em : boundN most = most.toNat := by unfold boundN; split <;> omega
 rw [er, em] at k3
 obtain ⟨A, hA⟩ : ∃ A : IA, A = ⟨st, room.toNat, most.toNat, sb, jb, nx', wt⟩ := ⟨_, rfl⟩
 rw [← hA] at k3
 have hA1 : A.st = st := by rw [hA]
 have hA2 : (A.rm : Int) = room := by rw [hA]; simp only; omega
 have hA3 : (A.sp : Int) = most := by rw [hA]; simp only; omega
 clear hA er em
 have hxl := AHeap.lt k3.X.xc
 (refine Go.run (g:=?_))
 simp only [AHeap.n_put, AHeap.n_push]
 refine Go.name ?_
 intro h4 e4
 have s4 : Same h3 h4 := by subst e4; exact (((Same.refl h3).push _).put (Nat.le_refl _) _).push _
 have gx4 : h4.get h3.n = some (.cells [.pointer (some ⟨xb, 0, none⟩)] 27) := by subst e4; exact hg_
 have gt4 : h4.get (h3.n + 1) = some (.cells [.slice none 0 0] 59) := by subst e4; exact AHeap.get_push_same ((h3.push _).put _ _) _
 have n4 : h4.n = h3.n + 2 := by subst e4; rfl
 clear e4
 have ok0 : TlOk h2 h4 h3.n (h3.n + 1) xb A r mr ps l ow rk T (fun _ => false) 0 [] 0 ⟨none, 0, none, 0, at32 T 4294967295, [], [], [], ⟨[], [], []⟩⟩ none 0 [] := ⟨⟨k3.same s4, gx4, gt4, .nil, (fun m hm => by cases hm), (fun j hj => by cases hj), Own.nil _, n3, by omega, s3.trans s4⟩, Tin.start X, rfl, Nat.zero_le _⟩
 obtain ⟨xv, hxv⟩ : ∃ xv, xv = h3.n := ⟨_, rfl⟩
 obtain ⟨tv, htv⟩ : ∃ tv, tv = h3.n + 1 := ⟨_, rfl⟩
 rw [← htv, ← hxv] at ok0 ⊢
 have hlt3 : ∀ p ∈ ps, ∀ j ∈ blk p.a, j < h2.n := fun p hp => (pdv p hp).lt
 have hpp' : ∀ g, g < l.length → (mAt l g).ppid < 4294967296 := fun g hg => by rw [mAt_get hg]; exact hpp _ (List.getElem_mem hg)
 have hxv0 : h2.n ≤ xv := by omega
 have htv0 : h2.n ≤ tv := by omega
 have hh2 : h1.n ≤ h2.n := by omega
 clear k3 gx4 gt4 s4 s3 hxv htv hxl
 refine Go.loop (α := Nat × (Nat → Bool) × Nat × List Nat × Nat × IT × Option Addr × Nat × List IM × AHeap) (fun x => [(72, .int .i64 (x.1 : Nat)), (71, .int .i64 tn.length), (70, .slice na tn.length nc), (17, .func (.func 26) #[] #[.pointer (some ⟨xv, 0, none⟩), .pointer (some ⟨tv, 0, none⟩)]), (15, .pointer (some ⟨xv, 0, none⟩)), (16, .pointer (some ⟨tv, 0, none⟩)), (13, .slice b ps.length c), (4, .int .u32 (T : Nat)), (0, .slice la l.length lc)]) (fun _ => []) (fun x => x.2.2.2.2.2.2.2.2.2) (fun x => x.1 ≤ tn.length ∧ TlOk h2 x.2.2.2.2.2.2.2.2.2 xv tv xb A r mr ps l ow rk T x.2.1 x.2.2.1 x.2.2.2.1 x.2.2.2.2.1 x.2.2.2.2.2.1 x.2.2.2.2.2.2.1 x.2.2.2.2.2.2.2.1 x.2.2.2.2.2.2.2.2.1) (fun x => tn.length - x.1) (0, fun _ => false, 0, [], 0, ⟨none, 0, none, 0, at32 T 4294967295, [], [], [], ⟨[], [], []⟩⟩, none, 0, [], h4) ⟨Nat.zero_le _, ok0⟩ ⟨rfl, rfl, rfl, rfl, rfl, rfl, rfl, rfl, rfl, trivial⟩ rfl rfl ?_
 clear ok0
 rintro ⟨i, acc, k, dl, tl, t, ta, tc, told, H⟩ ⟨hi, ok⟩
 simp only at hi ok ⊢
 obtain ⟨q1, q2, q3, q4, q5⟩ := ok.I.small X (by omega)
 have hHn := ok.o.old.1
 have hwl := congrArg List.length ok.w
 simp only [List.length_map, List.length_take] at hwl
 have gx := ok.o.gx
 rcases Nat.lt_or_ge i tn.length with i0 | i0
 case inr =>
  have htk := ok.take X (by omega)
  have hown5 := ok.own
  (refine Go.run (g:=?_))
  refine GoR.callW rfl rfl rfl rfl rfl rfl rfl (((htk).argA).mono ?_)
  rintro v H6 ⟨t6, ta6, tc6, told6, ok6, -⟩ kk6
  refine ⟨fun j hj => .inr (by have := hown5 j hj; omega), ?_⟩
  clear ok htk hown5 hwl q1 q2 q3 q4 q5 gx hHn kk6
  (iterate 8 (refine Go.one (g:=?_)))
  refine Go.join1 (α := (Nat → Bool) × List Nat × IT × Option Addr × Nat × List IM × AHeap) (fun x => [(17, .func (.func 26) #[] #[.pointer (some ⟨xv, 0, none⟩), .pointer (some ⟨tv, 0, none⟩)]), (15, .pointer (some ⟨xv, 0, none⟩)), (16, .pointer (some ⟨tv, 0, none⟩)), (13, .slice b ps.length c), (4, .int .u32 (T : Nat)), (0, .slice la l.length lc)]) (fun _ => []) (fun x => x.2.2.2.2.2.2) (fun x => TlOk h2 x.2.2.2.2.2.2 xv tv xb A r mr ps l ow rk T x.1 ps.length x.2.1 x.2.1.length x.2.2.1 x.2.2.2.1 x.2.2.2.2.1 x.2.2.2.2.2.1) ?_ ?_
  ·
   refine Go.block ?_
   refine Go.loop (α := Nat × (Nat → Bool) × Nat × List Nat × IT × Option Addr × Nat × List IM × AHeap) (fun x => [(99, .int .i64 (x.1 : Nat)), (98, .int .i64 ps.length), (17, .func (.func 26) #[] #[.pointer (some ⟨xv, 0, none⟩), .pointer (some ⟨tv, 0, none⟩)]), (15, .pointer (some ⟨xv, 0, none⟩)), (16, .pointer (some ⟨tv, 0, none⟩)), (13, .slice b ps.length c), (4, .int .u32 (T : Nat)), (0, .slice la l.length lc)]) (fun _ => []) (fun x => x.2.2.2.2.2.2.2.2) (fun x => x.1 ≤ x.2.2.1 ∧ TlOk h2 x.2.2.2.2.2.2.2.2 xv tv xb A r mr ps l ow rk T x.2.1 x.2.2.1 x.2.2.2.1 x.2.2.2.1.length x.2.2.2.2.1 x.2.2.2.2.2.1 x.2.2.2.2.2.2.1 x.2.2.2.2.2.2.2.1) (fun x => ps.length - x.1) (0, acc, k, dl, t6, ta6, tc6, told6, H6) ⟨Nat.zero_le _, ok6⟩ ⟨rfl, rfl, rfl, rfl, rfl, rfl, rfl, rfl, trivial⟩ rfl rfl ?_
   clear ok6
   rintro ⟨i2, acc, k, dl, t, ta, tc, told, H⟩ ⟨hik, ok⟩
   simp only at hik ok ⊢
   have hkn := ok.I.set.kn
   have hHn := ok.o.old.1
   have gx := ok.o.gx
   rcases Nat.lt_or_ge i2 ps.length with i0 | i0
   case inr =>
    obtain rfl : k = ps.length := by omega
    (refine Go.run (g:=?_))
    exact Go.joined (acc, dl, t, ta, tc, told, H) ok ⟨rfl, rfl, rfl, rfl, rfl, rfl, trivial⟩ rfl rfl
   have hcm := icum_spec xb A r mr t h2.n _ ok.o.k
   rw [ok.I.set.c] at hcm
   (refine Go.run (g:=?_))
   refine GoR.call rfl rfl rfl rfl rfl rfl rfl (((hcm).argA).mono ?_)
   rintro _ H' ⟨rfl, rfl⟩ -
   refine GoR.bin rfl rfl rfl rfl rfl rfl (add32p _) ?_
   (refine Go.run (g:=?_))
   refine GoR.bin rfl rfl rfl rfl rfl rfl (sub32at _ T (nxt32_lt _) hT) ?_
   rw [show sub32n (nxt32 (at32 T (k + 4294967295))) T = k by unfold sub32n nxt32 at32; omega]
   refine Go.runN (g:=?_)
   rcases Nat.lt_or_ge k ps.length with k0 | k0
   case inr =>
    obtain rfl : k = ps.length := by omega
    (refine Go.run (g:=?_))
    exact Go.joined (acc, dl, t, ta, tc, told, H') ok ⟨rfl, rfl, rfl, rfl, rfl, rfl, trivial⟩ rfl rfl
   have hroom := ok.I.room X (by omega) (by omega) k0
   have prow5 := prow.same ok.o.old
   have c2 := pcs_get k0
   have hbe : k * 6 + 6 ≤ (pcs ps).length := by rw [pcs_len]; omega
   rw [← pAt_get k0] at c2
   have hadd := ok.add X (by omega) hA1.symm (by omega) (by omega) (by omega) hpp' k0 hlt3 pdv
   generalize hpv : pAt ps k = pv at *
   simp only [pC] at c2
   have hwlt := ok.o.k.ltW
   have hwow := ok.o.k.ownW
   obtain ⟨n1', n2', n3'⟩ := ok.o.nI
   have hdis : ∀ j ∈ wrI xb A r mr t, j ≠ xv := fun j hj e => n1' (by rw [← e]; exact hj)
   have hdis2 := hdis
   refine Go.runN (g:=?_)
   refine Go.kk 2 rfl ?_
   refine Go.loud (by kernel_rfl) rfl ?_
   (refine Go.runL (g:=?_))
   refine GoL.call rfl rfl rfl rfl rfl rfl rfl ((hadd.argA).mono ?_)
   rintro v H5 hv5 kk
   obtain ⟨code, t5, acc5, k5, dl5, rfl, ok5, hk5, hk6, hk7⟩ := hv5 kk
   obtain rfl := hk7 rfl (by omega)
   have hk8 := hk6 rfl rfl
   refine ⟨fun j hj => .inr (by have := hwow j hj; omega), ?_⟩
   (refine Go.runL (g:=?_))
   refine GoL.endC (g:=?_)
   clear hadd ok c2 hbe prow5 gx hcm hk5 hk6 hk7 hroom
   have hHn5 := ok5.o.old.1
   have htk := ok5.take X (by omega)
   have hown5 := ok5.own
   (refine Go.run (g:=?_))
   refine GoR.callW rfl rfl rfl rfl rfl rfl rfl (((htk).argA).mono ?_)
   rintro v H6 ⟨t6, ta6, tc6, told6, ok6, -⟩ kk6
   refine ⟨fun j hj => .inr (by have := hown5 j hj; omega), ?_⟩
   (refine Go.run (g:=?_))
   exact Go.again (i2 + 1, acc5, k5, dl5, t6, ta6, tc6, told6, H6) ⟨by simp only; omega, ok6⟩ (by simp only; omega) ⟨rfl, rfl, rfl, rfl, rfl, rfl, rfl, rfl, trivial⟩ rfl rfl
  rintro ⟨acc, dl, t, ta, tc, told, H⟩ ok
  simp only at ok ⊢
  have hHn := ok.o.old.1
  have hends := ok.I.ends X
  have htc := ok.I.set.c
  have gx := ok.o.gx
  have gt := ok.o.gt
  have hwl := congrArg List.length ok.w
  rw [List.take_length, List.length_map, List.length_map, hends.2] at hwl
  have hcm := icum_spec xb A r mr t h2.n _ ok.o.k
  have hhl := iheld_spec xb A r mr t h2.n _ ok.o.k (by omega)
  rw [htc] at hcm
  rw [hends.1] at hhl
  have hsum : at32 (at32 T 4294967295) ps.length = at32 T (ps.length + 4294967295) := by rw [at_at, Nat.add_comm]
  (refine Go.run (g:=?_))
  refine GoR.call rfl rfl rfl rfl rfl rfl rfl (((hcm).argA).mono ?_)
  rintro _ H' ⟨rfl, rfl⟩ -
  (refine Go.run (g:=?_))
  refine GoR.bin rfl rfl rfl rfl rfl rfl (sub32p T) ?_
  rw [prev_T]
  (refine Go.run (g:=?_))
  refine GoR.bin rfl rfl rfl rfl rfl rfl (add32at _ ps.length (at32_lt _ _) (by omega)) ?_
  rw [hsum]
  (refine Go.run (g:=?_))
  refine GoR.call rfl rfl rfl rfl rfl rfl rfl (((hhl).argA).mono ?_)
  rintro _ H2 ⟨rfl, rfl⟩ -
  have hw2 : (told.length : Int) = (l.length : Int) := by omega
  (refine Go.run (g:=?_))
  refine GoR.makeMapI rfl rfl rfl rfl ?_
  intro H3 M3 s3 m3
  have M3' : SMap H3 H2.n .u16 (plv []) := M3 .u16
  (refine Go.run (g:=?_))
  refine GoR.makeV rfl rfl rfl rfl rfl rfl (by omega) (by omega) (by omega) (by omega) ?_
  simp only [Int.toNat_natCast]
  rw [ucs_zero]
  have hT4 : ∀ uf, (ucs uf l.length).length = l.length := fun uf => ucs_len uf _
  refine GoR.name ?_
  intro H4 e4
  have s4 : Same H3 H4 := by subst e4; exact (Same.refl H3).push _
  have u4 : Sv H4 4 1 (some ⟨H3.n, 0, none⟩) l.length l.length (ucs (fun _ => false) l.length) := by
   refine .mk (o := 0) (c := ucs (fun _ => false) l.length) (by subst e4; exact AHeap.get_push_same _ _) (by rw [ucs_len]; omega) (Nat.le_refl _) ?_
   rw [List.drop_zero, List.take_of_length_le (by rw [ucs_len]; omega)]
  have m4 : H4.n = H3.n + 1 := by subst e4; rfl
  clear e4
  have hown : ∀ i ∈ blk (some ⟨H3.n, 0, none⟩), H2.n ≤ i := fun i hi => by simp only [blk, List.mem_singleton] at hi; omega
  generalize (some ⟨H3.n, 0, none⟩ : Option Addr) = ua at *
  have S4 := s3.trans s4
  have gt4 := S4.get gt
  have M4 := M3'.same s4
  have hD : Dl l.length (mAt l) dl := ⟨ok.I.ms.d1, hends.2, fun g hg => (ok.I.ms.d2 g hg).1, ok.I.ms.d5⟩
  have hdl := hends.2
  have hww := ok.w
  rw [List.take_length] at hww
  have row2 := ok.o.row
  have dv2 := ok.o.dv
  have old2 := ok.o.old
  have hmt : ∀ j (hj : j < told.length) (hj' : j < dl.length), (told[j]).w = (mAt l dl[j]).w := fun j hj hj' => by
   have := congrArg (fun x => x[j]?) hww
   simp only [List.getElem?_map, List.getElem?_eq_getElem hj, List.getElem?_eq_getElem hj', Option.map_some, Option.some.injEq] at this
   exact this
  have hmu : ∀ j (hj : j < told.length), (told[j]).sid < 65536 := fun j hj => by
   have hj' : j < dl.length := by omega
   obtain ⟨q, -⟩ := iw_len (hmt j hj hj')
   have hg := hD.lt _ (List.getElem_mem hj')
   rw [q, mAt_get hg]
   exact hsid _ (List.getElem_mem hg)
  clear ok hcm hhl gx gt hends htc M3 M3' hww
  (refine Go.run (g:=?_))
  refine Go.loop (α := Nat × (Nat → Bool) × List (Nat × Nat) × AHeap) (fun x => [(149, .int .i64 (x.1 : Nat)), (148, .int .i64 told.length), (147, .slice ta told.length tc), (22, .map (some H2.n)), (23, .slice ua l.length l.length), (0, .slice la l.length lc)]) (fun _ => []) (fun x => x.2.2.2) (fun x => x.1 ≤ told.length ∧ Gr l.length (mAt l) dl x.1 x.2.1 x.2.2.1 ∧ Same H2 x.2.2.2 ∧ SMap x.2.2.2 H2.n .u16 (plv x.2.2.1) ∧ Sv x.2.2.2 4 1 ua l.length l.length (ucs x.2.1 l.length)) (fun x => told.length - x.1) (0, fun _ => false, [], H4) ⟨Nat.zero_le _, Gr.start, S4, M4, u4⟩ ⟨rfl, rfl, rfl, rfl, rfl, rfl, trivial⟩ rfl rfl ?_
  clear M4 u4 S4 gt4 s4 s3
  rintro ⟨j, uf, pl, H⟩ ⟨hj, hG, hS, hM, hU⟩
  simp only at hj hG hS hM hU ⊢
  rcases Nat.lt_or_ge j told.length with j0 | j0
  case inr =>
   (refine Go.run (g:=?_))
   (first|refine Go.finA rfl ?_|refine Go.finB rfl (hq:=?_))
   rfl
  have jd : j < dl.length := by omega
  have rowH := row2.same hS
  have c0 := ics_get j0
  have hbe : j * 4 + 4 ≤ (ics told).length := by rw [ics_len]; omega
  have hmw := hmt j j0 jd
  have hms := hmu j j0
  have dm := (dv2 _ (List.getElem_mem j0)).same hS
  obtain ⟨m, hm⟩ : ∃ m, m = told[j] := ⟨_, rfl⟩
  rw [← hm] at c0 hmw hms dm
  simp only [iC] at c0
  have hMlt := hM.lt
  have hUlt := hU.lt
  (refine Go.run (g:=?_))
  refine Go.name ?_
  intro Hm em
  have sm : Same H Hm := by subst em; exact ((Same.refl H).push _).put (Nat.le_refl _) _
  have gm : Hm.get H.n = some (.cells [.int .u16 (m.sid : Nat), .bool m.un, .int .u32 (m.ppid : Nat), .slice m.a m.z.length m.cap] 39) := by subst em; exact hg_
  have mm : Hm.n = H.n + 1 := by subst em; rfl
  clear em
  have hm1 : Hm.n ≥ H2.n := by have := hS.1; omega
  refine Go.loop (α := Nat × AHeap) (fun x => [(155, .int .i64 (x.1 : Nat)), (154, .int .i64 l.length), (153, .slice la l.length lc), (26, .int .i64 (-1)), (25, .pointer (some ⟨H.n, 0, none⟩)), (149, .int .i64 (j : Nat)), (148, .int .i64 told.length), (147, .slice ta told.length tc), (22, .map (some H2.n)), (23, .slice ua l.length l.length), (0, .slice la l.length lc)]) (fun _ => []) (fun x => x.2) (fun x => x.1 ≤ l.length ∧ (∀ i', i' < x.1 → look (mAt l) uf pl m i' = false) ∧ Same Hm x.2) (fun x => l.length - x.1) (0, Hm) ⟨Nat.zero_le _, fun i' hi' => absurd hi' (Nat.not_lt_zero _), Same.refl _⟩ ⟨rfl, rfl, rfl, rfl, rfl, rfl, rfl, rfl, rfl, rfl, rfl, trivial⟩ rfl rfl ?_
  rintro ⟨i, K⟩ ⟨hi, hno, hK⟩
  simp only at hi hno hK ⊢
  rcases Nat.lt_or_ge i l.length with i0 | i0
  case inr =>
   obtain ⟨i', hi', hl⟩ := hG.find hD jd hmw
   rw [hno i' (by omega)] at hl
   cases hl
  have S2 := (hS.trans sm).trans hK
  have zK := (hz2.same old2).same S2
  have d0 := sns_get i0
  have dbe : i * 5 + 5 ≤ (sns l).length := by rw [sns_len]; omega
  have dd := ((hd2 _ (List.getElem_mem i0)).same old2).same S2
  rw [← mAt_get i0] at dd
  have hsz : snC l[i] = iC (mAt l i) ++ [.int .i64 l[i].2] := by rw [mAt_get i0]; rfl
  rw [hsz] at d0
  generalize hmi : mAt l i = mi at *
  generalize l[i].2 = size at *
  simp only [iC, List.cons_append, List.nil_append] at d0
  have mK := (hM.same sm).same hK
  have uK := (hU.same sm).same hK
  have gK := hK.get gm
  have dK := (dm.same sm).same hK
  have u0 := ucs_at (uf := uf) i0
  have ub1 : i * 1 < (ucs uf l.length).length := by rw [ucs_len]; omega
  have hKn := hK.1
  have hK1 : h1.n ≤ K.n := by omega
  (iterate 18 (refine Go.one (g:=?_)))
  refine Go.name ?_
  intro K1 eK
  have sk : Same K K1 := by subst eK; exact ((Same.refl K).push _).put (Nat.le_refl _) _
  have gi : K1.get K.n = some (.cells [.int .u16 (mi.sid : Nat), .bool mi.un, .int .u32 (mi.ppid : Nat), .slice mi.a mi.z.length mi.cap, .int .i64 size] 72) := by subst eK; exact hg_
  have nk : K1.n = K.n + 1 := by subst eK; rfl
  clear eK
  have hKK := hK.trans sk
  have mK1 := mK.same sk
  have uK1 := uK.same sk
  have gK1 := sk.get gK
  have dK1 := dK.same sk
  have dd1 := dd.same sk
  have hlk : look (mAt l) uf pl m i = (!uf i && (sameB m mi && !(!m.un && decide (i < nget pl m.sid)))) := by rw [look_def, hmi]
  have hagain : look (mAt l) uf pl m i = false → ∀ i', i' < i + 1 → look (mAt l) uf pl m i' = false := fun e i' hi' => by
   rcases Nat.eq_or_lt_of_le (Nat.le_of_lt_succ hi') with q | q
   · rw [q]; exact e
   · exact hno i' q
  clear zK d0 dbe dd mK uK gK dK sk rowH c0 hbe
  cases hu : uf i with
  | true =>
   rw [hu] at u0
   (refine Go.run (g:=?_))
   exact Go.again (i + 1, K1) ⟨by simp only; omega, hagain (by rw [hlk, hu]; rfl), hKK⟩ (by simp only; omega) ⟨rfl, rfl, rfl, rfl, rfl, rfl, rfl, rfl, rfl, rfl, rfl, trivial⟩ rfl rfl
  | false =>
  rw [hu] at u0
  have hsm := same11_spec m mi K1 dK1 dd1
  (refine Go.run (g:=?_))
  refine GoR.call rfl rfl rfl rfl rfl rfl rfl (((hsm).argA).mono ?_)
  rintro _ K2 rfl s2k
  cases hB : sameB m mi with
  | false =>
   (refine Go.run (g:=?_))
   exact Go.again (i + 1, K2) ⟨by simp only; omega, hagain (by rw [hlk, hu, hB]; rfl), hKK.trans s2k⟩ (by simp only; omega) ⟨rfl, rfl, rfl, rfl, rfl, rfl, rfl, rfl, rfl, rfl, rfl, trivial⟩ rfl rfl
  | true =>
  have hK2 := hKK.trans s2k
  have mK2 := mK1.same s2k
  have uK2 := uK1.same s2k
  have gK2 := s2k.get gK1
  have s2n := s2k.1
  clear mK1 uK1 gK1 dK1 dd1 hsm gi hKK
  have S22 := (hS.trans sm).trans hK2
  have hpbu : H2.n ∉ blk ua := by
   obtain ⟨es, ck, g, -⟩ := mK2
   exact sv_out uK2 g (fun c e => by cases e)
  have hlenu := hT4 uf
  have hperm : ∀ x ∈ blk ua, x ∈ ([] : List Nat) ∨ h1.n ≤ x := fun x hx => .inr (by have := hown x hx; omega)
  cases hun : m.un with
  | true =>
   rw [hun] at gK2
   have hlt : look (mAt l) uf pl m i = true := by rw [hlk, hu, hB, hun]; rfl
   have hGn := hG.next hD jd hmw i0 hlt (fun e => by rw [hun] at e; cases e)
   rw [hun, if_pos rfl] at hGn
   clear hno hagain hlk
   (refine Go.run (g:=?_))
   refine GoR.storeV (l := [.bool true]) (n := 1) rfl rfl rfl rfl rfl rfl rfl rfl (by decide) uK2 (show i + 1 ≤ (ucs uf l.length).length by omega) hperm ?_
   intro K3 u3 k3 m3
   rw [ucs_set i0] at u3
   have M3 := mK2.keeps k3 hpbu
   have S3 := S22.own k3 hown
   have g3 := k3.get gK2 (sv_out uK2 gK2 (fun c e => by cases e))
   (refine Go.run (g:=?_))
   exact Go.again (j + 1, acS uf i, pl, K3) ⟨by simp only; omega, hGn, S3, M3, u3⟩ (by simp only; omega) ⟨rfl, rfl, rfl, rfl, rfl, rfl, trivial⟩ rfl rfl
  | false =>
   rw [hun] at gK2
   (refine Go.run (g:=?_))
   refine GoR.lookup rfl rfl rfl rfl rfl rfl mK2.imap ?_
   rw [al_plv]
   by_cases hpl : i < nget pl m.sid
   ·
    have hlf : look (mAt l) uf pl m i = false := by rw [hlk, hu, hB, hun, decide_eq_true hpl]; rfl
    (refine Go.run (g:=?_))
    exact Go.again (i + 1, K2) ⟨by simp only; omega, hagain hlf, hK2⟩ (by simp only; omega) ⟨rfl, rfl, rfl, rfl, rfl, rfl, rfl, rfl, rfl, rfl, rfl, trivial⟩ rfl rfl
   have hlt : look (mAt l) uf pl m i = true := by rw [hlk, hu, hB, hun, decide_eq_false hpl]; rfl
   have hid := hG.self hD jd hmw hun i0 hlt hno
   have hGn := hG.next hD jd hmw i0 hlt (fun _ => hid)
   rw [hun, if_neg (by decide)] at hGn
   clear hno hagain hlk
   (refine Go.run (g:=?_))
   refine GoR.storeV (l := [.bool true]) (n := 1) rfl rfl rfl rfl rfl rfl rfl rfl (by decide) uK2 (show i + 1 ≤ (ucs uf l.length).length by omega) hperm ?_
   intro K3 u3 k3 m3
   rw [ucs_set i0] at u3
   have M3 := mK2.keeps k3 hpbu
   have S3 := S22.own k3 hown
   have g3 := k3.get gK2 (sv_out uK2 gK2 (fun c e => by cases e))
   have z3 := (hz2.same old2).same S3
   have hu3 : ∀ p, p < i → (mAt l p).un = false → (mAt l p).sid = m.sid → acS uf i p = true := fun p hp h1 h2 => by
    have := hG.full hD jd hmw hun (i := p) (by rw [← hid]; exact hp) h1 h2
    unfold acS
    rw [this, Bool.or_true]
   clear uK2 mK2 gK2 k3 hK2
   (refine Go.run (g:=?_))
   refine GoR.lookup rfl rfl rfl rfl rfl rfl M3.imap ?_
   rw [al_plv]
   (refine Go.run (g:=?_))
   refine Go.loop (α := Nat) (fun x => [(29, .int .i64 (x : Nat)), (26, .int .i64 (i : Nat)), (25, .pointer (some ⟨H.n, 0, none⟩)), (149, .int .i64 (j : Nat)), (148, .int .i64 told.length), (147, .slice ta told.length tc), (22, .map (some H2.n)), (23, .slice ua l.length l.length), (0, .slice la l.length lc)]) (fun _ => []) (fun x => K3) (fun x => x ≤ i) (fun x => i - x) (nget pl m.sid) (by omega) ⟨rfl, rfl, rfl, rfl, rfl, rfl, rfl, rfl, rfl, trivial⟩ rfl rfl ?_
   rintro p hp
   rcases Nat.lt_or_ge p i with p0 | p0
   case inr =>
    obtain rfl : p = i := by omega
    (refine Go.run (g:=?_))
    refine GoR.mapUpdateS (.inl rfl) rfl rfl rfl rfl rfl M3 (.inr (by omega)) ?_
    intro K4 M4 k4 m4
    rw [aset_plv] at M4
    have S4 := S3.own k4 (fun x hx => by rw [List.mem_singleton.1 hx]; exact Nat.le_refl _)
    have u4 := u3.keeps k4 (fun x hx hm => by
     rw [List.mem_singleton.1 hm] at hx
     exact hpbu hx)
    (refine Go.run (g:=?_))
    exact Go.again (j + 1, acS uf p, nput pl m.sid p, K4) ⟨by simp only; omega, hGn, S4, M4, u4⟩ (by simp only; omega) ⟨rfl, rfl, rfl, rfl, rfl, rfl, trivial⟩ rfl rfl
   have pL : p < l.length := by omega
   have v0 : (sns l)[p * 5]? = some (.int .u16 ((mAt l p).sid : Nat)) := by
    have := sns_at pL (j := 0) (by decide)
    rw [Nat.add_zero] at this
    rw [this, mAt_get pL]; rfl
   have v1 : (sns l)[p * 5 + 1]? = some (.bool (mAt l p).un) := by rw [sns_at pL (j := 1) (by decide), mAt_get pL]; rfl
   have v2 := ucs_at (uf := acS uf i) pL
   have hpb : p * 5 < (sns l).length := by rw [sns_len]; omega
   have hu4 := hu3 p p0
   generalize mAt l p = mp at *
   cases hmu2 : mp.un with
   | true =>
    rw [hmu2] at v1
    (refine Go.run (g:=?_))
    exact Go.again (p + 1) (show p + 1 ≤ i by omega) (show i - (p + 1) < i - p by omega) ⟨rfl, rfl, rfl, rfl, rfl, rfl, rfl, rfl, rfl, trivial⟩ rfl rfl
   | false =>
    rw [hmu2] at v1
    by_cases hsd : mp.sid = m.sid
    ·
     rw [hu4 hmu2 hsd] at v2
     rw [hsd] at v0
     (refine Go.run (g:=?_))
     exact Go.again (p + 1) (show p + 1 ≤ i by omega) (show i - (p + 1) < i - p by omega) ⟨rfl, rfl, rfl, rfl, rfl, rfl, rfl, rfl, rfl, trivial⟩ rfl rfl
    ·
     have hsd' : ¬ (mp.sid : Int) = (m.sid : Int) := by omega
     (refine Go.run (g:=?_))
     exact Go.again (p + 1) (show p + 1 ≤ i by omega) (show i - (p + 1) < i - p by omega) ⟨rfl, rfl, rfl, rfl, rfl, rfl, rfl, rfl, rfl, trivial⟩ rfl rfl
 have hzn5 := hzn2.same ok.o.old
 have c1 := u16r_at i0
 have hv16 := htn _ (List.getElem_mem i0)
 generalize tn[i] = v16 at *
 have hul : (u16r tn).length = tn.length := by simp [u16r]
 have hb1 : i * 1 < (u16r tn).length := by omega
 by_cases hp0 : (0 : Int) < (ps.length : Int)
 case neg =>
  have hp0' : ¬ (ps.length : Int) > 0 := hp0
  (refine Go.run (g:=?_))
  exact Go.again (i + 1, acc, k, dl, tl, t, ta, tc, told, H) ⟨by simp only; omega, ok⟩ (by simp only; omega) ⟨rfl, rfl, rfl, rfl, rfl, rfl, rfl, rfl, rfl, trivial⟩ rfl rfl
 have hix : v16 % ps.length < ps.length := Nat.mod_lt _ (by omega)
 obtain ⟨ix, hixe⟩ : ∃ ix, ix = v16 % ps.length := ⟨_, rfl⟩
 rw [← hixe] at hix
 have prow5 := prow.same ok.o.old
 have c2 := pcs_get hix
 have hbe : ix * 6 + 6 ≤ (pcs ps).length := by rw [pcs_len]; omega
 rw [← pAt_get hix] at c2
 have hadd := ok.add X (by omega) hA1.symm (by omega) (by omega) (by omega) hpp' hix hlt3 pdv
 generalize hpv : pAt ps ix = pv at *
 simp only [pC] at c2
 have hwlt := ok.o.k.ltW
 have hwow := ok.o.k.ownW
 obtain ⟨n1', n2', n3'⟩ := ok.o.nI
 have hdis : ∀ j ∈ wrI xb A r mr t, j ≠ xv := fun j hj e => n1' (by rw [← e]; exact hj)
 have hdis2 := hdis
 refine Go.runN (g:=?_)
 refine Go.kk 2 rfl ?_
 refine Go.loud (by kernel_rfl) rfl ?_
 (refine Go.runL (g:=?_))
 rw [← hixe]
 (refine Go.runL (g:=?_))
 refine GoL.call rfl rfl rfl rfl rfl rfl rfl ((hadd.argA).mono ?_)
 rintro v H5 hv5 kk
 obtain ⟨code, t5, acc5, k5, dl5, rfl, ok5, -⟩ := hv5 kk
 refine ⟨fun j hj => .inr (by have := hwow j hj; omega), ?_⟩
 (refine Go.runL (g:=?_))
 refine GoL.endC (g:=?_)
 clear hadd ok c2 hbe prow5 hzn5 gx
 obtain ⟨p1, p2, p3, p4, p5⟩ := ok5.I.small X (by omega)
 have hHn5 := ok5.o.old.1
 by_cases h30 : v16 % 3 = 0
 ·
  have h30' : ((v16 % 3 : Nat) : Int) = 0 := by omega
  have htk := ok5.take X (by omega)
  have hown5 := ok5.own
  (refine Go.run (g:=?_))
  refine GoR.callW rfl rfl rfl rfl rfl rfl rfl (((htk).argA).mono ?_)
  rintro v H6 ⟨t6, ta6, tc6, told6, ok6, -⟩ kk6
  refine ⟨fun j hj => .inr (by have := hown5 j hj; omega), ?_⟩
  (refine Go.run (g:=?_))
  exact Go.again (i + 1, acc5, k5, dl5, _, t6, ta6, tc6, told6, H6) ⟨by simp only; omega, ok6⟩ (by simp only; omega) ⟨rfl, rfl, rfl, rfl, rfl, rfl, rfl, rfl, rfl, trivial⟩ rfl rfl
 ·
  have h30' : ¬ ((v16 % 3 : Nat) : Int) = 0 := by omega
  (refine Go.run (g:=?_))
  exact Go.again (i + 1, acc5, k5, dl5, tl, t5, ta, tc, told, H5) ⟨by simp only; omega, ok5⟩ (by simp only; omega) ⟨rfl, rfl, rfl, rfl, rfl, rfl, rfl, rfl, rfl, trivial⟩ rfl rfl
end Go.Proofs.Ytccbmmnkiihkaaa
namespace Go.Proofs.Ytccbmmnkiihkaaa
set_option maxRecDepth 100000
open Go.ChangeShapes Go.WideShapes Go.ChangeAt Go.RowKit
theorem v10i : Try.prog.underlying 3 = some (.int .i64) := by kernel_rfl
theorem v10u8 : Try.prog.underlying 5 = some (.int .u8) := by kernel_rfl
theorem v10u16 : Try.prog.underlying 22 = some (.int .u16) := by kernel_rfl
theorem v10u32 : Try.prog.underlying 23 = some (.int .u32) := by kernel_rfl
theorem v10bs : Try.prog.underlying 31 = some (.slice 5) := by kernel_rfl
theorem cells10P {α : Type} {f : α → List Value} {p : α → Prop} {sz : Nat} : ∀ (len : Nat) (c : List Value), c.length = len * sz → (∀ i, i < len → ∃ x, (c.drop (i * sz)).take sz = f x ∧ p x) → ∃ l : List α, l.length = len ∧ c = (l.map f).flatten ∧ ∀ x ∈ l, p x
 | 0, c, hl, _ => ⟨[], rfl, by simpa using hl, fun x hx => by cases hx⟩
 | n + 1, c, hl, each => by
  obtain ⟨x, e, hp⟩ := each 0 (by omega)
  rw [Nat.zero_mul, List.drop_zero] at e
  obtain ⟨l, h1, h2, h3⟩ := cells10P (f := f) (p := p) (sz := sz) n (c.drop sz) (by rw [List.length_drop, hl, Nat.succ_mul]; omega) (fun i hi => by
   have := each (i + 1) (by omega)
   rwa [show (i + 1) * sz = sz + i * sz from by rw [Nat.succ_mul]; omega, ← List.drop_drop] at this)
  refine ⟨x :: l, by simp [h1], ?_, fun y hy => ?_⟩
  · rw [← List.take_append_drop sz c, e, h2]; simp
  ·
   rcases List.mem_cons.1 hy with rfl | hy
   · exact hp
   · exact h3 y hy
structure PIn (h : AHeap) (p : PV) : Prop where
 b : PB p
 len : p.z.length ≤ 140737488355328
 ok : Rv Try.prog h 1 p.a p.z.length p.cap (p.z.map bv)
section
variable {H : Type} {enc : TypeId × Value → H} {W : World} {m : Mp} {h : AHeap} {base : Nat} {v : Value} {d : DataW H} {ps : List MemPlace}
end
theorem u16_of {n : Int} (w : (Lit.int .u16 n).wf = true) : ∃ k : Nat, k < 65536 ∧ n = (k : Nat) := by
 simp [Lit.wf, IntKind.wrap, IntKind.bits, IntKind.signed, IntKind.min, IntKind.max] at w
 exact ⟨n.toNat, by omega, by omega⟩
theorem u32_of10 {n : Int} (w : (Lit.int .u32 n).wf = true) : ∃ k : Nat, k < 4294967296 ∧ n = (k : Nat) := by
 simp [Lit.wf, IntKind.wrap, IntKind.bits, IntKind.signed, IntKind.min, IntKind.max] at w
 exact ⟨n.toNat, by omega, by omega⟩
end Go.Proofs.Ytccbmmnkiihkaaa
namespace Go
open Go.ChangeShapes
variable {H : Type} {enc : TypeId × Value → H}
theorem returnsInHanded_of_cond_sized' {a : Assume} {C : Checked} {os : Os} {f : FuncId} {fn : Func} {s : OpenSpec} {k : (H : Type) → List (DataW H) → Bool} (hk : s.cond = some k) {F : Stop.Interp} {conds : List PathCond} {apart fresh handsOn again : Bool}
  (own : ownKnob C.prog.godebug = none) (started : os.Started) (noInit : C.prog.inits.idxOf? f = none) (hfn : C.prog.funcs[f]? = some fn)
  (witness : ∃ (w : World) (tape : Tape) (i : Input), w.os = os ∧ (w.forCall tape i).Shaped C.prog ∧ i.vars = [] ∧ Input.okWide C.prog (w.forCall tape i) .any w.heap.size f i ∧
   s.pre6 enc C.prog fn conds apart (w.forCall tape i).memory i.args ∧ a.holds C.prog (lone (Frame.enter C.prog f i.args .normal) [] (w.forCall tape i)))
  (contract : ∀ (W : World) (base : Nat) (args : Array Value) (ds gs : List (DataW H)) (before : List MemPlace),
   (∀ (j : Nat) t v, fn.params[j]? = some t → args[j]? = some v → Value.okWide C.prog W .any base t v) →
   DataW.Whole enc C.prog fn.params.toList s.vars apart W args.toList ds gs before →
   conds.all (PathCond.test C.prog ⟨fn.params.toList, ds, s.bare.plain.varTypes C.prog, gs⟩) = true → k H (ds ++ gs) = true →
   (DataW.weightsEach C.prog (fn.params.toList ++ s.bare.plain.varTypes C.prog) (ds ++ gs)).all (· ≤ reachBytes) = true →
   a.holds C.prog (lone (Frame.enter C.prog f args .normal) [] W) →
   Calls C.prog f args W fun e W' => ∃ v, e = .returned v ∧ (s.at F).post enc C.prog fn apart fresh handsOn again W args v W') :
  ReturnsInHanded a C os f .any (s.pre6 enc C.prog fn conds apart) ((s.at F).post enc C.prog fn apart fresh handsOn again) := by
 refine returnsInHanded_of_calls own started noInit witness ?_
 intro w tape i _ _ _ hok hpre hholds
 obtain ⟨_, _, _, fn', hfn', _, _, _, _, hval⟩ := hok
 have e : fn' = fn := Option.some.inj (hfn'.symm.trans hfn)
 subst e
 obtain ⟨ds, gs, before, hw, hc, hkk⟩ := (OpenSpec.pre_some hk conds apart _ _).1 hpre.1
 have hz := hpre.2.weights hw
 have hw' := DataW.Whole.of_heap (w' := w.forCall tape i) (by rfl) hw
 refine (contract (w.forCall tape i) w.heap.size i.args ds gs before hval hw' hc hkk hz hholds).mono fun e W' ⟨v, he, hp⟩ => ?_
 subst he
 exact ChangeSpec.post_blind hp
end Go
namespace Go.Proofs.Ytccbmmnkiihkaaa
section
variable {P : Program} {h : AHeap} {H : Type}
open _root_.Go.Proofs.Ytccbmmnkiihkaaa.Rows
theorem bulk_pos (d : DataW H) : 1 ≤ uptoBulk d := by
 cases d <;> (unfold uptoBulk; first | omega | (split <;> omega))
theorem bulk_mem : ∀ {ds : List (DataW H)} {d : DataW H}, d ∈ ds → uptoBulk d ≤ uptoBulkAll ds
 | x :: ds, d, hd => by
  simp only [uptoBulkAll]
  rcases List.mem_cons.1 hd with rfl | hd
  · omega
  · have := bulk_mem hd; omega
theorem bulk_len : ∀ (ds : List (DataW H)), ds.length ≤ uptoBulkAll ds
 | [] => Nat.le_refl _
 | x :: ds => by
  have := bulk_len ds
  have := bulk_pos x
  simp only [uptoBulkAll, List.length_cons]; omega
theorem ARd.bulk_slice {t e : TypeId} {a : Option Addr} {len cap : Nat} {d : DataW H} (r : ARd P h t [.slice a len cap] d) (hu : P.underlying t = some (.slice e)) : len ≤ uptoBulk d := by
 cases r with
 | snil hu' => exact Nat.zero_le _
 | slice hu' hR hm hl he =>
  rename_i ds rest
  have := bulk_len ds
  unfold uptoBulk
  omega
 | struct hu' => rw [hu] at hu'; cases hu'
theorem ARd.fieldB {t : TypeId} {fs : Array Field} {cs : List Value} {d : DataW H} (r : ARd P h t cs d) {B : Nat} (z : uptoBulk d ≤ B) (hu : P.underlying t = some (.struct fs)) : ∀ (i ty off sz : Nat), (fs[i]?).map (fun f => (f.type, f.offset)) = some (ty, off) → P.cellsOf ty = sz → ∃ d', ARd (H := H) P h ty ((cs.drop off).take sz) d' ∧ uptoBulk d' ≤ B := by
 cases r with
 | struct hu' hl hx hf =>
  rw [hu] at hu'; cases hu'
  refine fun i ty off sz e hs => ?_
  subst hs
  cases hq : fs[i]? with
  | none => simp [hq] at e
  | some f =>
   simp only [hq, Option.map_some, Option.some.injEq, Prod.mk.injEq] at e
   obtain ⟨rfl, rfl⟩ := e
   have hi := (Array.getElem?_eq_some_iff.1 hq).1
   rename_i xs
   refine ⟨_, hf i f xs[i] hq (List.getElem?_eq_getElem (by omega)), ?_⟩
   have := bulk_mem (List.getElem_mem (l := xs) (show i < xs.length by omega))
   unfold uptoBulk at z
   omega
 | bool hu' => rw [hu] at hu'; cases hu'
 | int hu' hw => rw [hu] at hu'; cases hu'
 | str hu' => rw [hu] at hu'; cases hu'
 | snil hu' => rw [hu] at hu'; cases hu'
 | slice hu' => rw [hu] at hu'; cases hu'
theorem small_mem {ds : List (DataW H)} (h : uptoSmall H ds = true) {d : DataW H} {j : Nat} (hd : ds[j]? = some d) : uptoBulk d ≤ 1048576 := by
 have := of_decide_eq_true h
 exact Nat.le_trans (bulk_mem (List.mem_of_getElem? hd)) this
end
end Go.Proofs.Ytccbmmnkiihkaaa
namespace Go.Proofs.Ytccbmmnkiihkaaa
set_option maxRecDepth 100000
open Go.ChangeShapes Go.WideShapes Go.ChangeAt Go.RowKit
open Go.Proofs.Ytccbmmnkiihkaaa.Rows (uptoBulk uptoBulkAll uptoSmall)
theorem ARd.slice_invB {P : Program} {H : Type} {h : AHeap} {t e : TypeId} {cs : List Value} {d : DataW H} (r : ARd P h t cs d) {B : Nat} (z : uptoBulk d ≤ B) (hu : P.underlying t = some (.slice e)) : ∃ a len cap c, cs = [.slice a len cap] ∧ Rv P h (P.cellsOf e) a len cap c ∧ cap ≤ maxLen ∧ ∀ i, i < len → ∃ d', ARd (H := H) P h e ((c.drop (i * P.cellsOf e)).take (P.cellsOf e)) d' ∧ uptoBulk d' ≤ B := by
 cases r with
 | snil hu' => exact ⟨none, 0, 0, [], rfl, .nil, Nat.zero_le _, fun i hi => by omega⟩
 | slice hu' hR hm hl he =>
  rw [hu] at hu'; cases hu'
  rename_i ds rest
  refine ⟨_, _, _, _, rfl, hR, hm, fun i hi => ⟨ds[i]'(by omega), he i _ (List.getElem?_eq_getElem (by omega)), ?_⟩⟩
  have := bulk_mem (List.getElem_mem (l := ds) (show i < ds.length by omega))
  unfold uptoBulk at z
  omega
 | bool hu' => rw [hu] at hu'; cases hu'
 | int hu' hw => rw [hu] at hu'; cases hu'
 | str hu' => rw [hu] at hu'; cases hu'
 | struct hu' => rw [hu] at hu'; cases hu'
theorem w10sents : Try.prog.underlying 64 = some (.slice 72) := by kernel_rfl
theorem w10u16s : Try.prog.underlying 65 = some (.slice 22) := by kernel_rfl
theorem w10b : Try.prog.underlying 4 = some .bool := by kernel_rfl
theorem w10plain : plainB Try.prog 6 64 = true := by kernel_rfl
theorem w10plain2 : plainB Try.prog 6 65 = true := by kernel_rfl
structure SIn (h : AHeap) (m : IM) : Prop where
 sid : m.sid < 65536
 ppid : m.ppid < 4294967296
 len : m.z.length ≤ 1048576
 ok : Rv Try.prog h 1 m.a m.z.length m.cap (m.z.map bv)
theorem sent_of {h : AHeap} {H : Type} {cs : List Value} {d : DataW H} (r : ARd Try.prog h 72 cs d) (hl : cs.length = 5) (z : uptoBulk d ≤ 1048576) : ∃ x : IM × Int, cs = snC x ∧ SIn h x.1 := by
 have hf := r.fieldB z Try.underlying72
 match cs, hl with
 | [c0, c1, c2, c3, c4], _ =>
  obtain ⟨d0, r0, z0⟩ := hf 0 39 0 4 rfl (by kernel_rfl)
  obtain ⟨d1, r1, -⟩ := hf 1 3 4 1 rfl (by kernel_rfl)
  have r0' : ARd Try.prog h 39 [c0, c1, c2, c3] d0 := r0
  have hg := r0'.fieldB z0 Try.underlying39
  obtain ⟨e0, q0, -⟩ := hg 0 22 0 1 rfl (by kernel_rfl)
  obtain ⟨e1, q1, -⟩ := hg 1 4 1 1 rfl (by kernel_rfl)
  obtain ⟨e2, q2, -⟩ := hg 2 23 2 1 rfl (by kernel_rfl)
  obtain ⟨e3, q3, b3⟩ := hg 3 31 3 1 rfl (by kernel_rfl)
  obtain ⟨n, en, -⟩ := r1.int_inv v10i
  obtain ⟨n0, f0, b0⟩ := q0.u_inv rfl v10u16
  obtain ⟨u, f1⟩ := q1.bool_inv w10b
  obtain ⟨n2, f2, b2⟩ := q2.u_inv rfl v10u32
  obtain ⟨a, cap, zs, f3, hR, hm⟩ := q3.bytes v10bs v10u8 (by kernel_rfl)
  rw [f3] at q3
  have hz := q3.bulk_slice v10bs
  simp at en f0 f1 f2 f3
  subst en f0 f1 f2 f3
  exact ⟨(⟨n0, u, n2, a, cap, zs⟩, n), rfl, ⟨b0, b2, by simp only; omega, hR⟩⟩
section
variable {H : Type} {enc : TypeId × Value → H} {W : World} {m : Mp} {h : AHeap} {base : Nat} {v : Value} {d : DataW H} {ps : List MemPlace}
theorem imp_sents (o : Value.okWide Try.prog W .any base 64 v) (ht : DataW.Trod enc Try.prog W 0 (fun _ => true) true 64 v d ps) (z : uptoBulk d ≤ 1048576) (I : Im Try.prog W m h) :
  ∃ m' h', Im Try.prog W m' h' ∧ (∃ (a : Option Addr) (cap : Nat) (l : List (IM × Int)), VRel m' (.slice a l.length cap) v ∧ Rv Try.prog h' 5 a l.length cap (sns l) ∧ ∀ x ∈ l, SIn h' x.1) := by
 obtain ⟨a0, l0, c0, rfl⟩ := okWide_slice w10sents o
 obtain ⟨m', h', cs, I', hm, hs, hA, hR, hl⟩ := imp_val w10plain ht I
 obtain ⟨x, rfl, hv⟩ := vrel_one hA (by rw [hl]; kernel_rfl) rfl
 obtain ⟨a, len, cap, c, e, hz, -, hel⟩ := hR.slice_invB z w10sents
 cases e
 rw [show Try.prog.cellsOf 72 = 5 from by kernel_rfl] at hz hel
 have hcl := hz.length
 obtain ⟨l, rfl, rfl, hp⟩ := cells10P (f := snC) (p := fun x => SIn h' x.1) len c hz.length fun i hi => let ⟨d', r, z'⟩ := hel i hi; sent_of r (by rw [List.length_take, List.length_drop, hcl]; have : (i + 1) * 5 ≤ len * 5 := Nat.mul_le_mul_right 5 hi; omega) z'
 exact ⟨m', h', I', a, cap, l, hv, hz, hp⟩
end
end Go.Proofs.Ytccbmmnkiihkaaa
namespace Go.Proofs.Ytccbmmnkiihkaaa
open Go.ChangeShapes Go.WideShapes Go.ChangeAt Go.RowKit
set_option maxRecDepth 100000
theorem u16r_flat : ∀ l : List Nat, (l.map fun n => [Value.int .u16 (n : Nat)]).flatten = u16r l
 | [] => rfl
 | x :: l => congrArg (Value.int .u16 (x : Nat) :: ·) (u16r_flat l)
theorem inboxTellsWalk {H : Type} {enc : TypeId × Value → H} {base : Nat} {d0 : DataW H} {p0 : List MemPlace} {d5 : DataW H} {p5 : List MemPlace} (v0 : Value) (a1 a2 a3 a4 : Int) (v5 : Value) (W : World) (o0 : Value.okWide Try.prog W .any base 64 v0) (h0 : DataW.Trod enc Try.prog W 0 (fun _ => true) true 64 v0 d0 p0) (z0 : Sized Try.prog 64 d0) (u0 : Rows.uptoBulk d0 ≤ 1048576) (w1 : (Lit.int .u16 a1).wf = true) (w2 : (Lit.int .i64 a2).wf = true) (w3 : (Lit.int .i64 a3).wf = true) (w4 : (Lit.int .u32 a4).wf = true) (o5 : Value.okWide Try.prog W .any base 65 v5) (h5 : DataW.Trod enc Try.prog W 0 (fun _ => true) true 65 v5 d5 p5) (z5 : Sized Try.prog 65 d5) (u5 : Rows.uptoBulk d5 ≤ 1048576) : Calls Try.prog 5 #[v0, .int .u16 a1, .int .i64 a2, .int .i64 a3, .int .u32 a4, v5] W fun e w' => e = .returned (.bool true) ∧ Below W.heap.size W w' := by
 obtain ⟨m, h, I, a, cap, l, hv, hz, hp⟩ := imp_sents o0 h0 u0 (Im.empty Try.prog W)
 obtain ⟨st, hst, rfl⟩ := u16_of w1
 obtain ⟨T, hT, rfl⟩ := u32_of10 w4
 obtain ⟨na0, nl0, nc0, rfl⟩ := okWide_slice w10u16s o5
 obtain ⟨m1, h', cs1, I1, hm1, s1, hA1, hR1, hl1⟩ := imp_val w10plain2 h5 I
 obtain ⟨x, rfl, hv1⟩ := vrel_one hA1 (by rw [hl1]; kernel_rfl) rfl
 obtain ⟨na, nlen, nc, c, e, hzn, -, hel⟩ := hR1.slice_invB u5 w10u16s
 cases e
 rw [show Try.prog.cellsOf 22 = 1 from by kernel_rfl] at hzn hel
 obtain ⟨tn, rfl, rfl, htn⟩ := cells10P (f := fun n : Nat => [Value.int .u16 (n : Nat)]) (p := fun n => n < 65536) nlen c hzn.length fun i hi => by
  obtain ⟨d', r, -⟩ := hel i hi
  obtain ⟨n, e, b⟩ := r.u_inv rfl v10u16
  exact ⟨n, e, b⟩
 rw [u16r_flat] at hzn
 refine calls_imp noGlobals I1 rfl (inboxTells_spec l a cap st a2 a3 T tn na nc hst hT h' (hz.same s1) (fun x hx => by have := (hp x hx).len; omega) (fun x hx => (hp x hx).sid) (fun x hx => (hp x hx).ppid) (fun x hx => (hp x hx).ok.same s1) hzn htn) ?_
 exact ((((((ARel.single (hv.mono hm1)).push (.int _ _)).push (.int _ _)).push (.int _ _)).push (.int _ _)).push hv1)
end Go.Proofs.Ytccbmmnkiihkaaa