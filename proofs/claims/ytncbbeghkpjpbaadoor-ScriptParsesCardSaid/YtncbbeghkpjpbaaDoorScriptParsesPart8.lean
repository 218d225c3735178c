/- What the law leans on, part 8. No conditions. -/
import Derived.Test.YtncbbeghkpjpbaaDoorRows
import Derived.Lib.LaidTab
import Derived.Stop.LaidErr
import Derived.MakeChecks
import Derived.Test.YtncbbeghkpjpbaaDoorScriptParsesPart7
set_option linter.unusedVariables false
set_option linter.unusedSimpArgs false
namespace Go.Proofs.YtncbbeghkpjpbaaDoor
open Go.RowKit
set_option maxRecDepth 100000
attribute [local irreducible] Go GoR GoL
theorem upP_rng {most : Int} {w : W} {x : Int} (h : upP most w = some x) : 0 ≤ x ∧ x ≤ most := by
 unfold upP at h
 split at h
 ·
  split at h
  · rename_i hh; rw [← Option.some.inj h]; exact hh
  · cases h
 · cases h
theorem up_w {most n : Int} {w : W} {p : Nat} {lim : Int} (hn : ∀ x, upP most w = some x → n = x) (hl : most < lim) (hp : 0 ≤ n → n < lim → (p : Int) = n) (hb : ubad most w = false) : p = upD most w := by
 unfold ubad at hb; unfold upD
 cases hq : upP most w with
 | none => rw [hq] at hb; cases hb
 | some x =>
  have h1 := hn x hq
  have h2 := upP_rng hq
  have h3 := hp (by omega) (by omega)
  show p = x.toNat
  omega
theorem wU16 (n : Int) : ∃ p : Nat, IntKind.u16.wrap n = p ∧ p < 65536 ∧ (0 ≤ n → n < 65536 → (p : Int) = n) := ⟨(n % 65536).toNat, by simp [IntKind.wrap, IntKind.signed, IntKind.bits]; omega, by omega, fun _ _ => by omega⟩
theorem wU32 (n : Int) : ∃ p : Nat, IntKind.u32.wrap n = p ∧ p < 4294967296 ∧ (0 ≤ n → n < 4294967296 → (p : Int) = n) := ⟨(n % 4294967296).toNat, by simp [IntKind.wrap, IntKind.signed, IntKind.bits]; omega, by omega, fun _ _ => by omega⟩
theorem wU8 (n : Int) : ∃ p : Nat, IntKind.u8.wrap n = p ∧ p < 256 ∧ (0 ≤ n → n < 256 → (p : Int) = n) := ⟨(n % 256).toNat, by simp [IntKind.wrap, IntKind.signed, IntKind.bits]; omega, by omega, fun _ _ => by omega⟩
theorem ic0 : aIndex Tryd.prog 68 callsV (.int .i64 ((0 : Nat) : Int)) = some (stv (kwL 0)) := by kernel_rfl
theorem ic1 : aIndex Tryd.prog 68 callsV (.int .i64 ((1 : Nat) : Int)) = some (stv (kwL 1)) := by kernel_rfl
theorem ic2 : aIndex Tryd.prog 68 callsV (.int .i64 ((2 : Nat) : Int)) = some (stv (kwL 2)) := by kernel_rfl
theorem ic3 : aIndex Tryd.prog 68 callsV (.int .i64 ((3 : Nat) : Int)) = some (stv (kwL 3)) := by kernel_rfl
theorem ic4 : aIndex Tryd.prog 68 callsV (.int .i64 ((4 : Nat) : Int)) = some (stv (kwL 4)) := by kernel_rfl
theorem ic5 : aIndex Tryd.prog 68 callsV (.int .i64 ((5 : Nat) : Int)) = some (stv (kwL 5)) := by kernel_rfl
theorem ic6 : aIndex Tryd.prog 68 callsV (.int .i64 ((6 : Nat) : Int)) = some (stv (kwL 6)) := by kernel_rfl
theorem ic7 : aIndex Tryd.prog 68 callsV (.int .i64 ((7 : Nat) : Int)) = some (stv (kwL 7)) := by kernel_rfl
theorem ic8 : aIndex Tryd.prog 68 callsV (.int .i64 ((8 : Nat) : Int)) = some (stv (kwL 8)) := by kernel_rfl
theorem ic_calls {k : Nat} (h : k < 9) : aIndex Tryd.prog 68 callsV (.int .i64 (k : Nat)) = some (stv (kwL k)) := by
 have : k = 0 ∨ k = 1 ∨ k = 2 ∨ k = 3 ∨ k = 4 ∨ k = 5 ∨ k = 6 ∨ k = 7 ∨ k = 8 := by omega
 rcases this with rfl | rfl | rfl | rfl | rfl | rfl | rfl | rfl | rfl
 · exact ic0
 · exact ic1
 · exact ic2
 · exact ic3
 · exact ic4
 · exact ic5
 · exact ic6
 · exact ic7
 · exact ic8
def bxC (b : Nat) : AObj := .cells [.pointer (some ⟨b, 0, none⟩)] 64
set_option maxHeartbeats 8000000 in
theorem many1_spec (bx b l m : Nat) (ws : List W) (bad : Bool) (h : AHeap) (gx : h.get bx = some (bxC b)) (k : RdI h 66 b ws bad) : CallS Tryd.prog [] 48 [.int .i64 (l : Nat), .int .i64 (m : Nat), .pointer (some ⟨bx, 0, none⟩)] h fun v h' => v = .bool (decide (l ≤ ws.length) && decide (ws.length ≤ m)) ∧ h' = h := by
 obtain ⟨a1, c1, g1, R1, o1⟩ := k
 unfold bxC at gx
 (refine CallS.of3 Tryd.func48 rfl Tryd.ntmps48 Tryd.results48 rfl ?_)
 by_cases h1 : l ≤ ws.length
 ·
  by_cases h2 : ws.length ≤ m
  ·
   (refine Go.run (g:=?_))
   (first|refine Go.finA rfl ?_|refine Go.finB rfl (hq:=?_))
   rw [decide_eq_true h1, decide_eq_true h2]
   refine ⟨?_, rfl⟩
   show Value.bool (decide ((ws.length : Int) ≤ m)) = _
   rw [decide_eq_true (by omega)]; rfl
  ·
   (refine Go.run (g:=?_))
   (first|refine Go.finA rfl ?_|refine Go.finB rfl (hq:=?_))
   rw [decide_eq_true h1, decide_eq_false h2]
   refine ⟨?_, rfl⟩
   show Value.bool (decide ((ws.length : Int) ≤ m)) = _
   rw [decide_eq_false (by omega)]; rfl
 ·
  (refine Go.run (g:=?_))
  (first|refine Go.finA rfl ?_|refine Go.finB rfl (hq:=?_))
  rw [decide_eq_false h1]
  exact ⟨rfl, rfl⟩
abbrev mvO (hh : Nat) (o : OpV) : MvV := ⟨1, hh, 0, 0, o, 0, 0, none, 0, []⟩
def OpPost (h : AHeap) (b bm hh : Nat) (bk : Bool) (ws : List W) (bad : Bool) (v : Value) (h' : AHeap) : Prop := ∃ (e : Nat) (o : OpV), v = .int .i64 (e : Nat) ∧ h'.get bm = some (.cells (mvO hh o).cs 47) ∧ (opP ws = none → e = 2) ∧ ∀ q pm, opP ws = some (q, pm) → e = 0 ∧ (∃ r', RdI h' 66 b r' (bad || q)) ∧ (q = false → ({ o with blk := false } : OpV).pm = pm) ∧ OpOk' h' o ∧ o.blk = bk ∧ Own h.n o.aa ∧ Own h.n o.da
theorem opP_kw {k : Nat} (hk : k < 9) (hne : kwL k ≠ []) (x : W) : opP [kwL k, x] = some (nbad x, { ok := k, id := numD x }) := by
 have : k = 0 ∨ k = 1 ∨ k = 2 ∨ k = 3 ∨ k = 4 ∨ k = 5 ∨ k = 6 ∨ k = 7 ∨ k = 8 := by omega
 rcases this with rfl | rfl | rfl | rfl | rfl | rfl | rfl | rfl | rfl <;> first | rfl | exact absurd rfl hne
theorem Sv.cells_of {h : AHeap} {t : TypeId} {sz len cap i : Nat} {a : Option Addr} {cs : List Value} (k : Sv h t sz a len cap cs) (hi : i ∈ blk a) : ∃ c, h.get i = Option.some (AObj.cells c t) := by
 cases k with
 | nil => simp [blk] at hi
 | mk hg ho hle hc => simp [blk] at hi; subst hi; exact ⟨_, hg⟩
set_option maxHeartbeats 32000000 in
theorem op_spec (b bm hh : Nat) (bk : Bool) (ws : List W) (bad : Bool) (hw : ∀ w ∈ ws, w.length ≤ 1000000) (hw0 : ∀ w ∈ ws, w ≠ []) (hl : ws.length ≤ 900000) (h : AHeap) (hG : Holds GE h) (hbm : b < bm) (k : RdI h 66 b ws bad) (gm : h.get bm = some (.cells (mvO hh ⟨0, 0, none, 0, [], 0, 0, false, 0, none, 0, [], bk⟩).cs 47)) : CallS Tryd.prog [b, bm] 31 [.pointer (some ⟨b, 0, none⟩), .pointer (some ⟨bm, 4, none⟩)] h (OpPost h b bm hh bk ws bad) := by
 have e16 : w16 = 65535 := rfl
 have e32 : w32 = 4294967295 := rfl
 have hm0 : bm < h.n := AHeap.lt gm
 (refine CallS.of2 Tryd.func31 rfl Tryd.ntmps31 Tryd.results31 rfl ?_)
 cases ws with
 | nil =>
  obtain ⟨a, cap, g, hR, ho⟩ := k
  have hno : opP [] = none := rfl
  (refine Go.run (g:=?_))
  (first|refine Go.finA rfl ?_|refine Go.finB rfl (hq:=?_))
  refine ⟨2, ⟨0, 0, none, 0, [], 0, 0, false, 0, none, 0, [], bk⟩, rfl, ?_, fun _ => rfl, fun q pm hq => by rw [hno] at hq; cases hq⟩
  exact get_push_lt gm
 | cons w r =>
  have hwn : w ≠ [] := hw0 w (List.mem_cons_self ..)
  obtain ⟨a, cap, g, hR, ho⟩ := id k
  rw [List.length_cons] at g hR
  (refine Go.run (g:=?_))
  refine GoR.name ?_
  intro H0 e0
  have s0 : Same h H0 := by rw [e0]; exact (Same.refl h).push _
  have gx : H0.get h.n = some (bxC b) := by rw [e0]; exact AHeap.get_push_same _ _
  have n0 : H0.n = h.n + 1 := by rw [e0]; rfl
  clear e0
  replace hG := hG.same s0
  replace gm := s0.get gm
  refine GoR.callW rfl rfl rfl rfl rfl rfl rfl (((word_spec b w r bad _ (k.same s0)).argA).mono ?_)
  rintro _ H1 ⟨rfl, k1⟩ kp1
  refine ⟨fun i hi => .inl (by simp at hi; simp [hi]), ?_⟩
  replace hG := (k.same s0).holds hG kp1
  replace gx := kput kp1 gx (by simp; omega)
  replace gm := kput kp1 gm (by simp; omega)
  have n1 := kp1.1
  clear g hR ho
  (refine Go.run (g:=?_))
  refine GoR.call rfl rfl rfl rfl rfl rfl rfl (((calls_spec' _ hG.gh).argA).mono ?_)
  rintro _ H' ⟨rfl, e'⟩ s2
  subst e'
  clear s2
  (refine Go.run (g:=?_))
  refine Go.loop (α := Nat) (fun x => [(0, .pointer (some ⟨b, 0, none⟩)), (1, .pointer (some ⟨bm, 4, none⟩)), (2, .pointer (some ⟨h.n, 0, none⟩)), (5, stv w), (6, .func (.func 48) #[] #[.pointer (some ⟨h.n, 0, none⟩)]), (18, callsV), (19, .int .i64 (x : Nat))]) (fun _ => []) (fun _ => H') (fun x => x ≤ 9 ∧ ∀ j, j < x → kwL j = w → r.length ≠ 1) (fun x => 9 - x) 0 ⟨Nat.zero_le _, fun j hj => by omega⟩ ⟨rfl, rfl, rfl, rfl, rfl, rfl, rfl, trivial⟩ rfl rfl ?_
  rintro i ⟨h1, h2⟩
  rcases Nat.lt_or_ge i 9 with hi | hi
  case inl =>
   have hix := ic_calls hi
   (refine Go.run (g:=?_))
   refine GoR.index rfl rfl rfl rfl rfl rfl hix ?_
   by_cases hk : kwL i = w
   case neg =>
    have hz : decide (kwL i = w) = false := decide_eq_false hk
    (refine Go.run (g:=?_))
    exact Go.again (i + 1) ⟨hi, fun j hj e => by rcases Nat.lt_or_ge j i with q | q; exact h2 j q e; exact absurd (by rw [show i = j by omega]; exact e) hk⟩ (by show 9 - (i + 1) < 9 - i; omega) ⟨rfl, rfl, rfl, rfl, rfl, rfl, rfl, trivial⟩ rfl rfl
   have hz : decide (kwL i = w) = true := decide_eq_true hk
   have hne : (!decide (kwL i = [])) = true := by rw [decide_eq_false (fun e => hwn (by rw [← hk]; exact e))]; rfl
   (refine Go.run (g:=?_))
   refine GoR.call rfl rfl rfl rfl rfl rfl rfl (((many1_spec h.n b 1 1 r bad _ gx k1).argA).mono ?_)
   rintro _ H2 ⟨rfl, e2⟩ s3
   subst e2
   clear s3
   by_cases hr1 : r.length = 1
   case neg =>
    have hb : (decide (1 ≤ r.length) && decide (r.length ≤ 1)) = false := by simp; omega
    rw [hb]
    (refine Go.run (g:=?_))
    exact Go.again (i + 1) ⟨hi, fun j hj e => by rcases Nat.lt_or_ge j i with q | q; exact h2 j q e; exact hr1⟩ (by show 9 - (i + 1) < 9 - i; omega) ⟨rfl, rfl, rfl, rfl, rfl, rfl, rfl, trivial⟩ rfl rfl
   obtain ⟨x, rfl⟩ := List.length_eq_one_iff.1 hr1
   have hb : (decide (1 ≤ [x].length) && decide ([x].length ≤ 1)) = true := rfl
   rw [hb]
   have hx := hw x (by simp)
   have hop : opP [w, x] = some (nbad x, { ok := i, id := numD x }) := by rw [← hk]; exact opP_kw hi (fun e => hwn (by rw [← hk]; exact e)) x
   have hgx := gx
   unfold bxC at hgx
   (refine Go.run (g:=?_))
   refine GoR.callW rfl rfl rfl rfl rfl rfl rfl (((int_spec b x [] bad (by omega) _ hG k1).argA).mono ?_)
   rintro _ H3 ⟨n, rfl, m0, m1, hn, k3⟩ kp3
   refine ⟨fun i hi => .inl (by simp at hi; simp [hi]), ?_⟩
   have g3 := kput kp3 gm (by simp; omega)
   rw [Nat.mod_eq_of_lt (show i < 256 by omega)]
   (refine Go.run (g:=?_))
   (first|refine Go.finA rfl ?_|refine Go.finB rfl (hq:=?_))
   refine ⟨0, ⟨i, n, none, 0, [], 0, 0, false, 0, none, 0, [], bk⟩, rfl, ?_, fun hno => ?_, fun q pm hq => ?_⟩
   · exact AHeap.get_put_same _ (by rw [AHeap.n_put]; exact AHeap.lt g3) _
   · rw [hop] at hno; cases hno
   rw [hop] at hq
   injection hq with hq
   injection hq with hq1 hq2
   subst hq1 hq2
   refine ⟨rfl, ⟨[], ?_⟩, fun hb => ?_, ⟨(by show i < 256; omega), m0, m1, .nil, (fun x hx => by cases hx), (by show 0 ≤ 2000000; decide), (by show 0 < 65536; decide), (by show 0 < 65536; decide), (by show 0 < 4294967296; decide), .nil, (by show 0 ≤ 2000000; decide)⟩, rfl, Own.nil _, Own.nil _⟩
   · exact (k3.putO (by omega) _).putO (by omega) _
   · show OpV.pm _ = _; rw [num_get hn hb]; rfl
  have hno9 : ∀ j, j < 9 → kwL j = w → r.length ≠ 1 := fun j hj => h2 j (by omega)
  obtain rfl : i = 9 := by omega
  clear h2
  by_cases q : w = connW
  case pos =>
   have z0 : decide (w = connW) = true := by rw [q]; decide
   have z1 : decide (w = sendW) = false := by rw [q]; decide
   have zz1 : decide (w = sendW) = !true := z1
   have z2 : decide (w = closeW) = false := by rw [q]; decide
   have zz2 : decide (w = closeW) = !true := z2
   have z3 : decide (w = noteW) = false := by rw [q]; decide
   have zz3 : decide (w = noteW) = !true := z3
   clear hno9
   match r, hw, hw0, hl, k, k1 with
   | [], _, _, _, _, k1 =>
    obtain ⟨a1, c1, g1, R1, o1⟩ := id k1
    have hno : opP [w] = none := by rw [q]; rfl
    (refine Go.run (g:=?_))
    (first|refine Go.finA rfl ?_|refine Go.finB rfl (hq:=?_))
    exact ⟨2, ⟨0, 0, none, 0, [], 0, 0, false, 0, none, 0, [], bk⟩, rfl, gm, fun _ => rfl, fun q pm hq => by rw [hno] at hq; cases hq⟩
   | xp :: l, hw, hw0, hl, _, k1 =>
    have hxp := hw xp (by simp)
    have hwl : ∀ x ∈ l, x.length ≤ 1000000 := fun x hx => hw x (by simp [hx])
    have hop : opP (w :: xp :: l) = some (ubad w16 xp || l.any (ubad w32), { ok := 1, port := upD w16 xp, ads := l.map (upD w32) }) := by rw [q]; rfl
    obtain ⟨a1, c1, g1, R1, o1⟩ := id k1
    rw [List.length_cons] at g1
    simp only [List.length_cons] at hl
    have hgx := gx
    unfold bxC at hgx
    (refine Go.run (g:=?_))
    refine GoR.callW rfl rfl rfl rfl rfl rfl rfl (((up_spec w16 (by decide) (by decide) b xp l bad (by omega) _ hG k1).argA).mono ?_)
    rintro _ H2 ⟨n, rfl, y0, y1, hn, k2⟩ kp2
    refine ⟨fun i hi => .inl (by simp at hi; simp [hi]), ?_⟩
    obtain ⟨pu, pu1, pu2, pu3⟩ := wU16 n
    have hG2 := k1.holds hG kp2
    have g2 := kput kp2 gm (by simp; omega)
    have gx2 := kput kp2 gx (by simp; omega)
    have n2 := kp2.1
    (refine Go.run (g:=?_))
    refine GoR.convE (pu : Int) rfl rfl rfl rfl rfl pu1 ?_
    (refine Go.run (g:=?_))
    refine Go.name ?_
    intro H3 e3
    have k3 : RdI H3 66 b l (bad || ubad w16 xp) := by rw [e3]; exact (k2.putO hbm _).putO hbm _
    have g3 : H3.get bm = some (.cells (mvO hh ⟨1, 0, none, 0, [], pu, 0, false, 0, none, 0, [], bk⟩).cs 47) := by rw [e3]; exact AHeap.get_put_same _ (by rw [AHeap.n_put]; exact AHeap.lt g2) _
    have gx3 : H3.get h.n = some (bxC b) := by rw [e3, AHeap.get_put_ne _ _ (by omega), AHeap.get_put_ne _ _ (by omega)]; exact gx2
    have n3 : H3.n = H2.n := by rw [e3]; rfl
    have hG3 : Holds GE H3 := by rw [e3]; exact (hG2.putE g2 _).putE (AHeap.get_put_same _ (AHeap.lt g2) _) _
    clear e3 g2 gx2 k2 kp2 hgx gm gx k1 hG hG2
    refine Go.loop (α := List W × List W × List Nat × Option Addr × Nat × AHeap) (fun x => [(1, .pointer (some ⟨bm, 4, none⟩)), (2, .pointer (some ⟨h.n, 0, none⟩))]) (fun _ => []) (fun x => x.2.2.2.2.2) (fun x => x.1 ++ x.2.1 = l ∧ x.2.2.1.length = x.1.length ∧ RdI x.2.2.2.2.2 66 b x.2.1 (bad || ubad w16 xp || x.1.any (ubad w32)) ∧ x.2.2.2.2.2.get bm = some (.cells (mvO hh ⟨1, 0, x.2.2.2.1, x.2.2.2.2.1, x.2.2.1, pu, 0, false, 0, none, 0, [], bk⟩).cs 47) ∧ x.2.2.2.2.2.get h.n = some (bxC b) ∧ Sv x.2.2.2.2.2 30 1 x.2.2.2.1 x.2.2.1.length x.2.2.2.2.1 (x.2.2.1.map u32v) ∧ Own (h.n + 1) x.2.2.2.1 ∧ h.n + 1 ≤ x.2.2.2.2.2.n ∧ (∀ y ∈ x.2.2.1, y < 4294967296) ∧ (x.1.any (ubad w32) = false → x.2.2.1 = x.1.map (upD w32)) ∧ Holds GE x.2.2.2.2.2) (fun x => x.2.1.length) ([], l, [], none, 0, H3) ⟨rfl, rfl, by rw [List.any_nil, Bool.or_false]; exact k3, g3, gx3, .nil, Own.nil _, (by show h.n + 1 ≤ H3.n; omega), (fun y hy => by cases hy), fun _ => rfl, hG3⟩ ⟨rfl, rfl, trivial⟩ rfl rfl ?_
    clear k3 g3 gx3 hG3
    rintro ⟨dn, rs, ads, oa, oc, H⟩ ⟨hdl, hln, kR, gO, gX, S, ow, hn', hb32, hads, hGH⟩
    simp only at hdl hln kR gO gX S ow hn' hb32 hads hGH ⊢
    dsimp only [OpV.cs, MvV.cs, mvO] at gO
    unfold bxC at gX
    have hll : dn.length + rs.length = l.length := by rw [← hdl, List.length_append]
    obtain ⟨a1, c1, g1, R1, o1⟩ := id kR
    cases rs with
    | nil =>
     rw [List.append_nil] at hdl
     subst hdl
     (refine Go.run (g:=?_))
     (first|refine Go.finA rfl ?_|refine Go.finB rfl (hq:=?_))
     refine ⟨0, ⟨1, 0, oa, oc, ads, pu, 0, false, 0, none, 0, [], bk⟩, rfl, gO, fun hno => ?_, fun q pm hq => ?_⟩
     · rw [hop] at hno; cases hno
     rw [hop] at hq
     injection hq with hq
     injection hq with hq1 hq2
     subst hq1 hq2
     refine ⟨rfl, ⟨[], by rw [← Bool.or_assoc]; exact kR⟩, fun hb => ?_, ⟨(by show 1 < 256; decide), (by show -9223372036854775808 ≤ (0 : Int); decide), (by show (0 : Int) < 9223372036854775808; decide), S.rv, hb32, (by show ads.length ≤ 2000000; omega), (by show pu < 65536; omega), (by show 0 < 65536; decide), (by show 0 < 4294967296; decide), .nil, (by show 0 ≤ 2000000; decide)⟩, rfl, fun i hi => by have := ow i hi; omega, Own.nil _⟩
     simp only [Bool.or_eq_false_iff] at hb
     show OpV.pm _ = _
     rw [show pu = upD w16 xp from up_w hn (lim := 65536) (by decide) pu3 hb.1, hads hb.2]
     rfl
    | cons x rs =>
     rw [List.length_cons] at g1
     have hx : x.length ≤ 1000000 := hwl x (by rw [← hdl]; simp)
     refine Go.runN (g:=?_)
     refine Go.loud (by kernel_rfl) rfl ?_
     (refine Go.runL (g:=?_))
     refine GoL.call rfl rfl rfl rfl rfl rfl rfl (((up_spec w32 (by decide) (by decide) b x rs _ (by omega) _ hGH kR).argA).mono ?_)
     rintro _ H4 ⟨v, rfl, v0, v1, hv, k4⟩ kp4
     refine ⟨fun i hi => .inl (by simp at hi; simp [hi]), ?_⟩
     obtain ⟨pv, pv1, pv2, pv3⟩ := wU32 v
     have g4 := kput kp4 gO (by simp; omega)
     have gx4 := kput kp4 gX (by simp; omega)
     have n4 := kp4.1
     have S4 := S.keeps kp4 (fun i hi hm => by simp only [List.mem_singleton] at hm; have := ow _ hi; omega)
     have hG4 := kR.holds hGH kp4
     (refine Go.runL (g:=?_))
     refine GoL.convE (pv : Int) rfl rfl rfl rfl rfl pv1 ?_
     refine GoL.buildRo (c := [pv].map u32v) rfl rfl rfl rfl rfl (by decide) (by rfl) (by rfl) ?_
     intro b5 H5 r5 ro5 ow5 s5 n5
     refine GoL.appendV rfl rfl rfl rfl rfl rfl (S4.same s5) r5 (fun i hi => .inr (by have := ow _ hi; omega)) (by omega) (by omega) (by rfl) ?_
     intro b6 c6 H6 rd wr hwr hrd v6 k6 o6
     rw [← List.map_append] at v6
     have g6 := k6.get (s5.get g4) (fun hi => by have := ow _ hi; omega)
     have gx6 := k6.get (s5.get gx4) (fun hi => by have := ow _ hi; omega)
     have n6 := k6.1
     have m5 := s5.1
     have hG6 : Holds GE H6 := by
      refine ⟨Nat.le_trans (hG4.same s5).1 n6, fun i o e => k6.get ((hG4.same s5).2 i o e) (fun hi => ?_)⟩
      obtain ⟨co, gco⟩ := S4.cells_of hi
      obtain ⟨c', rfl⟩ := GE_ro i o e
      rw [hG4.2 i _ e] at gco
      cases gco
     (refine Go.runL (g:=?_))
     refine GoL.st (g:=?_)
     refine GoL.end_ (hl := by (simp only [List.nil_append, List.cons_append]); repeat (first | exact loudP.nil | refine loudP.none ?_ | refine loudP.new (fun _ hb => absurd hb List.not_mem_nil) ?_ | refine loudP.row (by repeat (first | exact loudRowP.nil | refine loudRowP.none ?_ | refine loudRowP.bef (by decide +kernel) ?_ | refine loudRowP.apart (by first | exact .inl rfl | exact .inr (by simp)) rfl (by intro i hi; simp only [List.mem_singleton] at hi; subst hi; simp; omega) ?_)) ?_)) ?_
     (refine Go.run (g:=?_))
     refine Go.name ?_
     intro H7 e7
     have k7 : RdI H7 66 b rs (bad || ubad w16 xp || (dn ++ [x]).any (ubad w32)) := by
      rw [e7]
      have := (k4.same s5).keeps k6 (fun i hi => ow i hi) (by omega)
      rw [List.any_append, List.any_cons, List.any_nil, Bool.or_false, ← Bool.or_assoc]
      exact this.putO (by omega) _
     have g7 : H7.get bm = some (.cells (mvO hh ⟨1, 0, b6, c6, ads ++ [pv], pu, 0, false, 0, none, 0, [], bk⟩).cs 47) := by
      rw [e7, AHeap.get_put_same _ (AHeap.lt g6), show ads.length + 1 = (ads ++ [pv]).length from by simp]
      rfl
     have gx7 : H7.get h.n = some (bxC b) := by rw [e7, AHeap.get_put_ne _ _ (by omega)]; exact gx6
     have ow7 : Own (h.n + 1) b6 := fun i hi => (o6 i hi).elim (ow i) (fun e => by omega)
     have v7 : Sv H7 30 1 b6 (ads ++ [pv]).length c6 ((ads ++ [pv]).map u32v) := by rw [e7, List.length_append]; exact v6.put (fun hi => by have := ow7 _ hi; omega) _
     have n7 : H7.n = H6.n := by rw [e7]; rfl
     have hG7 : Holds GE H7 := by rw [e7]; exact hG6.putE g6 _
     clear e7
     refine Go.again (dn ++ [x], rs, ads ++ [pv], b6, c6, H7) ⟨by show (dn ++ [x]) ++ rs = l; rw [← hdl]; simp, by show (ads ++ [pv]).length = (dn ++ [x]).length; simp [hln], k7, g7, gx7, v7, ow7, by show h.n + 1 ≤ H7.n; omega, ?_, fun hf => ?_, hG7⟩ (by show rs.length < rs.length + 1; omega) ⟨rfl, rfl, trivial⟩ rfl rfl
     ·
      intro y hy
      rcases List.mem_append.1 hy with hy | hy
      · exact hb32 y hy
      ·
       obtain rfl := List.mem_singleton.1 hy
       show y < 4294967296; omega
     ·
      rw [List.any_append, List.any_cons, List.any_nil, Bool.or_false, Bool.or_eq_false_iff] at hf
      show ads ++ [pv] = (dn ++ [x]).map (upD w32)
      rw [List.map_append, ← hads hf.1, show pv = upD w32 x from up_w hv (lim := 4294967296) (by decide) pv3 hf.2]
      rfl
  have q0 := q
  clear q
  by_cases q : w = sendW
  case pos =>
   have z0 : decide (w = connW) = false := by rw [q]; decide
   have zz0 : decide (w = connW) = !true := z0
   have z1 : decide (w = sendW) = true := by rw [q]; decide
   have z2 : decide (w = closeW) = false := by rw [q]; decide
   have zz2 : decide (w = closeW) = !true := z2
   have z3 : decide (w = noteW) = false := by rw [q]; decide
   have zz3 : decide (w = noteW) = !true := z3
   clear hno9
   match r, hw, hw0, hl, k, k1 with
   | [], _, _, _, _, k1 =>
    obtain ⟨a1, c1, g1, R1, o1⟩ := id k1
    have hno : opP [w] = none := by rw [q]; rfl
    have hb : (decide (4 ≤ ([] : List W).length) && decide (([] : List W).length ≤ 5)) = false := rfl
    (refine Go.run (g:=?_))
    refine GoR.call rfl rfl rfl rfl rfl rfl rfl (((many1_spec h.n b 4 5 _ bad _ gx k1).argA).mono ?_)
    rintro _ H2 ⟨rfl, e2⟩ s3
    subst e2
    clear s3
    rw [hb]
    (refine Go.run (g:=?_))
    (first|refine Go.finA rfl ?_|refine Go.finB rfl (hq:=?_))
    exact ⟨2, ⟨0, 0, none, 0, [], 0, 0, false, 0, none, 0, [], bk⟩, rfl, gm, fun _ => rfl, fun q pm hq => by rw [hno] at hq; cases hq⟩
   | [a], _, _, _, _, k1 =>
    obtain ⟨a1, c1, g1, R1, o1⟩ := id k1
    have hno : opP [w, a] = none := by rw [q]; rfl
    have hb : (decide (4 ≤ ([a]).length) && decide (([a]).length ≤ 5)) = false := rfl
    (refine Go.run (g:=?_))
    refine GoR.call rfl rfl rfl rfl rfl rfl rfl (((many1_spec h.n b 4 5 _ bad _ gx k1).argA).mono ?_)
    rintro _ H2 ⟨rfl, e2⟩ s3
    subst e2
    clear s3
    rw [hb]
    (refine Go.run (g:=?_))
    (first|refine Go.finA rfl ?_|refine Go.finB rfl (hq:=?_))
    exact ⟨2, ⟨0, 0, none, 0, [], 0, 0, false, 0, none, 0, [], bk⟩, rfl, gm, fun _ => rfl, fun q pm hq => by rw [hno] at hq; cases hq⟩
   | [a, b'], _, _, _, _, k1 =>
    obtain ⟨a1, c1, g1, R1, o1⟩ := id k1
    have hno : opP [w, a, b'] = none := by rw [q]; rfl
    have hb : (decide (4 ≤ ([a, b']).length) && decide (([a, b']).length ≤ 5)) = false := rfl
    (refine Go.run (g:=?_))
    refine GoR.call rfl rfl rfl rfl rfl rfl rfl (((many1_spec h.n b 4 5 _ bad _ gx k1).argA).mono ?_)
    rintro _ H2 ⟨rfl, e2⟩ s3
    subst e2
    clear s3
    rw [hb]
    (refine Go.run (g:=?_))
    (first|refine Go.finA rfl ?_|refine Go.finB rfl (hq:=?_))
    exact ⟨2, ⟨0, 0, none, 0, [], 0, 0, false, 0, none, 0, [], bk⟩, rfl, gm, fun _ => rfl, fun q pm hq => by rw [hno] at hq; cases hq⟩
   | [a, b', c], _, _, _, _, k1 =>
    obtain ⟨a1, c1, g1, R1, o1⟩ := id k1
    have hno : opP [w, a, b', c] = none := by rw [q]; rfl
    have hb : (decide (4 ≤ ([a, b', c]).length) && decide (([a, b', c]).length ≤ 5)) = false := rfl
    (refine Go.run (g:=?_))
    refine GoR.call rfl rfl rfl rfl rfl rfl rfl (((many1_spec h.n b 4 5 _ bad _ gx k1).argA).mono ?_)
    rintro _ H2 ⟨rfl, e2⟩ s3
    subst e2
    clear s3
    rw [hb]
    (refine Go.run (g:=?_))
    (first|refine Go.finA rfl ?_|refine Go.finB rfl (hq:=?_))
    exact ⟨2, ⟨0, 0, none, 0, [], 0, 0, false, 0, none, 0, [], bk⟩, rfl, gm, fun _ => rfl, fun q pm hq => by rw [hno] at hq; cases hq⟩
   | a :: b' :: c :: d :: e :: f :: t, _, _, _, _, k1 =>
    obtain ⟨a1, c1, g1, R1, o1⟩ := id k1
    have hno : opP (w :: a :: b' :: c :: d :: e :: f :: t) = none := by rw [q]; rfl
    have hb : (decide (4 ≤ (a :: b' :: c :: d :: e :: f :: t).length) && decide ((a :: b' :: c :: d :: e :: f :: t).length ≤ 5)) = false := by simp
    (refine Go.run (g:=?_))
    refine GoR.call rfl rfl rfl rfl rfl rfl rfl (((many1_spec h.n b 4 5 _ bad _ gx k1).argA).mono ?_)
    rintro _ H2 ⟨rfl, e2⟩ s3
    subst e2
    clear s3
    rw [hb]
    (refine Go.run (g:=?_))
    (first|refine Go.finA rfl ?_|refine Go.finB rfl (hq:=?_))
    exact ⟨2, ⟨0, 0, none, 0, [], 0, 0, false, 0, none, 0, [], bk⟩, rfl, gm, fun _ => rfl, fun q pm hq => by rw [hno] at hq; cases hq⟩
   | [xa, xb, xc, xd], hw, hw0, hl, _, k1 =>
    have hxa := hw xa (by simp)
    have hxb := hw xb (by simp)
    have hxc := hw xc (by simp)
    have hxd := hw xd (by simp)
    have hyd := hw0 xd (by simp)
    have hop : opP [w, xa, xb, xc, xd] = some (nbad xa || ubad w16 xb || ubad w32 xc || hbad xd, { ok := 2, id := numD xa, sid := upD w16 xb, ppid := upD w32 xc, zs := hxD xd }) := by rw [q]; rfl
    obtain ⟨un, hun⟩ : ∃ u, u = false := ⟨_, rfl⟩
    obtain ⟨a1, c1, g1, R1, o1⟩ := id k1
    have hb : (decide (4 ≤ ([xa, xb, xc, xd]).length) && decide (([xa, xb, xc, xd]).length ≤ 5)) = true := rfl
    (refine Go.run (g:=?_))
    refine GoR.call rfl rfl rfl rfl rfl rfl rfl (((many1_spec h.n b 4 5 _ bad _ gx k1).argA).mono ?_)
    rintro _ H2 ⟨rfl, e2⟩ s3
    subst e2
    clear s3
    rw [hb]
    replace g1 : H2.get b = some (.cells [.slice a1 4 c1, .bool bad] 66) := g1
    obtain ⟨rr, hrr⟩ : ∃ r : List W, r = [] := ⟨_, rfl⟩
    rw [← hrr] at k1
    have hgx := gx
    unfold bxC at hgx
    refine Go.runN (g:=?_)
    clear hgx
    refine Go.name ?_
    intro H3 e3
    have k3 : RdI H3 66 b (xa :: xb :: xc :: xd :: rr) bad := by rw [e3]; exact k1.putO hbm _
    have g3 : H3.get bm = some (.cells (mvO hh ⟨0, 0, none, 0, [], 0, 0, un, 0, none, 0, [], bk⟩).cs 47) := by rw [e3, hun]; exact AHeap.get_put_same _ (AHeap.lt gm) _
    have gx3 : H3.get h.n = some (bxC b) := by rw [e3, AHeap.get_put_ne _ _ (by omega)]; exact gx
    have hG3 : Holds GE H3 := by rw [e3]; exact hG.putE gm _
    have n3 : H3.n = H2.n := by rw [e3]; rfl
    clear e3 g1 R1 gm gx hG k1
    have hgx := gx3
    unfold bxC at hgx
    have g3' := g3
    dsimp only [OpV.cs, MvV.cs, mvO] at g3'
    refine Go.loud (by kernel_rfl) rfl ?_
    (refine Go.runL (g:=?_))
    refine GoL.call rfl rfl rfl rfl rfl rfl rfl (((int_spec b xa (xb :: xc :: xd :: rr) bad (by omega) _ hG3 k3).argA).mono ?_)
    rintro _ H4 ⟨n, rfl, m0, m1, hn, k4⟩ kp4
    refine ⟨fun i hi => .inl (by simp at hi; simp [hi]), ?_⟩
    have hG4 := k3.holds hG3 kp4
    have g4 := kput kp4 g3' (by simp; omega)
    have gx4 := kput kp4 hgx (by simp; omega)
    have n4 := kp4.1
    clear g3 g3' hgx gx3 kp4
    (refine Go.runL (g:=?_))
    refine GoL.call rfl rfl rfl rfl rfl rfl rfl (((up_spec w16 (by decide) (by decide) b xb (xc :: xd :: rr) _ (by omega) _ hG4 k4).argA).mono ?_)
    rintro _ H5 ⟨u, rfl, -, -, hu, k5⟩ kp5
    refine ⟨fun i hi => .inl (by simp at hi; simp [hi]), ?_⟩
    obtain ⟨pu, pu1, pu2, pu3⟩ := wU16 u
    have hG5 := k4.holds hG4 kp5
    have g5 := kput kp5 g4 (by simp; omega)
    have gx5 := kput kp5 gx4 (by simp; omega)
    have n5 := kp5.1
    clear g4 gx4 kp5 k4
    (refine Go.runL (g:=?_))
    refine GoL.convE (pu : Int) rfl rfl rfl rfl rfl pu1 ?_
    (refine Go.runL (g:=?_))
    refine GoL.call rfl rfl rfl rfl rfl rfl rfl (((up_spec w32 (by decide) (by decide) b xc (xd :: rr) _ (by omega) _ hG5 k5).argA).mono ?_)
    rintro _ H6 ⟨v, rfl, -, -, hv, k6⟩ kp6
    refine ⟨fun i hi => .inl (by simp at hi; simp [hi]), ?_⟩
    obtain ⟨pv, pv1, pv2, pv3⟩ := wU32 v
    have hG6 := k5.holds hG5 kp6
    have g6 := kput kp6 g5 (by simp; omega)
    have gx6 := kput kp6 gx5 (by simp; omega)
    have n6 := kp6.1
    clear g5 gx5 kp6 k5
    (refine Go.runL (g:=?_))
    refine GoL.convE (pv : Int) rfl rfl rfl rfl rfl pv1 ?_
    (refine Go.runL (g:=?_))
    refine GoL.st (g:=?_)
    (refine Go.runL (g:=?_))
    refine GoL.st (g:=?_)
    (refine Go.runL (g:=?_))
    refine GoL.st (g:=?_)
    (refine Go.runL (g:=?_))
    refine GoL.st (g:=?_)
    refine GoL.end_ (hl := by (simp only [List.nil_append, List.cons_append]); repeat (first | exact loudP.nil | refine loudP.none ?_ | refine loudP.new (fun _ hb => absurd hb List.not_mem_nil) ?_ | refine loudP.row (by repeat (first | exact loudRowP.nil | refine loudRowP.none ?_ | refine loudRowP.bef (by decide +kernel) ?_ | refine loudRowP.apart (by first | exact .inl rfl | exact .inr (by simp)) rfl (by intro i hi; simp only [List.mem_singleton] at hi; subst hi; simp; omega) ?_)) ?_)) ?_
    refine Go.name ?_
    intro H7 e7
    have k7 : RdI H7 66 b (xd :: rr) (bad || nbad xa || ubad w16 xb || ubad w32 xc) := by rw [e7]; exact (((k6.putO hbm _).putO hbm _).putO hbm _).putO hbm _
    have g7 : H7.get bm = some (.cells (mvO hh ⟨2, n, none, 0, [], 0, pu, un, pv, none, 0, [], bk⟩).cs 47) := by rw [e7]; exact AHeap.get_put_same _ (by simp only [AHeap.n_put]; exact AHeap.lt g6) _
    have gx7 : H7.get h.n = some (bxC b) := by rw [e7, AHeap.get_put_ne _ _ (by omega), AHeap.get_put_ne _ _ (by omega), AHeap.get_put_ne _ _ (by omega), AHeap.get_put_ne _ _ (by omega)]; exact gx6
    have hG7 : Holds GE H7 := by rw [e7]; exact (((hG6.putE g6 _).putE (AHeap.get_put_same _ (AHeap.lt g6) _) _).putE (AHeap.get_put_same _ (by simp only [AHeap.n_put]; exact AHeap.lt g6) _) _).putE (AHeap.get_put_same _ (by simp only [AHeap.n_put]; exact AHeap.lt g6) _) _
    have n7 : H7.n = H6.n := by rw [e7]; rfl
    clear e7 g6 gx6 k6
    unfold bxC at gx7
    (refine Go.run (g:=?_))
    refine GoR.callW rfl rfl rfl rfl rfl rfl rfl (((bytes_spec b xd rr _ (by omega) hyd _ hG7 k7).argA).mono ?_)
    rintro _ H8 ⟨ba, bc, zs, rfl, S8, ow8, zl, hz, k8⟩ kp8
    refine ⟨fun i hi => .inl (by simp at hi; simp [hi]), ?_⟩
    have g8 := kput kp8 g7 (by simp; omega)
    have gx8 := kput kp8 gx7 (by simp; omega)
    have n8 := kp8.1
    dsimp only [OpV.cs, MvV.cs, mvO] at g8
    obtain ⟨a8, c8, gb8, R8, o8⟩ := id k8
    clear kp8 g7 gx7 k7
    (refine Go.run (g:=?_))
    (first|refine Go.finA rfl ?_|refine Go.finB rfl (hq:=?_))
    refine ⟨0, ⟨2, n, none, 0, [], 0, pu, un, pv, ba, bc, zs, bk⟩, rfl, ?_, fun hno => ?_, fun q pm hq => ?_⟩
    · rw [AHeap.get_put_ne _ _ (by omega)]; exact AHeap.get_put_same _ (AHeap.lt g8) _
    · rw [hop] at hno; cases hno
    rw [hop] at hq
    injection hq with hq
    injection hq with hq1 hq2
    subst hq1 hq2
    refine ⟨rfl, ⟨[], none, 0, ?_, .nil, fun i hi => by simp [blk] at hi⟩, fun hb => ?_, ⟨(by show 2 < 256; decide), m0, m1, .nil, (fun x hx => by cases hx), (by show 0 ≤ 2000000; decide), (by show 0 < 65536; decide), (by show pu < 65536; omega), (by show pv < 4294967296; omega), ?_, (by show zs.length ≤ 2000000; omega)⟩, rfl, Own.nil _, fun i hi => by have := ow8 i hi; omega⟩
    ·
     rw [show (bad || (nbad xa || ubad w16 xb || ubad w32 xc || hbad xd)) = (bad || nbad xa || ubad w16 xb || ubad w32 xc || hbad xd) from by simp only [Bool.or_assoc]]
     exact AHeap.get_put_same _ (by simp only [AHeap.n_put]; exact AHeap.lt gb8) _
    ·
     simp only [Bool.or_eq_false_iff] at hb
     obtain ⟨⟨⟨b1, b2⟩, b3⟩, b4⟩ := hb
     show OpV.pm _ = _
     rw [num_get hn b1, hx_get hz b4, show pu = upD w16 xb from up_w hu (lim := 65536) (by decide) pu3 b2, show pv = upD w32 xc from up_w hv (lim := 4294967296) (by decide) pv3 b3, hun]
     rfl
    · exact (S8.rv.put (fun hi => by have := ow8 _ hi; omega) _).put (fun hi => by have := ow8 _ hi; omega) _
   | [xa, xb, xc, xd, xe], hw, hw0, hl, _, k1 =>
    have hxa := hw xa (by simp)
    have hxb := hw xb (by simp)
    have hxc := hw xc (by simp)
    have hxd := hw xd (by simp)
    have hyd := hw0 xd (by simp)
    obtain ⟨un, hun⟩ : ∃ u, u = true := ⟨_, rfl⟩
    obtain ⟨a1, c1, g1, R1, o1⟩ := id k1
    have hb : (decide (4 ≤ ([xa, xb, xc, xd, xe]).length) && decide (([xa, xb, xc, xd, xe]).length ≤ 5)) = true := rfl
    (refine Go.run (g:=?_))
    refine GoR.call rfl rfl rfl rfl rfl rfl rfl (((many1_spec h.n b 4 5 _ bad _ gx k1).argA).mono ?_)
    rintro _ H2 ⟨rfl, e2⟩ s3
    subst e2
    clear s3
    rw [hb]
    replace g1 : H2.get b = some (.cells [.slice a1 5 c1, .bool bad] 66) := g1
    obtain ⟨rr, hrr⟩ : ∃ r : List W, r = [xe] := ⟨_, rfl⟩
    rw [← hrr] at k1
    have hgx := gx
    unfold bxC at hgx
    replace R1 : Rv Tryd.prog H2 1 a1 5 c1 [stv xa, stv xb, stv xc, stv xd, stv xe] := R1
    refine Go.runN (g:=?_)
    clear hgx
    refine GoR.name ?_
    intro H3 e3
    have k3 : RdI H3 66 b (xa :: xb :: xc :: xd :: rr) bad := by rw [e3]; exact k1.putO hbm _
    have g3 : H3.get bm = some (.cells (mvO hh ⟨0, 0, none, 0, [], 0, 0, un, 0, none, 0, [], bk⟩).cs 47) := by rw [e3, hun]; exact AHeap.get_put_same _ (AHeap.lt gm) _
    have gx3 : H3.get h.n = some (bxC b) := by rw [e3, AHeap.get_put_ne _ _ (by omega)]; exact gx
    have hG3 : Holds GE H3 := by rw [e3]; exact hG.putE gm _
    have n3 : H3.n = H2.n := by rw [e3]; rfl
    have R3 : Rv Tryd.prog H3 1 a1 5 c1 [stv xa, stv xb, stv xc, stv xd, stv xe] := by rw [e3]; exact R1.putR (fun i hi => by have := o1 i hi; omega) _
    clear e3 g1 R1 gm gx hG k1
    have hgx := gx3
    unfold bxC at hgx
    have g3' := g3
    dsimp only [OpV.cs, MvV.cs, mvO] at g3'
    by_cases qe : xe = unordW
    case neg =>
     have ze : (!decide (xe = unordW)) = true := by rw [decide_eq_false qe]; rfl
     have hno : opP [w, xa, xb, xc, xd, xe] = none := by rw [q]; simp only [opP]; rw [if_neg (by decide), if_pos trivial, if_neg qe]
     (refine Go.run (g:=?_))
     (first|refine Go.finA rfl ?_|refine Go.finB rfl (hq:=?_))
     exact ⟨2, ⟨0, 0, none, 0, [], 0, 0, un, 0, none, 0, [], bk⟩, rfl, g3, fun _ => rfl, fun q pm hq => by rw [hno] at hq; cases hq⟩
    have ze : (!decide (xe = unordW)) = false := by rw [decide_eq_true qe]; rfl
    have hop : opP [w, xa, xb, xc, xd, xe] = some (nbad xa || ubad w16 xb || ubad w32 xc || hbad xd, { ok := 2, id := numD xa, sid := upD w16 xb, un := true, ppid := upD w32 xc, zs := hxD xd }) := by rw [q, qe]; rfl
    refine Go.runN (g:=?_)
    clear R3
    refine Go.loud (by kernel_rfl) rfl ?_
    (refine Go.runL (g:=?_))
    refine GoL.call rfl rfl rfl rfl rfl rfl rfl (((int_spec b xa (xb :: xc :: xd :: rr) bad (by omega) _ hG3 k3).argA).mono ?_)
    rintro _ H4 ⟨n, rfl, m0, m1, hn, k4⟩ kp4
    refine ⟨fun i hi => .inl (by simp at hi; simp [hi]), ?_⟩
    have hG4 := k3.holds hG3 kp4
    have g4 := kput kp4 g3' (by simp; omega)
    have gx4 := kput kp4 hgx (by simp; omega)
    have n4 := kp4.1
    clear g3 g3' hgx gx3 kp4
    (refine Go.runL (g:=?_))
    refine GoL.call rfl rfl rfl rfl rfl rfl rfl (((up_spec w16 (by decide) (by decide) b xb (xc :: xd :: rr) _ (by omega) _ hG4 k4).argA).mono ?_)
    rintro _ H5 ⟨u, rfl, -, -, hu, k5⟩ kp5
    refine ⟨fun i hi => .inl (by simp at hi; simp [hi]), ?_⟩
    obtain ⟨pu, pu1, pu2, pu3⟩ := wU16 u
    have hG5 := k4.holds hG4 kp5
    have g5 := kput kp5 g4 (by simp; omega)
    have gx5 := kput kp5 gx4 (by simp; omega)
    have n5 := kp5.1
    clear g4 gx4 kp5 k4
    (refine Go.runL (g:=?_))
    refine GoL.convE (pu : Int) rfl rfl rfl rfl rfl pu1 ?_
    (refine Go.runL (g:=?_))
    refine GoL.call rfl rfl rfl rfl rfl rfl rfl (((up_spec w32 (by decide) (by decide) b xc (xd :: rr) _ (by omega) _ hG5 k5).argA).mono ?_)
    rintro _ H6 ⟨v, rfl, -, -, hv, k6⟩ kp6
    refine ⟨fun i hi => .inl (by simp at hi; simp [hi]), ?_⟩
    obtain ⟨pv, pv1, pv2, pv3⟩ := wU32 v
    have hG6 := k5.holds hG5 kp6
    have g6 := kput kp6 g5 (by simp; omega)
    have gx6 := kput kp6 gx5 (by simp; omega)
    have n6 := kp6.1
    clear g5 gx5 kp6 k5
    (refine Go.runL (g:=?_))
    refine GoL.convE (pv : Int) rfl rfl rfl rfl rfl pv1 ?_
    (refine Go.runL (g:=?_))
    refine GoL.st (g:=?_)
    (refine Go.runL (g:=?_))
    refine GoL.st (g:=?_)
    (refine Go.runL (g:=?_))
    refine GoL.st (g:=?_)
    (refine Go.runL (g:=?_))
    refine GoL.st (g:=?_)
    refine GoL.end_ (hl := by (simp only [List.nil_append, List.cons_append]); repeat (first | exact loudP.nil | refine loudP.none ?_ | refine loudP.new (fun _ hb => absurd hb List.not_mem_nil) ?_ | refine loudP.row (by repeat (first | exact loudRowP.nil | refine loudRowP.none ?_ | refine loudRowP.bef (by decide +kernel) ?_ | refine loudRowP.apart (by first | exact .inl rfl | exact .inr (by simp)) rfl (by intro i hi; simp only [List.mem_singleton] at hi; subst hi; simp; omega) ?_)) ?_)) ?_
    refine Go.name ?_
    intro H7 e7
    have k7 : RdI H7 66 b (xd :: rr) (bad || nbad xa || ubad w16 xb || ubad w32 xc) := by rw [e7]; exact (((k6.putO hbm _).putO hbm _).putO hbm _).putO hbm _
    have g7 : H7.get bm = some (.cells (mvO hh ⟨2, n, none, 0, [], 0, pu, un, pv, none, 0, [], bk⟩).cs 47) := by rw [e7]; exact AHeap.get_put_same _ (by simp only [AHeap.n_put]; exact AHeap.lt g6) _
    have gx7 : H7.get h.n = some (bxC b) := by rw [e7, AHeap.get_put_ne _ _ (by omega), AHeap.get_put_ne _ _ (by omega), AHeap.get_put_ne _ _ (by omega), AHeap.get_put_ne _ _ (by omega)]; exact gx6
    have hG7 : Holds GE H7 := by rw [e7]; exact (((hG6.putE g6 _).putE (AHeap.get_put_same _ (AHeap.lt g6) _) _).putE (AHeap.get_put_same _ (by simp only [AHeap.n_put]; exact AHeap.lt g6) _) _).putE (AHeap.get_put_same _ (by simp only [AHeap.n_put]; exact AHeap.lt g6) _) _
    have n7 : H7.n = H6.n := by rw [e7]; rfl
    clear e7 g6 gx6 k6
    unfold bxC at gx7
    (refine Go.run (g:=?_))
    refine GoR.callW rfl rfl rfl rfl rfl rfl rfl (((bytes_spec b xd rr _ (by omega) hyd _ hG7 k7).argA).mono ?_)
    rintro _ H8 ⟨ba, bc, zs, rfl, S8, ow8, zl, hz, k8⟩ kp8
    refine ⟨fun i hi => .inl (by simp at hi; simp [hi]), ?_⟩
    have g8 := kput kp8 g7 (by simp; omega)
    have gx8 := kput kp8 gx7 (by simp; omega)
    have n8 := kp8.1
    dsimp only [OpV.cs, MvV.cs, mvO] at g8
    obtain ⟨a8, c8, gb8, R8, o8⟩ := id k8
    clear kp8 g7 gx7 k7
    (refine Go.run (g:=?_))
    (first|refine Go.finA rfl ?_|refine Go.finB rfl (hq:=?_))
    refine ⟨0, ⟨2, n, none, 0, [], 0, pu, un, pv, ba, bc, zs, bk⟩, rfl, ?_, fun hno => ?_, fun q pm hq => ?_⟩
    · rw [AHeap.get_put_ne _ _ (by omega)]; exact AHeap.get_put_same _ (AHeap.lt g8) _
    · rw [hop] at hno; cases hno
    rw [hop] at hq
    injection hq with hq
    injection hq with hq1 hq2
    subst hq1 hq2
    refine ⟨rfl, ⟨[], none, 0, ?_, .nil, fun i hi => by simp [blk] at hi⟩, fun hb => ?_, ⟨(by show 2 < 256; decide), m0, m1, .nil, (fun x hx => by cases hx), (by show 0 ≤ 2000000; decide), (by show 0 < 65536; decide), (by show pu < 65536; omega), (by show pv < 4294967296; omega), ?_, (by show zs.length ≤ 2000000; omega)⟩, rfl, Own.nil _, fun i hi => by have := ow8 i hi; omega⟩
    ·
     rw [show (bad || (nbad xa || ubad w16 xb || ubad w32 xc || hbad xd)) = (bad || nbad xa || ubad w16 xb || ubad w32 xc || hbad xd) from by simp only [Bool.or_assoc]]
     exact AHeap.get_put_same _ (by simp only [AHeap.n_put]; exact AHeap.lt gb8) _
    ·
     simp only [Bool.or_eq_false_iff] at hb
     obtain ⟨⟨⟨b1, b2⟩, b3⟩, b4⟩ := hb
     show OpV.pm _ = _
     rw [num_get hn b1, hx_get hz b4, show pu = upD w16 xb from up_w hu (lim := 65536) (by decide) pu3 b2, show pv = upD w32 xc from up_w hv (lim := 4294967296) (by decide) pv3 b3, hun]
     rfl
    · exact (S8.rv.put (fun hi => by have := ow8 _ hi; omega) _).put (fun hi => by have := ow8 _ hi; omega) _
  have q1 := q
  clear q
  by_cases q : w = closeW
  case pos =>
   have z0 : decide (w = connW) = false := by rw [q]; decide
   have zz0 : decide (w = connW) = !true := z0
   have z1 : decide (w = sendW) = false := by rw [q]; decide
   have zz1 : decide (w = sendW) = !true := z1
   have z2 : decide (w = closeW) = true := by rw [q]; decide
   have z3 : decide (w = noteW) = false := by rw [q]; decide
   have zz3 : decide (w = noteW) = !true := z3
   clear hno9
   match r, hw, hw0, hl, k, k1 with
   | x :: t, _, _, _, _, k1 =>
    obtain ⟨a1, c1, g1, R1, o1⟩ := id k1
    have hno : opP (w :: x :: t) = none := by rw [q]; rfl
    have hb : (decide (0 ≤ (x :: t).length) && decide ((x :: t).length ≤ 0)) = false := by simp
    (refine Go.run (g:=?_))
    refine GoR.call rfl rfl rfl rfl rfl rfl rfl (((many1_spec h.n b 0 0 _ bad _ gx k1).argA).mono ?_)
    rintro _ H2 ⟨rfl, e2⟩ s3
    subst e2
    clear s3
    rw [hb]
    (refine Go.run (g:=?_))
    (first|refine Go.finA rfl ?_|refine Go.finB rfl (hq:=?_))
    exact ⟨2, ⟨0, 0, none, 0, [], 0, 0, false, 0, none, 0, [], bk⟩, rfl, gm, fun _ => rfl, fun q pm hq => by rw [hno] at hq; cases hq⟩
   | [], hw, hw0, hl, _, k1 =>
    have hop : opP [w] = some (false, { ok := 7 }) := by rw [q]; rfl
    obtain ⟨a1, c1, g1, R1, o1⟩ := id k1
    have hb : (decide (0 ≤ ([] : List W).length) && decide (([] : List W).length ≤ 0)) = true := rfl
    (refine Go.run (g:=?_))
    refine GoR.call rfl rfl rfl rfl rfl rfl rfl (((many1_spec h.n b 0 0 _ bad _ gx k1).argA).mono ?_)
    rintro _ H2 ⟨rfl, e2⟩ s3
    subst e2
    clear s3
    rw [hb]
    (refine Go.run (g:=?_))
    (first|refine Go.finA rfl ?_|refine Go.finB rfl (hq:=?_))
    refine ⟨0, ⟨7, 0, none, 0, [], 0, 0, false, 0, none, 0, [], bk⟩, rfl, ?_, fun hno => ?_, fun q pm hq => ?_⟩
    · exact AHeap.get_put_same _ (AHeap.lt gm) _
    · rw [hop] at hno; cases hno
    rw [hop] at hq
    injection hq with hq
    injection hq with hq1 hq2
    subst hq1 hq2
    exact ⟨rfl, ⟨[], by rw [Bool.or_false]; exact k1.putO hbm _⟩, fun _ => rfl, ⟨(by show 7 < 256; decide), (by show -9223372036854775808 ≤ (0 : Int); decide), (by show (0 : Int) < 9223372036854775808; decide), .nil, (fun x hx => by cases hx), (by show 0 ≤ 2000000; decide), (by show 0 < 65536; decide), (by show 0 < 65536; decide), (by show 0 < 4294967296; decide), .nil, (by show 0 ≤ 2000000; decide)⟩, rfl, Own.nil _, Own.nil _⟩
  have q2 := q
  clear q
  by_cases q : w = noteW
  case pos =>
   have z0 : decide (w = connW) = false := by rw [q]; decide
   have zz0 : decide (w = connW) = !true := z0
   have z1 : decide (w = sendW) = false := by rw [q]; decide
   have zz1 : decide (w = sendW) = !true := z1
   have z2 : decide (w = closeW) = false := by rw [q]; decide
   have zz2 : decide (w = closeW) = !true := z2
   have z3 : decide (w = noteW) = true := by rw [q]; decide
   clear hno9
   match r, hw, hw0, hl, k, k1 with
   | x :: t, _, _, _, _, k1 =>
    obtain ⟨a1, c1, g1, R1, o1⟩ := id k1
    have hno : opP (w :: x :: t) = none := by rw [q]; rfl
    have hb : (decide (0 ≤ (x :: t).length) && decide ((x :: t).length ≤ 0)) = false := by simp
    (refine Go.run (g:=?_))
    refine GoR.call rfl rfl rfl rfl rfl rfl rfl (((many1_spec h.n b 0 0 _ bad _ gx k1).argA).mono ?_)
    rintro _ H2 ⟨rfl, e2⟩ s3
    subst e2
    clear s3
    rw [hb]
    (refine Go.run (g:=?_))
    (first|refine Go.finA rfl ?_|refine Go.finB rfl (hq:=?_))
    exact ⟨2, ⟨0, 0, none, 0, [], 0, 0, false, 0, none, 0, [], bk⟩, rfl, gm, fun _ => rfl, fun q pm hq => by rw [hno] at hq; cases hq⟩
   | [], hw, hw0, hl, _, k1 =>
    have hop : opP [w] = some (false, { ok := 8 }) := by rw [q]; rfl
    obtain ⟨a1, c1, g1, R1, o1⟩ := id k1
    have hb : (decide (0 ≤ ([] : List W).length) && decide (([] : List W).length ≤ 0)) = true := rfl
    (refine Go.run (g:=?_))
    refine GoR.call rfl rfl rfl rfl rfl rfl rfl (((many1_spec h.n b 0 0 _ bad _ gx k1).argA).mono ?_)
    rintro _ H2 ⟨rfl, e2⟩ s3
    subst e2
    clear s3
    rw [hb]
    (refine Go.run (g:=?_))
    (first|refine Go.finA rfl ?_|refine Go.finB rfl (hq:=?_))
    refine ⟨0, ⟨8, 0, none, 0, [], 0, 0, false, 0, none, 0, [], bk⟩, rfl, ?_, fun hno => ?_, fun q pm hq => ?_⟩
    · exact AHeap.get_put_same _ (AHeap.lt gm) _
    · rw [hop] at hno; cases hno
    rw [hop] at hq
    injection hq with hq
    injection hq with hq1 hq2
    subst hq1 hq2
    exact ⟨rfl, ⟨[], by rw [Bool.or_false]; exact k1.putO hbm _⟩, fun _ => rfl, ⟨(by show 8 < 256; decide), (by show -9223372036854775808 ≤ (0 : Int); decide), (by show (0 : Int) < 9223372036854775808; decide), .nil, (fun x hx => by cases hx), (by show 0 ≤ 2000000; decide), (by show 0 < 65536; decide), (by show 0 < 65536; decide), (by show 0 < 4294967296; decide), .nil, (by show 0 ≤ 2000000; decide)⟩, rfl, Own.nil _, Own.nil _⟩
  have q3 := q
  clear q
  have z0 : decide (w = connW) = false := decide_eq_false q0
  have zz0 : decide (w = connW) = !true := z0
  have z1 : decide (w = sendW) = false := decide_eq_false q1
  have zz1 : decide (w = sendW) = !true := z1
  have z2 : decide (w = closeW) = false := decide_eq_false q2
  have zz2 : decide (w = closeW) = !true := z2
  have z3 : decide (w = noteW) = false := decide_eq_false q3
  have zz3 : decide (w = noteW) = !true := z3
  by_cases q : w = recvW
  case pos =>
   have hno : opP (w :: r) = none := by
    have h1 := hno9 3 (by decide) q.symm
    match r, h1 with
    | [], _ => rw [q]; rfl
    | [x], h1 => exact absurd rfl h1
    | x :: y :: t, _ => rw [q]; rfl
   obtain ⟨a1, c1, g1, R1, o1⟩ := id k1
   (refine Go.run (g:=?_))
   (first|refine Go.finA rfl ?_|refine Go.finB rfl (hq:=?_))
   exact ⟨2, ⟨0, 0, none, 0, [], 0, 0, false, 0, none, 0, [], bk⟩, rfl, gm, fun _ => rfl, fun q pm hq => by rw [hno] at hq; cases hq⟩
  have p3 := q
  clear q
  by_cases q : w = shutW
  case pos =>
   have hno : opP (w :: r) = none := by
    have h1 := hno9 4 (by decide) q.symm
    match r, h1 with
    | [], _ => rw [q]; rfl
    | [x], h1 => exact absurd rfl h1
    | x :: y :: t, _ => rw [q]; rfl
   obtain ⟨a1, c1, g1, R1, o1⟩ := id k1
   (refine Go.run (g:=?_))
   (first|refine Go.finA rfl ?_|refine Go.finB rfl (hq:=?_))
   exact ⟨2, ⟨0, 0, none, 0, [], 0, 0, false, 0, none, 0, [], bk⟩, rfl, gm, fun _ => rfl, fun q pm hq => by rw [hno] at hq; cases hq⟩
  have p4 := q
  clear q
  by_cases q : w = abortW
  case pos =>
   have hno : opP (w :: r) = none := by
    have h1 := hno9 5 (by decide) q.symm
    match r, h1 with
    | [], _ => rw [q]; rfl
    | [x], h1 => exact absurd rfl h1
    | x :: y :: t, _ => rw [q]; rfl
   obtain ⟨a1, c1, g1, R1, o1⟩ := id k1
   (refine Go.run (g:=?_))
   (first|refine Go.finA rfl ?_|refine Go.finB rfl (hq:=?_))
   exact ⟨2, ⟨0, 0, none, 0, [], 0, 0, false, 0, none, 0, [], bk⟩, rfl, gm, fun _ => rfl, fun q pm hq => by rw [hno] at hq; cases hq⟩
  have p5 := q
  clear q
  by_cases q : w = peelW
  case pos =>
   have hno : opP (w :: r) = none := by
    have h1 := hno9 6 (by decide) q.symm
    match r, h1 with
    | [], _ => rw [q]; rfl
    | [x], h1 => exact absurd rfl h1
    | x :: y :: t, _ => rw [q]; rfl
   obtain ⟨a1, c1, g1, R1, o1⟩ := id k1
   (refine Go.run (g:=?_))
   (first|refine Go.finA rfl ?_|refine Go.finB rfl (hq:=?_))
   exact ⟨2, ⟨0, 0, none, 0, [], 0, 0, false, 0, none, 0, [], bk⟩, rfl, gm, fun _ => rfl, fun q pm hq => by rw [hno] at hq; cases hq⟩
  have p6 := q
  clear q
  have hno : opP (w :: r) = none := by unfold opP; dsimp only; rw [if_neg q0, if_neg q1, if_neg p3, if_neg p4, if_neg p5, if_neg p6, if_neg q2, if_neg q3]
  obtain ⟨a1, c1, g1, R1, o1⟩ := id k1
  (refine Go.run (g:=?_))
  (first|refine Go.finA rfl ?_|refine Go.finB rfl (hq:=?_))
  exact ⟨2, ⟨0, 0, none, 0, [], 0, 0, false, 0, none, 0, [], bk⟩, rfl, gm, fun _ => rfl, fun q pm hq => by rw [hno] at hq; cases hq⟩
end Go.Proofs.YtncbbeghkpjpbaaDoor
namespace Go.Proofs.YtncbbeghkpjpbaaDoor
open Go.RowKit
set_option maxRecDepth 100000
attribute [local irreducible] Go GoR GoL
theorem kind_k (w : W) : ((kindP w).1 = 0 ∧ (kindP w).2 = 0) ∨ (0 < (kindP w).1 ∧ (kindP w).1 < 256 ∧ ((kindP w).2 = 1 ∨ (kindP w).2 = 2)) := by
 unfold kindP
 repeat' split
 all_goals first | exact .inl ⟨rfl, rfl⟩ | exact .inr ⟨by decide, by decide, .inl rfl⟩ | exact .inr ⟨by decide, by decide, .inr rfl⟩
abbrev mvZ : MvV := ⟨0, 0, 0, 0, opZ, 0, 0, none, 0, []⟩
def MvPost (n0 : Nat) (ws : List W) (v : Value) (h' : AHeap) : Prop := ∃ m : MvV, v = .tuple #[m.v, .int .i64 (lineE ws : Nat)] ∧ ∀ pm, lineQ ws = some (false, pm) → m.pm = pm ∧ MvOk h' m ∧ Own n0 m.o.aa ∧ Own n0 m.o.da ∧ Own n0 m.ba
theorem opOkZ (h : AHeap) : OpOk' h opZ := ⟨by decide, by decide, by decide, .nil, (fun x hx => by cases hx), by decide, by decide, by decide, by decide, .nil, by decide⟩
theorem OpOk'.put' {h : AHeap} {o : OpV} {n : Nat} (x : OpOk' h o) (ha : n ∉ blk o.aa) (hd : n ∉ blk o.da) (ob : Option AObj) : OpOk' (h.put n ob) o := ⟨x.k, x.id0, x.id1, x.A.put ha _, x.ab, x.al, x.port, x.sid, x.ppid, x.D.put hd _, x.zl⟩
theorem OpOk'.of_get {h h' : AHeap} {o : OpV} (x : OpOk' h o) (ha : ∀ i ∈ blk o.aa, h'.get i = h.get i) (hd : ∀ i ∈ blk o.da, h'.get i = h.get i) : OpOk' h' o := ⟨x.k, x.id0, x.id1, x.A.keep ha, x.ab, x.al, x.port, x.sid, x.ppid, x.D.keep hd, x.zl⟩
theorem OpOk'.blk' {h : AHeap} {o : OpV} (x : OpOk' h o) (b : Bool) : OpOk' h { o with blk := b } := ⟨x.k, x.id0, x.id1, x.A, x.ab, x.al, x.port, x.sid, x.ppid, x.D, x.zl⟩
theorem mvOkK (h : AHeap) {K : Nat} {n n' : Int} (hK : K < 256) (m0 : -9223372036854775808 ≤ n) (m1 : n < 9223372036854775808) (m0' : -9223372036854775808 ≤ n') (m1' : n' < 9223372036854775808) : MvOk h ⟨K, 0, n, n', opZ, 0, 0, none, 0, []⟩ := ⟨hK, (show 0 < 256 by decide), m0, m1, m0', m1', opOkZ h, (show 0 < 4294967296 by decide), (show 0 < 4294967296 by decide), .nil, (show 0 ≤ 2000000 by decide)⟩
set_option maxHeartbeats 32000000 in
theorem one_spec (a : Option Addr) (cap : Nat) (w : W) (r : List W) (hw : ∀ x ∈ w :: r, x.length ≤ 1000000) (hl : r.length ≤ 800000) (h : AHeap) (hR : Rv Tryd.prog h 1 a (w :: r).length cap ((w :: r).map stv)) : CallS Tryd.prog [] 18 [.slice a (w :: r).length cap] h (MvPost h.n (w :: r)) := by
 have e1 : (1 : Int) = 1 := rfl
 have e32 : w32 = 4294967295 := rfl
 (refine CallS.of1 Tryd.func18 rfl Tryd.ntmps18 Tryd.results18 rfl ?_)
 (refine Go.run (g:=?_))
 refine GoR.name ?_
 intro H0 e0
 have s0 : Same h H0 := by rw [e0]; exact ((((Same.refl h).push _).push _).push _).put (by show h.n ≤ h.n + 1 + 1; omega) _
 have k0 : RdI H0 78 (h.n + 1) (w :: r) false := ⟨a, cap, by rw [e0, AHeap.get_put_ne _ _ (by simp only [AHeap.n_push]; omega), AHeap.get_push_ne _ _ (by simp)]; exact AHeap.get_push_same _ _, hR.same s0, fun i hi => by have := hR.lt i hi; omega⟩
 have g0 : H0.get (h.n + 2) = some (.cells mvZ.cs 47) := by rw [e0]; exact AHeap.get_put_same _ (by show h.n + 2 < h.n + 1 + 1 + 1; omega) _
 have gr : H0.get h.n = some (.cells mvZ.cs 47) := by rw [e0, AHeap.get_put_ne _ _ (by simp only [AHeap.n_push]; omega), AHeap.get_push_ne _ _ (by simp only [AHeap.n_push]; omega), AHeap.get_push_ne _ _ (by simp), AHeap.get_push_same]; rfl
 have n0 : H0.n = h.n + 3 := by rw [e0]; rfl
 clear e0
 simp only [AHeap.n_push, AHeap.n_put]
 refine GoR.callW rfl rfl rfl rfl rfl rfl rfl (((take_spec (h.n + 1) w r false _ k0).argA).mono ?_)
 rintro _ H1 ⟨rfl, k1⟩ kp1
 refine ⟨fun i hi => .inr (by simp at hi; omega), ?_⟩
 replace g0 := kput kp1 g0 (by simp)
 replace gr := kput kp1 gr (by simp)
 have n1 := kp1.1
 (refine Go.run (g:=?_))
 refine GoR.call rfl rfl rfl rfl rfl rfl rfl (((kind_spec w _).argA).mono ?_)
 rintro _ H2 ⟨rfl, e2⟩ s2
 subst e2
 clear s2
 rcases kind_k w with ⟨z1, z2⟩ | ⟨p0, p1, hn⟩
 case inr =>
  generalize hK : (kindP w).1 = K at *
  rcases hn with hn | hn
  ·
   rw [hn]
   match r, hw, hl, hR, k0, k1 with
   | [], _, _, _, _, k1 =>
    obtain ⟨a1, c1, g1, R1, o1⟩ := k1
    have hno : lineQ [w] = none := by simp only [lineQ]; rw [hK, hn, if_pos (by omega)]; rfl
    (refine Go.run (g:=?_))
    (refine Go.fin (by first|exact .inr rfl|exact .inl rfl) (.cellN rfl inferInstance hg_ (by first | exact Nat.le_refl _ | (simp [setL, cellsL]; fail_if_success focus skip) | (simp; omega)) rfl (.tmp rfl .nil)) ?_)
    unfold MvPost lineE
    rw [hno]
    exact ⟨mvZ, rfl, fun pm hq => by cases hq⟩
   | x :: y :: t, _, _, _, _, k1 =>
    obtain ⟨a1, c1, g1, R1, o1⟩ := k1
    have hno : lineQ (w :: x :: y :: t) = none := by simp only [lineQ]; rw [hK, hn, if_pos (by omega), if_pos (by simp; omega)]
    rw [List.length_cons, List.length_cons] at g1
    (refine Go.run (g:=?_))
    (refine Go.fin (by first|exact .inr rfl|exact .inl rfl) (.cellN rfl inferInstance hg_ (by first | exact Nat.le_refl _ | (simp [setL, cellsL]; fail_if_success focus skip) | (simp; omega)) rfl (.tmp rfl .nil)) ?_)
    unfold MvPost lineE
    rw [hno]
    exact ⟨mvZ, rfl, fun pm hq => by cases hq⟩
   | [x], hw, _, _, _, k1 =>
    have hx := hw x (by simp)
    have hop : lineQ [w, x] = some (nbad x, { k := K, n := numD x }) := by simp only [lineQ]; rw [hK, hn, if_pos (by omega)]; rfl
    obtain ⟨a1, c1, g1, R1, o1⟩ := id k1
    rw [List.length_singleton] at g1
    (refine Go.run (g:=?_))
    refine GoR.callW rfl rfl rfl rfl rfl rfl rfl (((num_spec (h.n + 1) x [] false (by omega) _ (k1.putO (by omega) _)).argA).mono ?_)
    rintro _ H3 ⟨n, rfl, m0, m1, hm, k3⟩ kp3
    refine ⟨fun i hi => .inr (by simp at hi; omega), ?_⟩
    have g3 := kputS kp3 g0 (by omega)
    have gr3 := kputP kp3 gr (by omega) (by omega)
    have n3 := kp3.1
    rw [AHeap.n_put] at n3
    obtain ⟨a3, c3, gb3, R3, o3⟩ := id k3
    replace gb3 : H3.get (h.n + 1) = some (.cells [.slice a3 0 c3, .bool (nbad x)] 78) := gb3
    clear g1 R1 g0 gr k1 kp3 k3
    generalize hB : (nbad x) = B at *
    cases B
    case false =>
     (refine Go.run (g:=?_))
     (refine Go.fin (by first|exact .inr rfl|exact .inl rfl) (.cellN rfl inferInstance hg_ (by first | exact Nat.le_refl _ | (simp [setL, cellsL]; fail_if_success focus skip) | (simp; omega)) rfl (.tmp rfl .nil)) ?_)
     unfold MvPost lineE
     rw [hop]
     refine ⟨⟨K, 0, n, 0, opZ, 0, 0, none, 0, []⟩, rfl, fun pm hq => ?_⟩
     injection hq with hq
     injection hq with _ hq
     subst hq
     exact ⟨by show MvV.pm _ = _; rw [num_get hm hB]; rfl, mvOkK _ (by omega) m0 m1 (by decide) (by decide), Own.nil _, Own.nil _, Own.nil _⟩
    case true =>
     (refine Go.run (g:=?_))
     (refine Go.fin (by first|exact .inr rfl|exact .inl rfl) (.cellN rfl inferInstance hg_ (by first | exact Nat.le_refl _ | (simp [setL, cellsL]; fail_if_success focus skip) | (simp; omega)) rfl (.tmp rfl .nil)) ?_)
     unfold MvPost lineE
     rw [hop]
     exact ⟨⟨K, 0, n, 0, opZ, 0, 0, none, 0, []⟩, rfl, fun pm hq => by injection hq with hq; injection hq with hq; cases hq⟩
  ·
   rw [hn]
   match r, hw, hl, hR, k0, k1 with
   | [], _, _, _, _, k1 =>
    obtain ⟨a1, c1, g1, R1, o1⟩ := k1
    have hno : lineQ [w] = none := by simp only [lineQ]; rw [hK, hn, if_pos (by omega)]; rfl
    (refine Go.run (g:=?_))
    (refine Go.fin (by first|exact .inr rfl|exact .inl rfl) (.cellN rfl inferInstance hg_ (by first | exact Nat.le_refl _ | (simp [setL, cellsL]; fail_if_success focus skip) | (simp; omega)) rfl (.tmp rfl .nil)) ?_)
    unfold MvPost lineE
    rw [hno]
    exact ⟨mvZ, rfl, fun pm hq => by cases hq⟩
   | [x], _, _, _, _, k1 =>
    obtain ⟨a1, c1, g1, R1, o1⟩ := k1
    have hno : lineQ [w, x] = none := by simp only [lineQ]; rw [hK, hn, if_pos (by omega)]; rfl
    (refine Go.run (g:=?_))
    (refine Go.fin (by first|exact .inr rfl|exact .inl rfl) (.cellN rfl inferInstance hg_ (by first | exact Nat.le_refl _ | (simp [setL, cellsL]; fail_if_success focus skip) | (simp; omega)) rfl (.tmp rfl .nil)) ?_)
    unfold MvPost lineE
    rw [hno]
    exact ⟨mvZ, rfl, fun pm hq => by cases hq⟩
   | x :: y :: z :: t, _, _, _, _, k1 =>
    obtain ⟨a1, c1, g1, R1, o1⟩ := k1
    have hno : lineQ (w :: x :: y :: z :: t) = none := by simp only [lineQ]; rw [hK, hn, if_pos (by omega), if_pos (by simp; omega)]
    rw [List.length_cons, List.length_cons, List.length_cons] at g1
    (refine Go.run (g:=?_))
    (refine Go.fin (by first|exact .inr rfl|exact .inl rfl) (.cellN rfl inferInstance hg_ (by first | exact Nat.le_refl _ | (simp [setL, cellsL]; fail_if_success focus skip) | (simp; omega)) rfl (.tmp rfl .nil)) ?_)
    unfold MvPost lineE
    rw [hno]
    exact ⟨mvZ, rfl, fun pm hq => by cases hq⟩
   | [x, y], hw, _, _, _, k1 =>
    have hx := hw x (by simp)
    have hy := hw y (by simp)
    have hop : lineQ [w, x, y] = some (nbad x || nbad y, { k := K, n := numD x, bit := numD y }) := by simp only [lineQ]; rw [hK, hn, if_pos (by omega)]; rfl
    obtain ⟨a1, c1, g1, R1, o1⟩ := id k1
    replace g1 : H2.get (h.n + 1) = some (.cells [.slice a1 2 c1, .bool false] 78) := g1
    (refine Go.run (g:=?_))
    refine GoR.callW rfl rfl rfl rfl rfl rfl rfl (((num_spec (h.n + 1) x [y] false (by omega) _ (k1.putO (by omega) _)).argA).mono ?_)
    rintro _ H3 ⟨n, rfl, m0, m1, hm, k3⟩ kp3
    refine ⟨fun i hi => .inr (by simp at hi; omega), ?_⟩
    have g3 := kputS kp3 g0 (by omega)
    have gr3 := kputP kp3 gr (by omega) (by omega)
    have n3 := kp3.1
    rw [AHeap.n_put] at n3
    clear g1 R1 g0 gr k1 kp3
    (refine Go.run (g:=?_))
    refine GoR.callW rfl rfl rfl rfl rfl rfl rfl (((num_spec (h.n + 1) y [] (nbad x) (by omega) _ (k3.putO (by omega) _)).argA).mono ?_)
    rintro _ H4 ⟨n', rfl, m0', m1', hm', k4⟩ kp4
    refine ⟨fun i hi => .inr (by simp at hi; omega), ?_⟩
    have g4 := kputS kp4 g3 (by omega)
    have gr4 := kputP kp4 gr3 (by omega) (by omega)
    have n4 := kp4.1
    rw [AHeap.n_put] at n4
    obtain ⟨a4, c4, gb4, R4, o4⟩ := id k4
    replace gb4 : H4.get (h.n + 1) = some (.cells [.slice a4 0 c4, .bool (nbad x || nbad y)] 78) := gb4
    clear g3 gr3 k3 kp4 k4
    generalize hB : (nbad x || nbad y) = B at *
    cases B
    case false =>
     rw [Bool.or_eq_false_iff] at hB
     (refine Go.run (g:=?_))
     (refine Go.fin (by first|exact .inr rfl|exact .inl rfl) (.cellN rfl inferInstance hg_ (by first | exact Nat.le_refl _ | (simp [setL, cellsL]; fail_if_success focus skip) | (simp; omega)) rfl (.tmp rfl .nil)) ?_)
     unfold MvPost lineE
     rw [hop]
     refine ⟨⟨K, 0, n, n', opZ, 0, 0, none, 0, []⟩, rfl, fun pm hq => ?_⟩
     injection hq with hq
     injection hq with _ hq
     subst hq
     exact ⟨by show MvV.pm _ = _; rw [num_get hm hB.1, num_get hm' hB.2]; rfl, mvOkK _ (by omega) m0 m1 m0' m1', Own.nil _, Own.nil _, Own.nil _⟩
    case true =>
     (refine Go.run (g:=?_))
     (refine Go.fin (by first|exact .inr rfl|exact .inl rfl) (.cellN rfl inferInstance hg_ (by first | exact Nat.le_refl _ | (simp [setL, cellsL]; fail_if_success focus skip) | (simp; omega)) rfl (.tmp rfl .nil)) ?_)
     unfold MvPost lineE
     rw [hop]
     exact ⟨⟨K, 0, n, n', opZ, 0, 0, none, 0, []⟩, rfl, fun pm hq => by injection hq with hq; injection hq with hq; cases hq⟩
 rw [z1, z2]
 by_cases q : w = injW
 case pos =>
  have y0 : decide (w = injW) = true := decide_eq_true q
  have y1 : decide (w = callW) = false := by rw [q]; decide
  match r, hw, hl, hR, k0, k1 with
  | [], _, _, _, _, k1 =>
   obtain ⟨a1, c1, g1, R1, o1⟩ := k1
   have hno : lineQ [w] = none := by rw [q]; rfl
   (refine Go.run (g:=?_))
   (refine Go.fin (by first|exact .inr rfl|exact .inl rfl) (.cellN rfl inferInstance hg_ (by first | exact Nat.le_refl _ | (simp [setL, cellsL]; fail_if_success focus skip) | (simp; omega)) rfl (.tmp rfl .nil)) ?_)
   unfold MvPost lineE
   rw [hno]
   exact ⟨mvZ, rfl, fun pm hq => by cases hq⟩
  | [x], _, _, _, _, k1 =>
   obtain ⟨a1, c1, g1, R1, o1⟩ := k1
   have hno : lineQ [w, x] = none := by rw [q]; rfl
   (refine Go.run (g:=?_))
   (refine Go.fin (by first|exact .inr rfl|exact .inl rfl) (.cellN rfl inferInstance hg_ (by first | exact Nat.le_refl _ | (simp [setL, cellsL]; fail_if_success focus skip) | (simp; omega)) rfl (.tmp rfl .nil)) ?_)
   unfold MvPost lineE
   rw [hno]
   exact ⟨mvZ, rfl, fun pm hq => by cases hq⟩
  | [x, y], _, _, _, _, k1 =>
   obtain ⟨a1, c1, g1, R1, o1⟩ := k1
   have hno : lineQ [w, x, y] = none := by rw [q]; rfl
   (refine Go.run (g:=?_))
   (refine Go.fin (by first|exact .inr rfl|exact .inl rfl) (.cellN rfl inferInstance hg_ (by first | exact Nat.le_refl _ | (simp [setL, cellsL]; fail_if_success focus skip) | (simp; omega)) rfl (.tmp rfl .nil)) ?_)
   unfold MvPost lineE
   rw [hno]
   exact ⟨mvZ, rfl, fun pm hq => by cases hq⟩
  | x :: y :: z :: u :: t, _, _, _, _, k1 =>
   obtain ⟨a1, c1, g1, R1, o1⟩ := k1
   have hno : lineQ (w :: x :: y :: z :: u :: t) = none := by rw [q]; rfl
   rw [List.length_cons, List.length_cons, List.length_cons, List.length_cons] at g1
   (refine Go.run (g:=?_))
   (refine Go.fin (by first|exact .inr rfl|exact .inl rfl) (.cellN rfl inferInstance hg_ (by first | exact Nat.le_refl _ | (simp [setL, cellsL]; fail_if_success focus skip) | (simp; omega)) rfl (.tmp rfl .nil)) ?_)
   unfold MvPost lineE
   rw [hno]
   exact ⟨mvZ, rfl, fun pm hq => by cases hq⟩
  | [x, y, z], hw, _, _, _, k1 =>
   have hx := hw x (by simp)
   have hy := hw y (by simp)
   have hz := hw z (by simp)
   have hop : lineQ [w, x, y, z] = some (ubad w32 x || ubad w32 y || hbad z, { k := 7, fr := upD w32 x, to := upD w32 y, bs := hxD z }) := by rw [q]; rfl
   obtain ⟨a1, c1, g1, R1, o1⟩ := id k1
   replace g1 : H2.get (h.n + 1) = some (.cells [.slice a1 3 c1, .bool false] 78) := g1
   (refine Go.run (g:=?_))
   refine GoR.callW rfl rfl rfl rfl rfl rfl rfl (((upto_spec w32 (by decide) (by decide) (h.n + 1) x [y, z] false (by omega) _ (k1.putO (by omega) _)).argA).mono ?_)
   rintro _ H3 ⟨u, rfl, u0, u1, hu, k3⟩ kp3
   refine ⟨fun i hi => .inr (by simp at hi; omega), ?_⟩
   obtain ⟨pu, rfl⟩ : ∃ p : Nat, u = p := ⟨u.toNat, by omega⟩
   have g3 := kputS kp3 g0 (by omega)
   have gr3 := kputP kp3 gr (by omega) (by omega)
   have n3 := kp3.1
   rw [AHeap.n_put] at n3
   clear g1 R1 g0 gr k1 kp3
   (refine Go.run (g:=?_))
   refine GoR.callW rfl rfl rfl rfl rfl rfl rfl (((upto_spec w32 (by decide) (by decide) (h.n + 1) y [z] (ubad w32 x) (by omega) _ (k3.putO (by omega) _)).argA).mono ?_)
   rintro _ H4 ⟨v, rfl, v0, v1, hv, k4⟩ kp4
   refine ⟨fun i hi => .inr (by simp at hi; omega), ?_⟩
   obtain ⟨pv, rfl⟩ : ∃ p : Nat, v = p := ⟨v.toNat, by omega⟩
   have g4 := kputS kp4 g3 (by omega)
   have gr4 := kputP kp4 gr3 (by omega) (by omega)
   have n4 := kp4.1
   rw [AHeap.n_put] at n4
   clear g3 gr3 k3 kp4
   (refine Go.run (g:=?_))
   refine GoR.callW rfl rfl rfl rfl rfl rfl rfl (((rbytes_spec (h.n + 1) z [] (ubad w32 x || ubad w32 y) (by omega) _ (k4.putO (by omega) _)).argA).mono ?_)
   rintro _ H5 ⟨ba, bc, zs, rfl, S5, ow5, zl, hzs, k5⟩ kp5
   refine ⟨fun i hi => .inr (by simp at hi; omega), ?_⟩
   have g5 := kputS kp5 g4 (by omega)
   have gr5 := kputP kp5 gr4 (by omega) (by omega)
   have n5 := kp5.1
   rw [AHeap.n_put] at n5 ow5
   obtain ⟨a5, c5, gb5, R5, o5⟩ := id k5
   replace gb5 : H5.get (h.n + 1) = some (.cells [.slice a5 0 c5, .bool (ubad w32 x || ubad w32 y || hbad z)] 78) := gb5
   clear g4 gr4 k4 kp5 k5
   generalize hB : (ubad w32 x || ubad w32 y || hbad z) = B at *
   cases B
   case false =>
    rw [Bool.or_eq_false_iff, Bool.or_eq_false_iff] at hB
    obtain ⟨⟨b1, b2⟩, b3⟩ := hB
    have e2 := up_get hu u0 b1
    have e3 := up_get hv v0 b2
    (refine Go.run (g:=?_))
    (refine Go.fin (by first|exact .inr rfl|exact .inl rfl) (.cellN rfl inferInstance hg_ (by first | exact Nat.le_refl _ | (simp [setL, cellsL]; fail_if_success focus skip) | (simp; omega)) rfl (.tmp rfl .nil)) ?_)
    unfold MvPost lineE
    rw [hop]
    refine ⟨⟨7, 0, 0, 0, opZ, pu, pv, ba, bc, zs⟩, rfl, fun pm hq => ?_⟩
    injection hq with hq
    injection hq with _ hq
    subst hq
    refine ⟨?_, ⟨(show 7 < 256 by decide), (show 0 < 256 by decide), (show (-9223372036854775808 : Int) ≤ 0 by decide), (show (0 : Int) < 9223372036854775808 by decide), (show (-9223372036854775808 : Int) ≤ 0 by decide), (show (0 : Int) < 9223372036854775808 by decide), opOkZ _, (by show pu < 4294967296; omega), (by show pv < 4294967296; omega), ?_, (by show zs.length ≤ 2000000; omega)⟩, Own.nil _, Own.nil _, fun i hi => by have := ow5 i hi; omega⟩
    ·
     show MvV.pm _ = _
     rw [show pu = upD w32 x by omega, show pv = upD w32 y by omega, hx_get hzs b3]; rfl
    · exact (S5.rv.put (fun hi => by have := ow5 _ hi; omega) _).put (fun hi => by have := ow5 _ hi; omega) _
   case true =>
    (refine Go.run (g:=?_))
    (refine Go.fin (by first|exact .inr rfl|exact .inl rfl) (.cellN rfl inferInstance hg_ (by first | exact Nat.le_refl _ | (simp [setL, cellsL]; fail_if_success focus skip) | (simp; omega)) rfl (.tmp rfl .nil)) ?_)
    unfold MvPost lineE
    rw [hop]
    exact ⟨⟨7, 0, 0, 0, opZ, pu, pv, ba, bc, zs⟩, rfl, fun pm hq => by injection hq with hq; injection hq with hq; cases hq⟩
 have y0 : decide (w = injW) = false := decide_eq_false q
 by_cases q2 : w = callW
 case neg =>
  have y1 : decide (w = callW) = false := decide_eq_false q2
  have hno : lineQ (w :: r) = none := by simp only [lineQ]; rw [z1, if_neg (by omega), if_neg q, if_neg q2]
  obtain ⟨a1, c1, g1, R1, o1⟩ := k1
  (refine Go.run (g:=?_))
  (refine Go.fin (by first|exact .inr rfl|exact .inl rfl) (.cellN rfl inferInstance hg_ (by first | exact Nat.le_refl _ | (simp [setL, cellsL]; fail_if_success focus skip) | (simp; omega)) rfl (.tmp rfl .nil)) ?_)
  unfold MvPost lineE
  rw [hno]
  exact ⟨mvZ, rfl, fun pm hq => by cases hq⟩
 have y1 : decide (w = callW) = true := decide_eq_true q2
 match r, hw, hl, hR, k0, k1 with
 | [], _, _, _, _, k1 =>
  obtain ⟨a1, c1, g1, R1, o1⟩ := k1
  have hno : lineQ [w] = none := by rw [q2]; rfl
  (refine Go.run (g:=?_))
  (refine Go.fin (by first|exact .inr rfl|exact .inl rfl) (.cellN rfl inferInstance hg_ (by first | exact Nat.le_refl _ | (simp [setL, cellsL]; fail_if_success focus skip) | (simp; omega)) rfl (.tmp rfl .nil)) ?_)
  unfold MvPost lineE
  rw [hno]
  exact ⟨mvZ, rfl, fun pm hq => by cases hq⟩
 | [x], _, _, _, _, k1 =>
  obtain ⟨a1, c1, g1, R1, o1⟩ := k1
  have hno : lineQ [w, x] = none := by rw [q2]; rfl
  (refine Go.run (g:=?_))
  (refine Go.fin (by first|exact .inr rfl|exact .inl rfl) (.cellN rfl inferInstance hg_ (by first | exact Nat.le_refl _ | (simp [setL, cellsL]; fail_if_success focus skip) | (simp; omega)) rfl (.tmp rfl .nil)) ?_)
  unfold MvPost lineE
  rw [hno]
  exact ⟨mvZ, rfl, fun pm hq => by cases hq⟩
 | x :: s :: t, hw, hl, _, _, k1 =>
  have hx := hw x (by simp)
  have hwt : ∀ z ∈ s :: t, z.length ≤ 1000000 := fun z hz => hw z (by simp at hz ⊢; rcases hz with e | e <;> simp [e])
  have hlt : t.length ≤ 800000 := by simp only [List.length_cons] at hl; omega
  have hlq : lineQ (w :: x :: s :: t) = (opP (if s = blockW then t else s :: t)).map fun y => (ubad 1 x || y.1, { y.2 with k := 1, host := upD 1 x, blk := decide (s = blockW) }) := by rw [q2]; rfl
  obtain ⟨a1, c1, g1, R1, o1⟩ := id k1
  rw [List.length_cons, List.length_cons] at g1
  (refine Go.run (g:=?_))
  refine GoR.callW rfl rfl rfl rfl rfl rfl rfl (((upto_spec 1 (by decide) (by decide) (h.n + 1) x (s :: t) false (by omega) _ (k1.putO (by omega) _)).argA).mono ?_)
  rintro _ H3 ⟨u, rfl, u0, u1, hu, k3⟩ kp3
  refine ⟨fun i hi => .inr (by simp at hi; omega), ?_⟩
  obtain ⟨pu, rfl⟩ : ∃ p : Nat, u = p := ⟨u.toNat, by omega⟩
  have g3 := kputS kp3 g0 (by omega)
  have gr3 := kputP kp3 gr (by omega) (by omega)
  have n3 := kp3.1
  rw [AHeap.n_put] at n3
  clear g1 R1 g0 gr k1 kp3
  (refine Go.run (g:=?_))
  rw [Nat.mod_eq_of_lt (show pu < 256 by omega)]
  refine GoR.name ?_
  intro H4 e4
  have k4 : RdI H4 78 (h.n + 1) (s :: t) (ubad 1 x) := by rw [e4]; exact k3.putO (by omega) _
  have g4 : H4.get (h.n + 1 + 1) = some (.cells (MvV.cs ⟨1, pu, 0, 0, opZ, 0, 0, none, 0, []⟩) 47) := by rw [e4]; exact AHeap.get_put_same _ (AHeap.lt g3) _
  have gr4 : H4.get h.n = some (.cells mvZ.cs 47) := by rw [e4, AHeap.get_put_ne _ _ (by omega)]; exact gr3
  have n4 : H4.n = H3.n := by rw [e4]; rfl
  clear e4 g3 gr3 k3
  obtain ⟨a4, c4, gb4, R4, o4⟩ := id k4
  rw [List.length_cons] at gb4 R4
  rw [List.map_cons] at R4
  (refine Go.run (g:=?_))
  by_cases sb : s = blockW
  case pos =>
   have zb : decide (s = blockW) = true := decide_eq_true sb
   rw [if_pos sb, zb] at hlq
   (refine Go.run (g:=?_))
   refine GoR.callW rfl rfl rfl rfl rfl rfl rfl (((take_spec (h.n + 1) s t (ubad 1 x) _ k4).argA).mono ?_)
   rintro _ H5 ⟨rfl, k5⟩ kp5
   refine ⟨fun i hi => .inr (by simp at hi; omega), ?_⟩
   have g5 := kput kp5 g4 (by simp)
   have gr5 := kput kp5 gr4 (by simp)
   have n5 := kp5.1
   clear g4 gr4 k4 kp5 gb4 R4
   have hwq : ∀ z ∈ t, z.length ≤ 1000000 := fun z hz => hwt z (by simp [hz])
   have hlq' : t.length ≤ 900000 := by omega
   generalize t = ws at *
   (refine Go.run (g:=?_))
   refine GoR.callW rfl rfl rfl rfl rfl rfl rfl (((rcall_spec (h.n + 1) ws (ubad 1 x) hwq hlq' _ k5).argA).mono ?_)
   rintro _ H6 ⟨o, rfl, hr⟩ kp6
   refine ⟨fun i hi => .inr (by simp at hi; omega), ?_⟩
   have g6 := kput kp6 g5 (by simp)
   have gr6 := kput kp6 gr5 (by simp)
   have n6 := kp6.1
   clear g5 gr5 kp6 k5
   cases hop : opP ws with
   | none =>
    have hno := hlq
    rw [hop] at hno
    replace hno : lineQ _ = none := hno
    rw [show (none : Option (Bool × PM)).isSome = false from rfl]
    (refine Go.run (g:=?_))
    (refine Go.fin (by first|exact .inr rfl|exact .inl rfl) (.cellN rfl inferInstance hg_ (by first | exact Nat.le_refl _ | (simp [setL, cellsL]; fail_if_success focus skip) | (simp; omega)) rfl (.tmp rfl .nil)) ?_)
    unfold MvPost lineE
    rw [hno]
    exact ⟨⟨1, pu, 0, 0, opZ, 0, 0, none, 0, []⟩, rfl, fun pm hq => by cases hq⟩
   | some y =>
    obtain ⟨bq, pm⟩ := y
    have hop' := hlq
    rw [hop] at hop'
    replace hop' : lineQ _ = some (ubad 1 x || bq, { pm with k := 1, host := upD 1 x, blk := true }) := hop'
    obtain ⟨⟨r', k7⟩, hpm, ok⟩ := hr bq pm hop
    clear hr
    obtain ⟨a7, c7, gb7, R7, o7⟩ := id k7
    rw [show (some (bq, pm)).isSome = true from rfl]
    generalize hB : (ubad 1 x || bq) = B at *
    cases B
    case false =>
     rw [Bool.or_eq_false_iff] at hB
     (refine Go.run (g:=?_))
     (refine Go.fin (by first|exact .inr rfl|exact .inl rfl) (.cellN rfl inferInstance hg_ (by first | exact Nat.le_refl _ | (simp [setL, cellsL]; fail_if_success focus skip) | (simp; omega)) rfl (.tmp rfl .nil)) ?_)
     rw [show decide (s = [98, 108, 111, 99, 107]) = true from zb]
     unfold MvPost lineE
     rw [hop']
     refine ⟨⟨1, pu, 0, 0, { o with blk := true }, 0, 0, none, 0, []⟩, rfl, fun pm' hq => ?_⟩
     injection hq with hq
     injection hq with _ hq
     subst hq
     have e2 := up_get hu u0 hB.1
     refine ⟨?_, ⟨(show 1 < 256 by decide), (by show pu < 256; omega), (show (-9223372036854775808 : Int) ≤ 0 by decide), (show (0 : Int) < 9223372036854775808 by decide), (show (-9223372036854775808 : Int) ≤ 0 by decide), (show (0 : Int) < 9223372036854775808 by decide), ?_, (show 0 < 4294967296 by decide), (show 0 < 4294967296 by decide), .nil, (show 0 ≤ 2000000 by decide)⟩, fun i hi => by have := ok.oA i hi; omega, fun i hi => by have := ok.oD i hi; omega, Own.nil _⟩
     · rw [show pu = upD 1 x by omega, ← hpm hB.2]; rfl
     ·
      refine (ok.ok.blk' true).of_get (fun i hi => ?_) (fun i hi => ?_)
      ·
       have q1 := ok.oA i hi
       have q2 := ok.ok.A.lt i hi
       (repeat rw [AHeap.get_put_ne _ _ (by first | omega | (simp only [AHeap.n_push, AHeap.n_put]; omega))])
       exact AHeap.get_push_ne _ _ (by omega)
      ·
       have q1 := ok.oD i hi
       have q2 := ok.ok.D.lt i hi
       (repeat rw [AHeap.get_put_ne _ _ (by first | omega | (simp only [AHeap.n_push, AHeap.n_put]; omega))])
       exact AHeap.get_push_ne _ _ (by omega)
    case true =>
     (refine Go.run (g:=?_))
     (refine Go.fin (by first|exact .inr rfl|exact .inl rfl) (.cellN rfl inferInstance hg_ (by first | exact Nat.le_refl _ | (simp [setL, cellsL]; fail_if_success focus skip) | (simp; omega)) rfl (.tmp rfl .nil)) ?_)
     rw [show decide (s = [98, 108, 111, 99, 107]) = true from zb]
     unfold MvPost lineE
     rw [hop']
     exact ⟨⟨1, pu, 0, 0, { o with blk := true }, 0, 0, none, 0, []⟩, rfl, fun pm hq => by injection hq with hq; injection hq with hq; cases hq⟩
  case neg =>
   have zb : decide (s = blockW) = false := decide_eq_false sb
   have zb' : decide (s = blockW) = !true := zb
   rw [if_neg sb, zb] at hlq
   have hlq' : (s :: t).length ≤ 900000 := by rw [List.length_cons]; omega
   have hwq := hwt
   obtain ⟨ws, hws⟩ : ∃ l, l = s :: t := ⟨_, rfl⟩
   rw [← hws] at hlq' hwq hlq k4 ⊢
   have g5 := g4
   have gr5 := gr4
   have k5 := k4
   have n5 : H4.n ≤ H4.n := Nat.le_refl _
   clear gb4 R4
   (refine Go.run (g:=?_))
   refine GoR.callW rfl rfl rfl rfl rfl rfl rfl (((rcall_spec (h.n + 1) ws (ubad 1 x) hwq hlq' _ k5).argA).mono ?_)
   rintro _ H6 ⟨o, rfl, hr⟩ kp6
   refine ⟨fun i hi => .inr (by simp at hi; omega), ?_⟩
   have g6 := kput kp6 g5 (by simp)
   have gr6 := kput kp6 gr5 (by simp)
   have n6 := kp6.1
   clear g5 gr5 kp6 k5
   cases hop : opP ws with
   | none =>
    have hno := hlq
    rw [hop] at hno
    replace hno : lineQ _ = none := hno
    rw [show (none : Option (Bool × PM)).isSome = false from rfl]
    (refine Go.run (g:=?_))
    (refine Go.fin (by first|exact .inr rfl|exact .inl rfl) (.cellN rfl inferInstance hg_ (by first | exact Nat.le_refl _ | (simp [setL, cellsL]; fail_if_success focus skip) | (simp; omega)) rfl (.tmp rfl .nil)) ?_)
    unfold MvPost lineE
    rw [hno]
    exact ⟨⟨1, pu, 0, 0, opZ, 0, 0, none, 0, []⟩, rfl, fun pm hq => by cases hq⟩
   | some y =>
    obtain ⟨bq, pm⟩ := y
    have hop' := hlq
    rw [hop] at hop'
    replace hop' : lineQ _ = some (ubad 1 x || bq, { pm with k := 1, host := upD 1 x, blk := false }) := hop'
    obtain ⟨⟨r', k7⟩, hpm, ok⟩ := hr bq pm hop
    clear hr
    obtain ⟨a7, c7, gb7, R7, o7⟩ := id k7
    rw [show (some (bq, pm)).isSome = true from rfl]
    generalize hB : (ubad 1 x || bq) = B at *
    cases B
    case false =>
     rw [Bool.or_eq_false_iff] at hB
     (refine Go.run (g:=?_))
     (refine Go.fin (by first|exact .inr rfl|exact .inl rfl) (.cellN rfl inferInstance hg_ (by first | exact Nat.le_refl _ | (simp [setL, cellsL]; fail_if_success focus skip) | (simp; omega)) rfl (.tmp rfl .nil)) ?_)
     rw [show decide (s = [98, 108, 111, 99, 107]) = false from zb]
     unfold MvPost lineE
     rw [hop']
     refine ⟨⟨1, pu, 0, 0, { o with blk := false }, 0, 0, none, 0, []⟩, rfl, fun pm' hq => ?_⟩
     injection hq with hq
     injection hq with _ hq
     subst hq
     have e2 := up_get hu u0 hB.1
     refine ⟨?_, ⟨(show 1 < 256 by decide), (by show pu < 256; omega), (show (-9223372036854775808 : Int) ≤ 0 by decide), (show (0 : Int) < 9223372036854775808 by decide), (show (-9223372036854775808 : Int) ≤ 0 by decide), (show (0 : Int) < 9223372036854775808 by decide), ?_, (show 0 < 4294967296 by decide), (show 0 < 4294967296 by decide), .nil, (show 0 ≤ 2000000 by decide)⟩, fun i hi => by have := ok.oA i hi; omega, fun i hi => by have := ok.oD i hi; omega, Own.nil _⟩
     · rw [show pu = upD 1 x by omega, ← hpm hB.2]; rfl
     ·
      refine (ok.ok.blk' false).of_get (fun i hi => ?_) (fun i hi => ?_)
      ·
       have q1 := ok.oA i hi
       have q2 := ok.ok.A.lt i hi
       (repeat rw [AHeap.get_put_ne _ _ (by first | omega | (simp only [AHeap.n_push, AHeap.n_put]; omega))])
       exact AHeap.get_push_ne _ _ (by omega)
      ·
       have q1 := ok.oD i hi
       have q2 := ok.ok.D.lt i hi
       (repeat rw [AHeap.get_put_ne _ _ (by first | omega | (simp only [AHeap.n_push, AHeap.n_put]; omega))])
       exact AHeap.get_push_ne _ _ (by omega)
    case true =>
     (refine Go.run (g:=?_))
     (refine Go.fin (by first|exact .inr rfl|exact .inl rfl) (.cellN rfl inferInstance hg_ (by first | exact Nat.le_refl _ | (simp [setL, cellsL]; fail_if_success focus skip) | (simp; omega)) rfl (.tmp rfl .nil)) ?_)
     rw [show decide (s = [98, 108, 111, 99, 107]) = false from zb]
     unfold MvPost lineE
     rw [hop']
     exact ⟨⟨1, pu, 0, 0, { o with blk := false }, 0, 0, none, 0, []⟩, rfl, fun pm hq => by injection hq with hq; injection hq with hq; cases hq⟩
end Go.Proofs.YtncbbeghkpjpbaaDoor
namespace Go.Proofs.YtncbbeghkpjpbaaDoor
open Go.RowKit
set_option maxRecDepth 100000
attribute [local irreducible] Go GoR GoL
theorem im0 : aIndex Tryd.prog 68 movesV (.int .i64 ((0 : Nat) : Int)) = some (stv (mwL 0)) := by kernel_rfl
theorem im1 : aIndex Tryd.prog 68 movesV (.int .i64 ((1 : Nat) : Int)) = some (stv (mwL 1)) := by kernel_rfl
theorem im2 : aIndex Tryd.prog 68 movesV (.int .i64 ((2 : Nat) : Int)) = some (stv (mwL 2)) := by kernel_rfl
theorem im3 : aIndex Tryd.prog 68 movesV (.int .i64 ((3 : Nat) : Int)) = some (stv (mwL 3)) := by kernel_rfl
theorem im4 : aIndex Tryd.prog 68 movesV (.int .i64 ((4 : Nat) : Int)) = some (stv (mwL 4)) := by kernel_rfl
theorem im5 : aIndex Tryd.prog 68 movesV (.int .i64 ((5 : Nat) : Int)) = some (stv (mwL 5)) := by kernel_rfl
theorem im6 : aIndex Tryd.prog 68 movesV (.int .i64 ((6 : Nat) : Int)) = some (stv (mwL 6)) := by kernel_rfl
theorem im7 : aIndex Tryd.prog 68 movesV (.int .i64 ((7 : Nat) : Int)) = some (stv (mwL 7)) := by kernel_rfl
theorem im8 : aIndex Tryd.prog 68 movesV (.int .i64 ((8 : Nat) : Int)) = some (stv (mwL 8)) := by kernel_rfl
abbrev m256 (i : Nat) : Nat := i % 256
theorem nine {k : Nat} (h : k < 9) : k = 0 ∨ k = 1 ∨ k = 2 ∨ k = 3 ∨ k = 4 ∨ k = 5 ∨ k = 6 ∨ k = 7 ∨ k = 8 := by omega
theorem im_moves {k : Nat} (h : k < 9) : aIndex Tryd.prog 68 movesV (.int .i64 (k : Nat)) = some (stv (mwL k)) := by
 rcases nine h with rfl | rfl | rfl | rfl | rfl | rfl | rfl | rfl | rfl
 · exact im0
 · exact im1
 · exact im2
 · exact im3
 · exact im4
 · exact im5
 · exact im6
 · exact im7
 · exact im8
theorem kw_kind {k : Nat} (h : k < 9) (hne : mwL k ≠ []) : 0 < k ∧ kindP (mwL k) = (k, if k = 6 then 2 else 1) := by
 rcases nine h with rfl | rfl | rfl | rfl | rfl | rfl | rfl | rfl | rfl <;> first | exact ⟨by decide, rfl⟩ | exact absurd rfl hne
theorem kw_none {w : W} (h : ∀ j, j < 9 → mwL j ≠ w) : kindP w = (0, 0) := by
 have h2 : ¬ w = pickW := fun e => h 2 (by decide) e.symm
 have h3 : ¬ w = delW := fun e => h 3 (by decide) e.symm
 have h4 : ¬ w = dropW := fun e => h 4 (by decide) e.symm
 have h5 : ¬ w = twiceW := fun e => h 5 (by decide) e.symm
 have h6 : ¬ w = turnW := fun e => h 6 (by decide) e.symm
 have h8 : ¬ w = tickW := fun e => h 8 (by decide) e.symm
 unfold kindP
 rw [if_neg h2, if_neg h3, if_neg h4, if_neg h5, if_neg h6, if_neg h8]
theorem rerr_spec (b : Nat) (u : Value) (bad : Bool) (h : AHeap) (g : h.get b = some (.cells [u, .bool bad] 66)) : CallS Tryd.prog [] 28 [.pointer (some ⟨b, 0, none⟩)] h fun v h' => v = .int .i64 (if bad then 5 else 0) := by
 (refine CallS.of1 Tryd.func28 rfl Tryd.ntmps28 Tryd.results28 rfl ?_)
 cases bad
 ·
  (refine Go.run (g:=?_))
  (first|refine Go.finA rfl ?_|refine Go.finB rfl (hq:=?_))
  rfl
 ·
  (refine Go.run (g:=?_))
  (first|refine Go.finA rfl ?_|refine Go.finB rfl (hq:=?_))
  rfl
set_option maxHeartbeats 32000000 in
theorem move_spec (a : Option Addr) (cap : Nat) (w : W) (r : List W) (hw : ∀ x ∈ w :: r, x.length ≤ 1000000) (hw0 : ∀ x ∈ w :: r, x ≠ []) (hl : r.length ≤ 800000) (h : AHeap) (hG : Holds GE h) (hR : Rv Tryd.prog h 1 a (w :: r).length cap ((w :: r).map stv)) : CallS Tryd.prog [] 16 [.slice a (w :: r).length cap] h (MvPost h.n (w :: r)) := by
 have e1 : (1 : Int) = 1 := rfl
 have e32 : w32 = 4294967295 := rfl
 have hwn : w ≠ [] := hw0 w (List.mem_cons_self ..)
 (refine CallS.of1 Tryd.func16 rfl Tryd.ntmps16 Tryd.results16 rfl ?_)
 (refine Go.run (g:=?_))
 refine GoR.name ?_
 intro H0 e0
 have s0 : Same h H0 := by rw [e0]; exact (((Same.refl h).push _).push _).push _
 have k0 : RdI H0 66 (h.n + 1) (w :: r) false := ⟨a, cap, by rw [e0, AHeap.get_push_ne _ _ (by simp)]; exact AHeap.get_push_same _ _, hR.same s0, fun i hi => by have := hR.lt i hi; omega⟩
 have g0 : H0.get (h.n + 2) = some (.cells mvZ.cs 47) := by rw [e0]; exact AHeap.get_push_same _ _
 have gr : H0.get h.n = some (.cells mvZ.cs 47) := by rw [e0, AHeap.get_push_ne _ _ (by simp only [AHeap.n_push]; omega), AHeap.get_push_ne _ _ (by simp)]; exact AHeap.get_push_same _ _
 have n0 : H0.n = h.n + 3 := by rw [e0]; rfl
 clear e0
 replace hG := hG.same s0
 simp only [AHeap.n_push, AHeap.n_put]
 refine GoR.callW rfl rfl rfl rfl rfl rfl rfl (((word_spec (h.n + 1) w r false _ k0).argA).mono ?_)
 rintro _ H1 ⟨rfl, k1⟩ kp1
 refine ⟨fun i hi => .inr (by simp at hi; omega), ?_⟩
 replace g0 := kput kp1 g0 (by simp)
 replace gr := kput kp1 gr (by simp)
 replace hG := k0.holds hG kp1
 have n1 := kp1.1
 (refine Go.run (g:=?_))
 refine GoR.call rfl rfl rfl rfl rfl rfl rfl (((moves_spec _ hG.gh).argA).mono ?_)
 rintro _ H2 ⟨rfl, e2⟩ s2
 subst e2
 clear s2
 (refine Go.run (g:=?_))
 refine Go.loop (α := Nat) (fun x => [(2, .pointer (some ⟨h.n, 0, none⟩)), (4, .pointer (some ⟨h.n + 1, 0, none⟩)), (5, .pointer (some ⟨h.n + 1 + 1, 0, none⟩)), (6, stv w), (16, movesV), (17, .int .i64 (x : Nat))]) (fun _ => []) (fun _ => H2) (fun x => x ≤ 9 ∧ ∀ j, j < x → mwL j ≠ w) (fun x => 9 - x) 0 ⟨Nat.zero_le _, fun j hj => by omega⟩ ⟨rfl, rfl, rfl, rfl, rfl, rfl, trivial⟩ rfl rfl ?_
 rintro i ⟨h1, h2⟩
 rcases Nat.lt_or_ge i 9 with hi | hi
 case inl =>
  have hix := im_moves hi
  (refine Go.run (g:=?_))
  refine GoR.index rfl rfl rfl rfl rfl rfl hix ?_
  by_cases hk : mwL i = w
  case neg =>
   have hz : (!decide (mwL i = w)) = true := by rw [decide_eq_false hk]; rfl
   (refine Go.run (g:=?_))
   exact Go.again (i + 1) ⟨hi, fun j hj e => by rcases Nat.lt_or_ge j i with q | q; exact h2 j q e; exact hk (by rw [show i = j by omega]; exact e)⟩ (by show 9 - (i + 1) < 9 - i; omega) ⟨rfl, rfl, rfl, rfl, rfl, rfl, trivial⟩ rfl rfl
  have hz : (!decide (mwL i = w)) = false := by rw [decide_eq_true hk]; rfl
  have hne : decide (mwL i = []) = false := decide_eq_false (fun e => hwn (by rw [← hk]; exact e))
  have hne' : decide (mwL i = []) = !true := hne
  obtain ⟨hi0, hki⟩ := kw_kind hi (fun e => hwn (by rw [← hk]; exact e))
  rw [hk] at hki
  have him : i % 256 = i := Nat.mod_eq_of_lt (by omega)
  by_cases i6 : i = 6
  case pos =>
   rw [if_pos i6] at hki
   subst i6
   match r, hw, hw0, hl, hR, k0, k1 with
   | [], _, _, _, _, _, k1 =>
    obtain ⟨a1, c1, g1, R1, o1⟩ := k1
    have hno : lineQ [w] = none := by simp only [lineQ]; rw [hki, if_pos (by decide)]; rfl
    (refine Go.run (g:=?_))
    (refine Go.fin (by first|exact .inr rfl|exact .inl rfl) (.cellN rfl inferInstance hg_ (by first | exact Nat.le_refl _ | (simp [setL, cellsL]; fail_if_success focus skip) | (simp; omega)) rfl (.tmp rfl .nil)) ?_)
    unfold MvPost lineE
    rw [hno]
    exact ⟨⟨6, 0, 0, 0, opZ, 0, 0, none, 0, []⟩, rfl, fun pm hq => by cases hq⟩
   | [x], _, _, _, _, _, k1 =>
    obtain ⟨a1, c1, g1, R1, o1⟩ := k1
    have hno : lineQ [w, x] = none := by simp only [lineQ]; rw [hki, if_pos (by decide)]; rfl
    (refine Go.run (g:=?_))
    (refine Go.fin (by first|exact .inr rfl|exact .inl rfl) (.cellN rfl inferInstance hg_ (by first | exact Nat.le_refl _ | (simp [setL, cellsL]; fail_if_success focus skip) | (simp; omega)) rfl (.tmp rfl .nil)) ?_)
    unfold MvPost lineE
    rw [hno]
    exact ⟨⟨6, 0, 0, 0, opZ, 0, 0, none, 0, []⟩, rfl, fun pm hq => by cases hq⟩
   | x :: y :: z :: t, _, _, _, _, _, k1 =>
    obtain ⟨a1, c1, g1, R1, o1⟩ := k1
    have hno : lineQ (w :: x :: y :: z :: t) = none := by simp only [lineQ]; rw [hki, if_pos (by decide), if_pos (by simp; omega)]
    rw [List.length_cons, List.length_cons, List.length_cons] at g1
    (refine Go.run (g:=?_))
    (refine Go.fin (by first|exact .inr rfl|exact .inl rfl) (.cellN rfl inferInstance hg_ (by first | exact Nat.le_refl _ | (simp [setL, cellsL]; fail_if_success focus skip) | (simp; omega)) rfl (.tmp rfl .nil)) ?_)
    unfold MvPost lineE
    rw [hno]
    exact ⟨⟨6, 0, 0, 0, opZ, 0, 0, none, 0, []⟩, rfl, fun pm hq => by cases hq⟩
   | [x, y], hw, hw0, _, _, _, k1 =>
    have hx := hw x (by simp)
    have hy := hw y (by simp)
    have hop : lineQ [w, x, y] = some (nbad x || nbad y, { k := 6, n := numD x, bit := numD y }) := by simp only [lineQ]; rw [hki, if_pos (by decide)]; rfl
    obtain ⟨a1, c1, g1, R1, o1⟩ := id k1
    replace g1 : H2.get (h.n + 1) = some (.cells [.slice a1 2 c1, .bool false] 66) := g1
    (refine Go.run (g:=?_))
    refine GoR.callW rfl rfl rfl rfl rfl rfl rfl (((int_spec (h.n + 1) x [y] false (by omega) _ (hG.putE g0 _) (k1.putO (by omega) _)).argA).mono ?_)
    rintro _ H3 ⟨n, rfl, m0, m1, hm, k3⟩ kp3
    refine ⟨fun i hi => .inr (by simp at hi; omega), ?_⟩
    have hG3 := (k1.putO (by omega) _).holds (hG.putE g0 _) kp3
    have g3 := kputS kp3 g0 (by omega)
    have gr3 := kputP kp3 gr (by omega) (by omega)
    have n3 := kp3.1
    rw [AHeap.n_put] at n3
    clear g1 R1 g0 gr k1 kp3
    (refine Go.run (g:=?_))
    refine GoR.callW rfl rfl rfl rfl rfl rfl rfl (((int_spec (h.n + 1) y [] (nbad x) (by omega) _ (hG3.putE g3 _) (k3.putO (by omega) _)).argA).mono ?_)
    rintro _ H4 ⟨n', rfl, m0', m1', hm', k4⟩ kp4
    refine ⟨fun i hi => .inr (by simp at hi; omega), ?_⟩
    have g4 := kputS kp4 g3 (by omega)
    have gr4 := kputP kp4 gr3 (by omega) (by omega)
    have n4 := kp4.1
    rw [AHeap.n_put] at n4
    clear g3 gr3 k3 kp4
    refine Go.runN (g:=?_)
    refine Go.name ?_
    intro HL eL
    have kL : RdI HL 66 (h.n + 1) [] (nbad x || nbad y) := by rw [eL]; exact k4.putO (by omega) _
    have gM : HL.get (h.n + 1 + 1) = some (.cells (MvV.cs ⟨6, 0, n, n', opZ, 0, 0, none, 0, []⟩) 47) := by rw [eL]; exact AHeap.get_put_same _ (AHeap.lt g4) _
    have gR : HL.get h.n = some (.cells mvZ.cs 47) := by rw [eL, AHeap.get_put_ne _ _ (by omega)]; exact gr4
    have nL : HL.n = H4.n := by rw [eL]; rfl
    clear eL g4 gr4 k4
    dsimp only [MvV.cs] at gM
    obtain ⟨a3, c3, gL, R3, o3⟩ := id kL
    replace gL : HL.get (h.n + 1) = some (.cells [.slice a3 0 c3, .bool (nbad x || nbad y)] 66) := gL
    generalize hB : (nbad x || nbad y) = B at *
    refine Go.loud (by kernel_rfl) rfl ?_
    (refine Go.runL (g:=?_))
    refine GoL.callR [h.n + 1] rfl rfl rfl rfl rfl rfl rfl (((rerr_spec (h.n + 1) _ B _ (by rw [restr_get, if_pos (by simp)]; exact gL)).args rfl).mono ?_)
    rintro _ HX rfl HY nw
    have gM2 := nw.same.get gM
    have gR2 := nw.same.get gR
    have nY := nw.same.1
    have hnw := nw.same
    (refine Go.runL (g:=?_))
    refine GoL.st (g:=?_)
    (refine Go.runL (g:=?_))
    refine GoL.end_ (hl := by (simp only [List.nil_append, List.cons_append]); repeat (first | exact loudP.nil | refine loudP.none ?_ | refine loudP.new (fun _ hb => absurd hb List.not_mem_nil) ?_ | refine loudP.row (by repeat (first | exact loudRowP.nil | refine loudRowP.none ?_ | refine loudRowP.bef (by decide +kernel) ?_ | refine loudRowP.apart (by first | exact .inl rfl | exact .inr (by simp)) rfl (by intro i hi; simp only [List.mem_singleton] at hi; subst hi; simp; omega) ?_)) ?_)) ?_
    clear gM gR
    (refine Go.run (g:=?_))
    (refine Go.fin (by first|exact .inr rfl|exact .inl rfl) (.cellN rfl inferInstance hg_ (by first | exact Nat.le_refl _ | (simp [setL, cellsL]; fail_if_success focus skip) | (simp; omega)) rfl (.tmp rfl .nil)) ?_)
    unfold MvPost lineE
    rw [hop]
    cases B
    case true => exact ⟨⟨6, 0, n, n', opZ, 0, 0, none, 0, []⟩, rfl, fun pm hq => by injection hq with hq; injection hq with hq; cases hq⟩
    refine ⟨⟨6, 0, n, n', opZ, 0, 0, none, 0, []⟩, rfl, fun pm hq => ?_⟩
    injection hq with hq
    injection hq with _ hq
    subst hq
    rw [Bool.or_eq_false_iff] at hB
    exact ⟨by show MvV.pm _ = _; rw [num_get hm hB.1, num_get hm' hB.2]; rfl, mvOkK _ (by decide) m0 m1 m0' m1', Own.nil _, Own.nil _, Own.nil _⟩
  rw [if_neg i6] at hki
  match r, hw, hw0, hl, hR, k0, k1 with
  | [], _, _, _, _, _, k1 =>
   obtain ⟨a1, c1, g1, R1, o1⟩ := k1
   have hno : lineQ [w] = none := by simp only [lineQ]; rw [hki, if_pos (by show i ≠ 0; omega)]; rfl
   (refine Go.run (g:=?_))
   (refine Go.fin (by first|exact .inr rfl|exact .inl rfl) (.cellN rfl inferInstance hg_ (by first | exact Nat.le_refl _ | (simp [setL, cellsL]; fail_if_success focus skip) | (simp; omega)) rfl (.tmp rfl .nil)) ?_)
   unfold MvPost lineE
   rw [hno]
   exact ⟨⟨m256 i, 0, 0, 0, opZ, 0, 0, none, 0, []⟩, rfl, fun pm hq => by cases hq⟩
  | x :: y :: t, _, _, _, _, _, k1 =>
   obtain ⟨a1, c1, g1, R1, o1⟩ := k1
   have hno : lineQ (w :: x :: y :: t) = none := by simp only [lineQ]; rw [hki, if_pos (by show i ≠ 0; omega), if_pos (by simp; omega)]
   rw [List.length_cons, List.length_cons] at g1
   (refine Go.run (g:=?_))
   (refine Go.fin (by first|exact .inr rfl|exact .inl rfl) (.cellN rfl inferInstance hg_ (by first | exact Nat.le_refl _ | (simp [setL, cellsL]; fail_if_success focus skip) | (simp; omega)) rfl (.tmp rfl .nil)) ?_)
   unfold MvPost lineE
   rw [hno]
   exact ⟨⟨m256 i, 0, 0, 0, opZ, 0, 0, none, 0, []⟩, rfl, fun pm hq => by cases hq⟩
  | [x], hw, hw0, _, _, _, k1 =>
   have hx := hw x (by simp)
   have hop : lineQ [w, x] = some (nbad x, { k := i, n := numD x }) := by simp only [lineQ]; rw [hki, if_pos (by show i ≠ 0; omega)]; rfl
   obtain ⟨a1, c1, g1, R1, o1⟩ := id k1
   replace g1 : H2.get (h.n + 1) = some (.cells [.slice a1 1 c1, .bool false] 66) := g1
   (refine Go.run (g:=?_))
   refine GoR.callW rfl rfl rfl rfl rfl rfl rfl (((int_spec (h.n + 1) x [] false (by omega) _ (hG.putE g0 _) (k1.putO (by omega) _)).argA).mono ?_)
   rintro _ H3 ⟨n, rfl, m0, m1, hm, k3⟩ kp3
   refine ⟨fun i hi => .inr (by simp at hi; omega), ?_⟩
   rw [him] at kp3
   have g3 := kputS kp3 g0 (by omega)
   have gr3 := kputP kp3 gr (by omega) (by omega)
   have n3 := kp3.1
   rw [AHeap.n_put] at n3
   clear g1 R1 g0 gr k1 kp3
   refine Go.runN (g:=?_)
   refine Go.name ?_
   intro HL eL
   have kL : RdI HL 66 (h.n + 1) [] (nbad x) := by rw [eL]; exact k3.putO (by omega) _
   have gM : HL.get (h.n + 1 + 1) = some (.cells (MvV.cs ⟨i, 0, n, 0, opZ, 0, 0, none, 0, []⟩) 47) := by rw [eL]; exact AHeap.get_put_same _ (AHeap.lt g3) _
   have gR : HL.get h.n = some (.cells mvZ.cs 47) := by rw [eL, AHeap.get_put_ne _ _ (by omega)]; exact gr3
   have nL : HL.n = H3.n := by rw [eL]; rfl
   clear eL g3 gr3 k3
   dsimp only [MvV.cs] at gM
   obtain ⟨a3, c3, gL, R3, o3⟩ := id kL
   replace gL : HL.get (h.n + 1) = some (.cells [.slice a3 0 c3, .bool (nbad x)] 66) := gL
   generalize hB : nbad x = B at *
   refine Go.loud (by kernel_rfl) rfl ?_
   (refine Go.runL (g:=?_))
   refine GoL.callR [h.n + 1] rfl rfl rfl rfl rfl rfl rfl (((rerr_spec (h.n + 1) _ B _ (by rw [restr_get, if_pos (by simp)]; exact gL)).args rfl).mono ?_)
   rintro _ HX rfl HY nw
   have gM2 := nw.same.get gM
   have gR2 := nw.same.get gR
   have nY := nw.same.1
   have hnw := nw.same
   (refine Go.runL (g:=?_))
   refine GoL.st (g:=?_)
   (refine Go.runL (g:=?_))
   refine GoL.end_ (hl := by (simp only [List.nil_append, List.cons_append]); repeat (first | exact loudP.nil | refine loudP.none ?_ | refine loudP.new (fun _ hb => absurd hb List.not_mem_nil) ?_ | refine loudP.row (by repeat (first | exact loudRowP.nil | refine loudRowP.none ?_ | refine loudRowP.bef (by decide +kernel) ?_ | refine loudRowP.apart (by first | exact .inl rfl | exact .inr (by simp)) rfl (by intro i hi; simp only [List.mem_singleton] at hi; subst hi; simp; omega) ?_)) ?_)) ?_
   clear gM gR
   (refine Go.run (g:=?_))
   (refine Go.fin (by first|exact .inr rfl|exact .inl rfl) (.cellN rfl inferInstance hg_ (by first | exact Nat.le_refl _ | (simp [setL, cellsL]; fail_if_success focus skip) | (simp; omega)) rfl (.tmp rfl .nil)) ?_)
   unfold MvPost lineE
   rw [hop]
   cases B
   case true => exact ⟨⟨i, 0, n, 0, opZ, 0, 0, none, 0, []⟩, rfl, fun pm hq => by injection hq with hq; injection hq with hq; cases hq⟩
   refine ⟨⟨i, 0, n, 0, opZ, 0, 0, none, 0, []⟩, rfl, fun pm hq => ?_⟩
   injection hq with hq
   injection hq with _ hq
   subst hq
   exact ⟨by show MvV.pm _ = _; rw [num_get hm hB]; rfl, mvOkK _ (by omega) m0 m1 (by decide) (by decide), Own.nil _, Own.nil _, Own.nil _⟩
 obtain rfl : i = 9 := by omega
 have hkn : kindP w = (0, 0) := kw_none (fun j hj => h2 j hj)
 clear h2
 by_cases q : w = injW
 case pos =>
  have y0 : decide (w = injW) = true := decide_eq_true q
  have y1 : decide (w = callW) = false := by rw [q]; decide
  have y1' : decide (w = callW) = !true := y1
  match r, hw, hw0, hl, hR, k0, k1 with
  | [], _, _, _, _, _, k1 =>
   obtain ⟨a1, c1, g1, R1, o1⟩ := k1
   have hno : lineQ [w] = none := by rw [q]; rfl
   skip
   (refine Go.run (g:=?_))
   (refine Go.fin (by first|exact .inr rfl|exact .inl rfl) (.cellN rfl inferInstance hg_ (by first | exact Nat.le_refl _ | (simp [setL, cellsL]; fail_if_success focus skip) | (simp; omega)) rfl (.tmp rfl .nil)) ?_)
   unfold MvPost lineE
   rw [hno]
   exact ⟨mvZ, rfl, fun pm hq => by cases hq⟩
  | [x], _, _, _, _, _, k1 =>
   obtain ⟨a1, c1, g1, R1, o1⟩ := k1
   have hno : lineQ [w, x] = none := by rw [q]; rfl
   skip
   (refine Go.run (g:=?_))
   (refine Go.fin (by first|exact .inr rfl|exact .inl rfl) (.cellN rfl inferInstance hg_ (by first | exact Nat.le_refl _ | (simp [setL, cellsL]; fail_if_success focus skip) | (simp; omega)) rfl (.tmp rfl .nil)) ?_)
   unfold MvPost lineE
   rw [hno]
   exact ⟨mvZ, rfl, fun pm hq => by cases hq⟩
  | [x, y], _, _, _, _, _, k1 =>
   obtain ⟨a1, c1, g1, R1, o1⟩ := k1
   have hno : lineQ [w, x, y] = none := by rw [q]; rfl
   skip
   (refine Go.run (g:=?_))
   (refine Go.fin (by first|exact .inr rfl|exact .inl rfl) (.cellN rfl inferInstance hg_ (by first | exact Nat.le_refl _ | (simp [setL, cellsL]; fail_if_success focus skip) | (simp; omega)) rfl (.tmp rfl .nil)) ?_)
   unfold MvPost lineE
   rw [hno]
   exact ⟨mvZ, rfl, fun pm hq => by cases hq⟩
  | x :: y :: z :: u :: t, _, _, _, _, _, k1 =>
   obtain ⟨a1, c1, g1, R1, o1⟩ := k1
   have hno : lineQ (w :: x :: y :: z :: u :: t) = none := by rw [q]; rfl
   rw [List.length_cons, List.length_cons, List.length_cons, List.length_cons] at g1
   (refine Go.run (g:=?_))
   (refine Go.fin (by first|exact .inr rfl|exact .inl rfl) (.cellN rfl inferInstance hg_ (by first | exact Nat.le_refl _ | (simp [setL, cellsL]; fail_if_success focus skip) | (simp; omega)) rfl (.tmp rfl .nil)) ?_)
   unfold MvPost lineE
   rw [hno]
   exact ⟨mvZ, rfl, fun pm hq => by cases hq⟩
  | [x, y, z], hw, hw0, _, _, _, k1 =>
   have hx := hw x (by simp)
   have hy := hw y (by simp)
   have hz := hw z (by simp)
   have hz0 := hw0 z (by simp)
   have hop : lineQ [w, x, y, z] = some (ubad w32 x || ubad w32 y || hbad z, { k := 7, fr := upD w32 x, to := upD w32 y, bs := hxD z }) := by rw [q]; rfl
   obtain ⟨a1, c1, g1, R1, o1⟩ := id k1
   replace g1 : H2.get (h.n + 1) = some (.cells [.slice a1 3 c1, .bool false] 66) := g1
   (refine Go.run (g:=?_))
   refine GoR.callW rfl rfl rfl rfl rfl rfl rfl (((up_spec w32 (by decide) (by decide) (h.n + 1) x [y, z] false (by omega) _ (hG.putE g0 _) (k1.putO (by omega) _)).argA).mono ?_)
   rintro _ H3 ⟨u, rfl, -, -, hu, k3⟩ kp3
   refine ⟨fun i hi => .inr (by simp at hi; omega), ?_⟩
   obtain ⟨pu, pu1, pu2, pu3⟩ := wU32 u
   have hG3 := (k1.putO (by omega) _).holds (hG.putE g0 _) kp3
   have g3 := kputS kp3 g0 (by omega)
   have gr3 := kputP kp3 gr (by omega) (by omega)
   have n3 := kp3.1
   rw [AHeap.n_put] at n3
   clear g1 R1 g0 gr k1 kp3
   (refine Go.run (g:=?_))
   refine GoR.convE (pu : Int) rfl rfl rfl rfl rfl pu1 ?_
   (refine Go.run (g:=?_))
   refine GoR.callW rfl rfl rfl rfl rfl rfl rfl (((up_spec w32 (by decide) (by decide) (h.n + 1) y [z] (ubad w32 x) (by omega) _ hG3 k3).argA).mono ?_)
   rintro _ H4 ⟨v, rfl, -, -, hv, k4⟩ kp4
   refine ⟨fun i hi => .inr (by simp at hi; omega), ?_⟩
   obtain ⟨pv, pv1, pv2, pv3⟩ := wU32 v
   have hG4 := k3.holds hG3 kp4
   have g4 := kput kp4 g3 (by simp)
   have gr4 := kput kp4 gr3 (by simp)
   have n4 := kp4.1
   clear g3 gr3 k3 kp4
   (refine Go.run (g:=?_))
   refine GoR.convE (pv : Int) rfl rfl rfl rfl rfl pv1 ?_
   (refine Go.run (g:=?_))
   refine GoR.callW rfl rfl rfl rfl rfl rfl rfl (((bytes_spec (h.n + 1) z [] (ubad w32 x || ubad w32 y) (by omega) hz0 _ hG4 k4).argA).mono ?_)
   rintro _ H5 ⟨ba, bc, zs, rfl, S5, ow5, zl, hzs, k5⟩ kp5
   refine ⟨fun i hi => .inr (by simp at hi; omega), ?_⟩
   have g5 := kput kp5 g4 (by simp)
   have gr5 := kput kp5 gr4 (by simp)
   have n5 := kp5.1
   clear g4 gr4 k4 kp5
   refine Go.runN (g:=?_)
   refine Go.name ?_
   intro HL eL
   have kL : RdI HL 66 (h.n + 1) [] (ubad w32 x || ubad w32 y || hbad z) := by rw [eL]; exact k5.putO (by omega) _
   have gM : HL.get (h.n + 1 + 1) = some (.cells (MvV.cs ⟨7, 0, 0, 0, opZ, pu, pv, ba, bc, zs⟩) 47) := by rw [eL]; exact AHeap.get_put_same _ (AHeap.lt g5) _
   have gR : HL.get h.n = some (.cells mvZ.cs 47) := by rw [eL, AHeap.get_put_ne _ _ (by omega)]; exact gr5
   have nL : HL.n = H5.n := by rw [eL]; rfl
   have SL : Sv HL 5 1 ba zs.length bc (zs.map bv) := by rw [eL]; exact S5.put (fun hi => by have := ow5 _ hi; omega) _
   clear eL g5 gr5 k5
   dsimp only [MvV.cs] at gM
   obtain ⟨a3, c3, gL, R3, o3⟩ := id kL
   replace gL : HL.get (h.n + 1) = some (.cells [.slice a3 0 c3, .bool (ubad w32 x || ubad w32 y || hbad z)] 66) := gL
   generalize hB : (ubad w32 x || ubad w32 y || hbad z) = B at *
   refine Go.loud (by kernel_rfl) rfl ?_
   (refine Go.runL (g:=?_))
   refine GoL.callR [h.n + 1] rfl rfl rfl rfl rfl rfl rfl (((rerr_spec (h.n + 1) _ B _ (by rw [restr_get, if_pos (by simp)]; exact gL)).args rfl).mono ?_)
   rintro _ HX rfl HY nw
   have gM2 := nw.same.get gM
   have gR2 := nw.same.get gR
   have nY := nw.same.1
   have hnw := nw.same
   (refine Go.runL (g:=?_))
   refine GoL.st (g:=?_)
   (refine Go.runL (g:=?_))
   refine GoL.end_ (hl := by (simp only [List.nil_append, List.cons_append]); repeat (first | exact loudP.nil | refine loudP.none ?_ | refine loudP.new (fun _ hb => absurd hb List.not_mem_nil) ?_ | refine loudP.row (by repeat (first | exact loudRowP.nil | refine loudRowP.none ?_ | refine loudRowP.bef (by decide +kernel) ?_ | refine loudRowP.apart (by first | exact .inl rfl | exact .inr (by simp)) rfl (by intro i hi; simp only [List.mem_singleton] at hi; subst hi; simp; omega) ?_)) ?_)) ?_
   clear gM gR
   (refine Go.run (g:=?_))
   (refine Go.fin (by first|exact .inr rfl|exact .inl rfl) (.cellN rfl inferInstance hg_ (by first | exact Nat.le_refl _ | (simp [setL, cellsL]; fail_if_success focus skip) | (simp; omega)) rfl (.tmp rfl .nil)) ?_)
   unfold MvPost lineE
   rw [hop]
   cases B
   case true => exact ⟨⟨7, 0, 0, 0, opZ, pu, pv, ba, bc, zs⟩, rfl, fun pm hq => by injection hq with hq; injection hq with hq; cases hq⟩
   refine ⟨⟨7, 0, 0, 0, opZ, pu, pv, ba, bc, zs⟩, rfl, fun pm hq => ?_⟩
   injection hq with hq
   injection hq with _ hq
   subst hq
   rw [Bool.or_eq_false_iff, Bool.or_eq_false_iff] at hB
   obtain ⟨⟨b1, b2⟩, b3⟩ := hB
   refine ⟨?_, ⟨(show 7 < 256 by decide), (show 0 < 256 by decide), (show (-9223372036854775808 : Int) ≤ 0 by decide), (show (0 : Int) < 9223372036854775808 by decide), (show (-9223372036854775808 : Int) ≤ 0 by decide), (show (0 : Int) < 9223372036854775808 by decide), opOkZ _, (by show pu < 4294967296; omega), (by show pv < 4294967296; omega), ?_, (by show zs.length ≤ 2000000; omega)⟩, Own.nil _, Own.nil _, fun i hi => by have := ow5 i hi; omega⟩
   ·
    show MvV.pm _ = _
    rw [show pu = upD w32 x from up_w hu (lim := 4294967296) (by decide) pu3 b1, show pv = upD w32 y from up_w hv (lim := 4294967296) (by decide) pv3 b2, hx_get hzs b3]; rfl
   · exact (SL.rv.same hnw).put (fun hi => by have := ow5 _ hi; omega) _
 have y0 : decide (w = injW) = false := decide_eq_false q
 have y0' : decide (w = injW) = !true := y0
 by_cases q2 : w = callW
 case neg =>
  have y1 : decide (w = callW) = false := decide_eq_false q2
  have y1' : decide (w = callW) = !true := y1
  have hno : lineQ (w :: r) = none := by simp only [lineQ]; rw [hkn, if_neg (by decide), if_neg q, if_neg q2]
  obtain ⟨a1, c1, g1, R1, o1⟩ := k1
  (refine Go.run (g:=?_))
  (refine Go.fin (by first|exact .inr rfl|exact .inl rfl) (.cellN rfl inferInstance hg_ (by first | exact Nat.le_refl _ | (simp [setL, cellsL]; fail_if_success focus skip) | (simp; omega)) rfl (.tmp rfl .nil)) ?_)
  unfold MvPost lineE
  rw [hno]
  exact ⟨mvZ, rfl, fun pm hq => by cases hq⟩
 case pos =>
  have y1 : decide (w = callW) = true := decide_eq_true q2
  match r, hw, hw0, hl, hR, k0, k1 with
  | [], _, _, _, _, _, k1 =>
   obtain ⟨a1, c1, g1, R1, o1⟩ := k1
   have hno : lineQ [w] = none := by rw [q2]; rfl
   skip
   (refine Go.run (g:=?_))
   (refine Go.fin (by first|exact .inr rfl|exact .inl rfl) (.cellN rfl inferInstance hg_ (by first | exact Nat.le_refl _ | (simp [setL, cellsL]; fail_if_success focus skip) | (simp; omega)) rfl (.tmp rfl .nil)) ?_)
   unfold MvPost lineE
   rw [hno]
   exact ⟨mvZ, rfl, fun pm hq => by cases hq⟩
  | [x], _, _, _, _, _, k1 =>
   obtain ⟨a1, c1, g1, R1, o1⟩ := k1
   have hno : lineQ [w, x] = none := by rw [q2]; rfl
   skip
   (refine Go.run (g:=?_))
   (refine Go.fin (by first|exact .inr rfl|exact .inl rfl) (.cellN rfl inferInstance hg_ (by first | exact Nat.le_refl _ | (simp [setL, cellsL]; fail_if_success focus skip) | (simp; omega)) rfl (.tmp rfl .nil)) ?_)
   unfold MvPost lineE
   rw [hno]
   exact ⟨mvZ, rfl, fun pm hq => by cases hq⟩
  | x :: s :: t, hw, hw0, hl, _, _, k1 =>
   have hx := hw x (by simp)
   have hwt : ∀ z ∈ s :: t, z.length ≤ 1000000 := fun z hz => hw z (by simp at hz ⊢; rcases hz with e | e <;> simp [e])
   have hwt0 : ∀ z ∈ s :: t, z ≠ [] := fun z hz => hw0 z (by simp at hz ⊢; rcases hz with e | e <;> simp [e])
   have hlt : t.length ≤ 800000 := by simp only [List.length_cons] at hl; omega
   have hlq : lineQ (w :: x :: s :: t) = (opP (if s = blockW then t else s :: t)).map fun y => (ubad 1 x || y.1, { y.2 with k := 1, host := upD 1 x, blk := decide (s = blockW) }) := by rw [q2]; rfl
   obtain ⟨a1, c1, g1, R1, o1⟩ := id k1
   rw [List.length_cons, List.length_cons] at g1
   (refine Go.run (g:=?_))
   refine GoR.callW rfl rfl rfl rfl rfl rfl rfl (((up_spec 1 (by decide) (by decide) (h.n + 1) x (s :: t) false (by omega) _ hG k1).argA).mono ?_)
   rintro _ H3 ⟨u, rfl, -, -, hu, k3⟩ kp3
   refine ⟨fun i hi => .inr (by simp at hi; omega), ?_⟩
   obtain ⟨pu, pu1, pu2, pu3⟩ := wU8 u
   have hG3 := k1.holds hG kp3
   have g3 := kput kp3 g0 (by simp)
   have gr3 := kput kp3 gr (by simp)
   have n3 := kp3.1
   clear g1 R1 g0 gr k1 kp3
   (refine Go.run (g:=?_))
   refine GoR.convE (pu : Int) rfl rfl rfl rfl rfl pu1 ?_
   (refine Go.run (g:=?_))
   refine GoR.name ?_
   intro H4 e4
   have k4 : RdI H4 66 (h.n + 1) (s :: t) (ubad 1 x) := by rw [e4]; exact (k3.putO (by omega) _).putO (by omega) _
   have g4 : H4.get (h.n + 1 + 1) = some (.cells (MvV.cs ⟨1, pu, 0, 0, opZ, 0, 0, none, 0, []⟩) 47) := by rw [e4]; exact AHeap.get_put_same _ (by rw [AHeap.n_put]; exact AHeap.lt g3) _
   have gr4 : H4.get h.n = some (.cells mvZ.cs 47) := by rw [e4, AHeap.get_put_ne _ _ (by omega), AHeap.get_put_ne _ _ (by omega)]; exact gr3
   have n4 : H4.n = H3.n := by rw [e4]; rfl
   have hG4 : Holds GE H4 := by rw [e4]; exact (hG3.putE g3 _).putE (AHeap.get_put_same _ (AHeap.lt g3) _) _
   clear e4 g3 gr3 k3 hG3
   obtain ⟨a4, c4, gb4, R4, o4⟩ := id k4
   rw [List.length_cons] at gb4 R4
   rw [List.map_cons] at R4
   (refine Go.run (g:=?_))
   by_cases sb : s = blockW
   case pos =>
    have zb : decide (s = blockW) = true := decide_eq_true sb
    rw [if_pos sb, zb] at hlq
    (refine Go.run (g:=?_))
    refine GoR.name ?_
    intro H5 e5
    have k5 : RdI H5 66 (h.n + 1) (s :: t) (ubad 1 x) := by rw [e5]; exact k4.putO (by omega) _
    have g5 : H5.get (h.n + 1 + 1) = some (.cells (mvO pu ⟨0, 0, none, 0, [], 0, 0, false, 0, none, 0, [], true⟩).cs 47) := by rw [e5, show decide (s = [98, 108, 111, 99, 107]) = true from zb]; exact AHeap.get_put_same _ (AHeap.lt g4) _
    have gr5 : H5.get h.n = some (.cells mvZ.cs 47) := by rw [e5, AHeap.get_put_ne _ _ (by omega)]; exact gr4
    have n5 : H5.n = H4.n := by rw [e5]; rfl
    have hG5 : Holds GE H5 := by rw [e5]; exact hG4.putE g4 _
    clear e5 g4 gr4 k4 gb4 R4 hG4
    refine GoR.callW rfl rfl rfl rfl rfl rfl rfl (((word_spec (h.n + 1) s t (ubad 1 x) _ k5).argA).mono ?_)
    rintro _ H6 ⟨rfl, k6⟩ kp6
    refine ⟨fun i hi => .inr (by simp at hi; omega), ?_⟩
    have hG6 := k5.holds hG5 kp6
    have g6 := kput kp6 g5 (by simp)
    have gr6 := kput kp6 gr5 (by simp)
    have n6 := kp6.1
    clear g5 gr5 k5 kp6 hG5
    have hwq : ∀ z ∈ t, z.length ≤ 1000000 := fun z hz => hwt z (by simp [hz])
    have hwq0 : ∀ z ∈ t, z ≠ [] := fun z hz => hwt0 z (by simp [hz])
    have hlq' : t.length ≤ 900000 := by omega
    generalize t = ws at *
    (refine Go.run (g:=?_))
    refine GoR.callW rfl rfl rfl rfl rfl rfl rfl (((op_spec (h.n + 1) (h.n + 1 + 1) pu true ws (ubad 1 x) hwq hwq0 hlq' _ hG6 (by omega) k6 g6).argA).mono ?_)
    rintro _ HL ⟨e, o, rfl, gM, hnone, hsome⟩ kpL
    refine ⟨fun i hi => .inr (by simp at hi; omega), ?_⟩
    have gR := kput kpL gr6 (by simp; omega)
    have nL := kpL.1
    clear g6 gr6 kpL k6
    dsimp only [OpV.cs, MvV.cs, mvO] at gM
    cases hop : opP ws with
    | none =>
     obtain rfl := hnone hop
     have hno := hlq
     rw [hop] at hno
     replace hno : lineQ _ = none := hno
     clear hsome hnone
     (refine Go.run (g:=?_))
     (refine Go.fin (by first|exact .inr rfl|exact .inl rfl) (.cellN rfl inferInstance hg_ (by first | exact Nat.le_refl _ | (simp [setL, cellsL]; fail_if_success focus skip) | (simp; omega)) rfl (.tmp rfl .nil)) ?_)
     unfold MvPost lineE
     rw [hno]
     exact ⟨mvO pu o, rfl, fun pm hq => by cases hq⟩
    | some y =>
     obtain ⟨bq, pm⟩ := y
     have hop' := hlq
     rw [hop] at hop'
     obtain ⟨rfl, ⟨r', k7⟩, hpm, ok, hbk, oA, oD⟩ := hsome bq pm hop
     clear hsome hnone hop
     have hop : lineQ _ = some (ubad 1 x || bq, { pm with k := 1, host := upD 1 x, blk := true }) := hop'
     clear hop'
     obtain ⟨a7, c7, gL, R7, o7⟩ := id k7
     generalize hB : (ubad 1 x || bq) = B at *
     refine Go.runN (g:=?_)
     refine Go.loud (by kernel_rfl) rfl ?_
     (refine Go.runL (g:=?_))
     refine GoL.callR [h.n + 1] rfl rfl rfl rfl rfl rfl rfl (((rerr_spec (h.n + 1) _ B _ (by rw [restr_get, if_pos (by simp)]; exact gL)).args rfl).mono ?_)
     rintro _ HX rfl HY nw
     have gM2 := nw.same.get gM
     have gR2 := nw.same.get gR
     have nY := nw.same.1
     have hnw := nw.same
     (refine Go.runL (g:=?_))
     refine GoL.st (g:=?_)
     (refine Go.runL (g:=?_))
     refine GoL.end_ (hl := by (simp only [List.nil_append, List.cons_append]); repeat (first | exact loudP.nil | refine loudP.none ?_ | refine loudP.new (fun _ hb => absurd hb List.not_mem_nil) ?_ | refine loudP.row (by repeat (first | exact loudRowP.nil | refine loudRowP.none ?_ | refine loudRowP.bef (by decide +kernel) ?_ | refine loudRowP.apart (by first | exact .inl rfl | exact .inr (by simp)) rfl (by intro i hi; simp only [List.mem_singleton] at hi; subst hi; simp; omega) ?_)) ?_)) ?_
     clear gM gR
     (refine Go.run (g:=?_))
     (refine Go.fin (by first|exact .inr rfl|exact .inl rfl) (.cellN rfl inferInstance hg_ (by first | exact Nat.le_refl _ | (simp [setL, cellsL]; fail_if_success focus skip) | (simp; omega)) rfl (.tmp rfl .nil)) ?_)
     unfold MvPost lineE
     rw [hop]
     cases B
     case true => exact ⟨mvO pu o, rfl, fun pm hq => by injection hq with hq; injection hq with hq; cases hq⟩
     refine ⟨mvO pu o, rfl, fun pm hq => ?_⟩
     injection hq with hq
     injection hq with _ hq
     subst hq
     rw [Bool.or_eq_false_iff] at hB
     refine ⟨?_, ⟨(show 1 < 256 by decide), (by show pu < 256; omega), (show (-9223372036854775808 : Int) ≤ 0 by decide), (show (0 : Int) < 9223372036854775808 by decide), (show (-9223372036854775808 : Int) ≤ 0 by decide), (show (0 : Int) < 9223372036854775808 by decide), ?_, (show 0 < 4294967296 by decide), (show 0 < 4294967296 by decide), .nil, (show 0 ≤ 2000000 by decide)⟩, fun i hi => by have := oA i hi; omega, fun i hi => by have := oD i hi; omega, Own.nil _⟩
     · rw [show pu = upD 1 x from up_w hu (lim := 256) (by decide) pu3 hB.1, ← hpm hB.2, ← hbk]; rfl
     · exact (ok.same hnw).put' (fun hi => by have := oA _ hi; omega) (fun hi => by have := oD _ hi; omega) _
   case neg =>
    have zb : decide (s = blockW) = false := decide_eq_false sb
    have zb' : decide (s = blockW) = !true := zb
    rw [if_neg sb, zb] at hlq
    have hlq' : (s :: t).length ≤ 900000 := by rw [List.length_cons]; omega
    have hwq := hwt
    have hwq0 := hwt0
    (refine Go.run (g:=?_))
    refine GoR.name ?_
    intro H6 e6
    have k6 : RdI H6 66 (h.n + 1) (s :: t) (ubad 1 x) := by rw [e6]; exact k4.putO (by omega) _
    have g6 : H6.get (h.n + 1 + 1) = some (.cells (mvO pu ⟨0, 0, none, 0, [], 0, 0, false, 0, none, 0, [], false⟩).cs 47) := by rw [e6, show decide (s = [98, 108, 111, 99, 107]) = false from zb]; exact AHeap.get_put_same _ (AHeap.lt g4) _
    have gr6 : H6.get h.n = some (.cells mvZ.cs 47) := by rw [e6, AHeap.get_put_ne _ _ (by omega)]; exact gr4
    have n6 : H6.n = H4.n := by rw [e6]; rfl
    have hG6 : Holds GE H6 := by rw [e6]; exact hG4.putE g4 _
    clear e6 g4 gr4 k4 gb4 R4 hG4
    obtain ⟨ws, hws⟩ : ∃ l, l = s :: t := ⟨_, rfl⟩
    rw [← hws] at hlq' hwq hwq0 hlq k6 ⊢
    (refine Go.run (g:=?_))
    refine GoR.callW rfl rfl rfl rfl rfl rfl rfl (((op_spec (h.n + 1) (h.n + 1 + 1) pu false ws (ubad 1 x) hwq hwq0 hlq' _ hG6 (by omega) k6 g6).argA).mono ?_)
    rintro _ HL ⟨e, o, rfl, gM, hnone, hsome⟩ kpL
    refine ⟨fun i hi => .inr (by simp at hi; omega), ?_⟩
    have gR := kput kpL gr6 (by simp; omega)
    have nL := kpL.1
    clear g6 gr6 kpL k6
    dsimp only [OpV.cs, MvV.cs, mvO] at gM
    cases hop : opP ws with
    | none =>
     obtain rfl := hnone hop
     have hno := hlq
     rw [hop] at hno
     replace hno : lineQ _ = none := hno
     clear hsome hnone
     (refine Go.run (g:=?_))
     (refine Go.fin (by first|exact .inr rfl|exact .inl rfl) (.cellN rfl inferInstance hg_ (by first | exact Nat.le_refl _ | (simp [setL, cellsL]; fail_if_success focus skip) | (simp; omega)) rfl (.tmp rfl .nil)) ?_)
     unfold MvPost lineE
     rw [hno]
     exact ⟨mvO pu o, rfl, fun pm hq => by cases hq⟩
    | some y =>
     obtain ⟨bq, pm⟩ := y
     have hop' := hlq
     rw [hop] at hop'
     obtain ⟨rfl, ⟨r', k7⟩, hpm, ok, hbk, oA, oD⟩ := hsome bq pm hop
     clear hsome hnone hop
     have hop : lineQ _ = some (ubad 1 x || bq, { pm with k := 1, host := upD 1 x, blk := false }) := hop'
     clear hop'
     obtain ⟨a7, c7, gL, R7, o7⟩ := id k7
     generalize hB : (ubad 1 x || bq) = B at *
     refine Go.runN (g:=?_)
     refine Go.loud (by kernel_rfl) rfl ?_
     (refine Go.runL (g:=?_))
     refine GoL.callR [h.n + 1] rfl rfl rfl rfl rfl rfl rfl (((rerr_spec (h.n + 1) _ B _ (by rw [restr_get, if_pos (by simp)]; exact gL)).args rfl).mono ?_)
     rintro _ HX rfl HY nw
     have gM2 := nw.same.get gM
     have gR2 := nw.same.get gR
     have nY := nw.same.1
     have hnw := nw.same
     (refine Go.runL (g:=?_))
     refine GoL.st (g:=?_)
     (refine Go.runL (g:=?_))
     refine GoL.end_ (hl := by (simp only [List.nil_append, List.cons_append]); repeat (first | exact loudP.nil | refine loudP.none ?_ | refine loudP.new (fun _ hb => absurd hb List.not_mem_nil) ?_ | refine loudP.row (by repeat (first | exact loudRowP.nil | refine loudRowP.none ?_ | refine loudRowP.bef (by decide +kernel) ?_ | refine loudRowP.apart (by first | exact .inl rfl | exact .inr (by simp)) rfl (by intro i hi; simp only [List.mem_singleton] at hi; subst hi; simp; omega) ?_)) ?_)) ?_
     clear gM gR
     (refine Go.run (g:=?_))
     (refine Go.fin (by first|exact .inr rfl|exact .inl rfl) (.cellN rfl inferInstance hg_ (by first | exact Nat.le_refl _ | (simp [setL, cellsL]; fail_if_success focus skip) | (simp; omega)) rfl (.tmp rfl .nil)) ?_)
     unfold MvPost lineE
     rw [hop]
     cases B
     case true => exact ⟨mvO pu o, rfl, fun pm hq => by injection hq with hq; injection hq with hq; cases hq⟩
     refine ⟨mvO pu o, rfl, fun pm hq => ?_⟩
     injection hq with hq
     injection hq with _ hq
     subst hq
     rw [Bool.or_eq_false_iff] at hB
     refine ⟨?_, ⟨(show 1 < 256 by decide), (by show pu < 256; omega), (show (-9223372036854775808 : Int) ≤ 0 by decide), (show (0 : Int) < 9223372036854775808 by decide), (show (-9223372036854775808 : Int) ≤ 0 by decide), (show (0 : Int) < 9223372036854775808 by decide), ?_, (show 0 < 4294967296 by decide), (show 0 < 4294967296 by decide), .nil, (show 0 ≤ 2000000 by decide)⟩, fun i hi => by have := oA i hi; omega, fun i hi => by have := oD i hi; omega, Own.nil _⟩
     · rw [show pu = upD 1 x from up_w hu (lim := 256) (by decide) pu3 hB.1, ← hpm hB.2, ← hbk]; rfl
     · exact (ok.same hnw).put' (fun hi => by have := oA _ hi; omega) (fun hi => by have := oD _ hi; omega) _
end Go.Proofs.YtncbbeghkpjpbaaDoor
namespace Go.Proofs.YtncbbeghkpjpbaaDoor
open Go.RowKit
set_option maxRecDepth 100000
attribute [local irreducible] Go GoR GoL
def mvcs (ms : List MvV) : List Value := ms.flatMap MvV.cs
theorem mvcs_len (ms : List MvV) : (mvcs ms).length = 16 * ms.length := by
 induction ms with
 | nil => rfl
 | cons m ms ih => simp only [mvcs, List.flatMap_cons, List.length_append, List.length_cons, List.length_nil] at *; omega
def parseP : List (List W) → Nat → List PM → Nat × Nat × List PM
 | [], _, out => (0, 0, out)
 | ws :: rest, n, out =>
  if ws = [] then parseP rest (n + 1) out else
  match lineQ ws with
  | none => (n + 1, 2, [])
  | some (true, _) => (n + 1, 5, [])
  | some (false, pm) => if out.length = 5000 then (n + 1, 3, []) else parseP rest (n + 1) (out ++ [pm])
theorem parseP_skip (rest : List (List W)) (n : Nat) (out : List PM) : parseP ([] :: rest) n out = parseP rest (n + 1) out := rfl
theorem parseP_err {ws : List W} (h : ws ≠ []) (he : lineE ws ≠ 0) (rest : List (List W)) (n : Nat) (out : List PM) : parseP (ws :: rest) n out = (n + 1, lineE ws, []) := by
 unfold lineE at he ⊢
 rw [parseP, if_neg h]
 cases hq : lineQ ws with
 | none => rfl
 | some y =>
  obtain ⟨b, pm⟩ := y
  cases b with
  | true => rfl
  | false => rw [hq] at he; exact absurd rfl he
theorem lineE_ok {ws : List W} (he : lineE ws = 0) : ∃ pm, lineQ ws = some (false, pm) := by
 unfold lineE at he
 cases hq : lineQ ws with
 | none => rw [hq] at he; cases he
 | some y =>
  obtain ⟨b, pm⟩ := y
  cases b with
  | true => rw [hq] at he; cases he
  | false => exact ⟨pm, rfl⟩
theorem lineE_le (ws : List W) : lineE ws = 0 ∨ lineE ws = 2 ∨ lineE ws = 5 := by
 unfold lineE
 cases lineQ ws with
 | none => exact .inr (.inl rfl)
 | some y =>
  obtain ⟨b, pm⟩ := y
  cases b with
  | true => exact .inr (.inr rfl)
  | false => exact .inl rfl
theorem parseP_full {ws : List W} {pm : PM} (h : ws ≠ []) (hq : lineQ ws = some (false, pm)) (rest : List (List W)) (n : Nat) {out : List PM} (ho : out.length = 5000) : parseP (ws :: rest) n out = (n + 1, 3, []) := by
 rw [parseP, if_neg h, hq]
 show (if out.length = 5000 then _ else _) = _
 rw [if_pos ho]
theorem parseP_ok {ws : List W} {pm : PM} (h : ws ≠ []) (hq : lineQ ws = some (false, pm)) (rest : List (List W)) (n : Nat) {out : List PM} (ho : out.length ≠ 5000) : parseP (ws :: rest) n out = parseP rest (n + 1) (out ++ [pm]) := by
 rw [parseP, if_neg h, hq]
 show (if out.length = 5000 then _ else _) = _
 rw [if_neg ho]
def wordsP (l : List UInt8) : List W := fld (semi l)
theorem wordsP_len (l : List UInt8) : (wordsP l).length ≤ l.length + 1 := by
 have h1 := spFin_len (semi l) (semi l).length
 have h2 := (semi_facts l).1
 unfold wordsP fld
 rw [List.length_map]
 omega
theorem wordsP_mem {l : List UInt8} {w : W} (h : w ∈ wordsP l) : w ≠ [] ∧ w.length ≤ l.length := by
 unfold wordsP fld at h
 obtain ⟨p, hp, rfl⟩ := List.mem_map.1 h
 have h2 := (semi_facts l).1
 have hlt : p.1 < p.2 ∧ p.2 ≤ (semi l).length := by
  obtain ⟨q1, q2, q3⟩ := spans_bound (semi l) (semi l).length
  unfold spFin at hp
  split at hp
  ·
   rename_i a ha
   rcases List.mem_append.1 hp with hp | hp
   · exact q1 p hp
   ·
    simp at hp; subst hp
    exact ⟨q2 a ha, Nat.le_refl _⟩
  · exact q1 p hp
 have hl : (subW (semi l) p).length = p.2 - p.1 := by unfold subW; rw [List.length_take, List.length_drop]; omega
 exact ⟨fun e => by rw [e] at hl; simp at hl; omega, by omega⟩
theorem splitNL_mem : ∀ {s l : List UInt8}, l ∈ splitNL s → l.length ≤ s.length
 | [], l, h => by simp [splitNL] at h; subst h; simp
 | c :: s, l, h => by
  rw [splitNL] at h
  split at h
  ·
   rcases List.mem_cons.1 h with rfl | h
   · simp
   · have := splitNL_mem h; simp; omega
  ·
   split at h
   ·
    rename_i l0 ls e
    rcases List.mem_cons.1 h with rfl | h
    ·
     have := @splitNL_mem s l0 (by rw [e]; exact List.mem_cons_self ..)
     simp; exact this
    ·
     have := @splitNL_mem s l (by rw [e]; exact List.mem_cons_of_mem _ h)
     simp; omega
   · simp at h; subst h; simp
def parseR (s : List UInt8) : Nat × Nat × List PM := parseP ((splitNL s).map wordsP) 0 []
def ParPost (s : List UInt8) (v : Value) (h' : AHeap) : Prop := ∃ (ms : List MvV) (a : Option Addr) (cap : Nat), v = .tuple #[.slice a ms.length cap, .int .i64 ((parseR s).1 : Nat), .int .i64 ((parseR s).2.1 : Nat)] ∧ ms.map MvV.pm = (parseR s).2.2 ∧ ms.length ≤ 5000 ∧ Rv Tryd.prog h' 16 a ms.length cap (mvcs ms) ∧ ∀ m ∈ ms, MvOk h' m
structure Ps (H : AHeap) (n0 : Nat) (ms : List MvV) (oa : Option Addr) (oc : Nat) : Prop where
 S : Sv H 47 16 oa ms.length oc (mvcs ms)
 ow : Own n0 oa
 ok : ∀ m ∈ ms, MvOk H m
 ap : ∀ m ∈ ms, ∀ i, i ∈ blk m.o.aa ∨ i ∈ blk m.o.da ∨ i ∈ blk m.ba → i ∉ blk oa
 l : ms.length ≤ 5000
theorem MvOk.keeps {wr : List Nat} {h h' : AHeap} {m : MvV} (x : MvOk h m) (s : Keeps wr h h') (hn : ∀ i, i ∈ blk m.o.aa ∨ i ∈ blk m.o.da ∨ i ∈ blk m.ba → i ∉ wr) : MvOk h' m := ⟨x.k, x.host, x.n0, x.n1, x.b0, x.b1, ⟨x.o.k, x.o.id0, x.o.id1, x.o.A.keeps s (fun i hi => hn i (.inl hi)), x.o.ab, x.o.al, x.o.port, x.o.sid, x.o.ppid, x.o.D.keeps s (fun i hi => hn i (.inr (.inl hi))), x.o.zl⟩, x.fr, x.to, x.B.keeps s (fun i hi => hn i (.inr (.inr hi))), x.bl⟩
theorem MvOk.lt {h : AHeap} {m : MvV} (x : MvOk h m) {i : Nat} (hi : i ∈ blk m.o.aa ∨ i ∈ blk m.o.da ∨ i ∈ blk m.ba) : i < h.n := by
 rcases hi with hi | hi | hi
 · exact x.o.A.lt i hi
 · exact x.o.D.lt i hi
 · exact x.B.lt i hi
theorem Ps.same {H H' : AHeap} {n0 : Nat} {ms : List MvV} {oa : Option Addr} {oc : Nat} (p : Ps H n0 ms oa oc) (s : Same H H') : Ps H' n0 ms oa oc := ⟨p.S.same s, p.ow, fun m hm => (p.ok m hm).same s, p.ap, p.l⟩
theorem Ps.add {H H' : AHeap} {n0 : Nat} {ms : List MvV} {oa b : Option Addr} {oc c : Nat} {m : MvV} (p : Ps H n0 ms oa oc) (hm : MvOk H m) (ha : ∀ i, i ∈ blk m.o.aa ∨ i ∈ blk m.o.da ∨ i ∈ blk m.ba → i ∉ blk oa) (k : Keeps (blk oa) H H') (v : Sv H' 47 16 b (ms.length + 1) c (mvcs ms ++ mvcs [m])) (o : ∀ i ∈ blk b, i ∈ blk oa ∨ H.n ≤ i) (hn : n0 ≤ H.n) (hl : ms.length < 5000) : Ps H' n0 (ms ++ [m]) b c := by
 refine ⟨?_, fun i hi => (o i hi).elim (p.ow i) (fun e => by omega), fun x hx => ?_, fun x hx i hi hb => ?_, by simp; omega⟩
 · rw [List.length_append, show mvcs (ms ++ [m]) = mvcs ms ++ mvcs [m] by simp [mvcs]]; exact v
 ·
  rcases List.mem_append.1 hx with hx | hx
  · exact (p.ok x hx).keeps k (p.ap x hx)
  ·
   obtain rfl := List.mem_singleton.1 hx
   exact hm.keeps k ha
 ·
  rcases o i hb with hb | hb
  ·
   rcases List.mem_append.1 hx with hx | hx
   · exact p.ap x hx i hi hb
   ·
    obtain rfl := List.mem_singleton.1 hx
    exact ha i hi hb
  ·
   rcases List.mem_append.1 hx with hx | hx
   · have := (p.ok x hx).lt hi; omega
   ·
    obtain rfl := List.mem_singleton.1 hx
    have := hm.lt hi; omega
theorem GE_lt {i : Nat} {o : AObj} (e : GE.get i = some o) : i < 10 := AHeap.lt e
set_option maxHeartbeats 32000000 in
theorem sparse_spec (s : List UInt8) (hs : s.length ≤ 20000) (h : AHeap) (hG : Holds GE h) : CallS Tryd.prog [] 6 [stv s] h fun v h' => ParPost s v h' := by
 (refine CallS.of1 Tryd.func6 rfl Tryd.ntmps6 Tryd.results6 rfl ?_)
 (refine Go.run (g:=?_))
 refine GoR.call rfl rfl rfl rfl rfl rfl rfl (((split_spec s (by omega) _).argA).mono ?_)
 rintro _ H1 ⟨a, cap, rfl, R1⟩ s1
 have hG1 := hG.same s1
 have n1 := s1.1
 have hLl : (splitNL s).length ≤ 20001 := by rw [splitNL_len]; have := List.count_le_length (a := (10 : UInt8)) (l := s); omega
 obtain ⟨LS, hLS⟩ : ∃ l, l = splitNL s := ⟨_, rfl⟩
 have hmem : ∀ l ∈ LS, l.length ≤ 20000 := fun l hl => by rw [hLS] at hl; have := splitNL_mem hl; omega
 have hP : parseR s = parseP (LS.map wordsP) 0 [] := by rw [hLS]; rfl
 rw [← hLS] at R1 hLl ⊢
 (refine Go.run (g:=?_))
 refine Go.loop (α := Nat × List MvV × Option Addr × Nat × AHeap) (fun x => [(5, .slice x.2.2.1 x.2.1.length x.2.2.2.1), (15, .slice a LS.length cap), (16, .int .i64 (LS.length : Nat)), (17, .int .i64 (x.1 : Nat))]) (fun _ => []) (fun x => x.2.2.2.2) (fun x => x.1 ≤ LS.length ∧ parseR s = parseP ((LS.drop x.1).map wordsP) x.1 (x.2.1.map MvV.pm) ∧ Ps x.2.2.2.2 H1.n x.2.1 x.2.2.1 x.2.2.2.1 ∧ Rv Tryd.prog x.2.2.2.2 1 a LS.length cap (LS.map stv) ∧ Holds GE x.2.2.2.2 ∧ H1.n ≤ x.2.2.2.2.n) (fun x => LS.length - x.1) (0, [], none, 0, H1) ⟨Nat.zero_le _, hP, ⟨.nil, Own.nil _, (fun m hm => by cases hm), (fun m hm => by cases hm), Nat.zero_le _⟩, R1, hG1, Nat.le_refl _⟩ ⟨rfl, rfl, rfl, rfl, trivial⟩ rfl rfl ?_
 have R1lt := R1.lt
 have gen : GE.n ≤ H1.n := hG1.1
 clear hP hG1 R1
 rintro ⟨i, ms, oa, oc, H⟩ ⟨h1, h2, h3, h4, h5, h6⟩
 simp only at h1 h2 h3 h4 h5 h6 ⊢
 rcases Nat.lt_or_ge i LS.length with hi | hi
 case inr =>
  obtain rfl : i = LS.length := by omega
  rw [List.drop_length] at h2
  (refine Go.run (g:=?_))
  (first|refine Go.finA rfl ?_|refine Go.finB rfl (hq:=?_))
  exact ⟨ms, oa, oc, by rw [h2]; rfl, by rw [h2]; rfl, h3.l, h3.S.rv, h3.ok⟩
 obtain ⟨l, hlm⟩ : ∃ l, LS[i]? = some l := ⟨_, List.getElem?_eq_getElem hi⟩
 have hll := hmem l (List.mem_of_getElem? hlm)
 have hcell : (LS.map stv)[i]? = some (stv l) := by rw [List.getElem?_map, hlm]; rfl
 rw [show LS.drop i = l :: LS.drop (i + 1) from by obtain ⟨q, rfl⟩ := List.getElem?_eq_some_iff.1 hlm; exact List.drop_eq_getElem_cons q, List.map_cons] at h2
 (refine Go.run (g:=?_))
 refine GoR.call rfl rfl rfl rfl rfl rfl rfl (((cut_spec l (by omega) _).argA).mono ?_)
 rintro _ H2 ⟨⟨u, b, rfl⟩, e2⟩ s2
 subst e2
 clear s2
 (refine Go.run (g:=?_))
 refine GoR.call rfl rfl rfl rfl rfl rfl rfl (((fields_spec (semi l) (by have := (semi_facts l).1; omega) _).argA).mono ?_)
 rintro _ H3 ⟨wa, wc, rfl, R3⟩ s3
 have hwl := wordsP_len l
 have hwm := @wordsP_mem l
 rw [show fld (semi l) = wordsP l from rfl] at R3 ⊢
 have p3 := h3.same s3
 have R3' := h4.same s3
 have hG3 := h5.same s3
 have n3 := s3.1
 clear h3 h4 h5
 cases hws : wordsP l with
 | nil =>
  rw [hws, parseP_skip] at h2
  clear hws hwm
  replace h2 := fun _ : True => h2
  (refine Go.run (g:=?_))
  exact Go.again (i + 1, ms, oa, oc, H3) ⟨hi, h2 trivial, p3, R3', hG3, (by show H1.n ≤ H3.n; omega)⟩ (by show LS.length - (i + 1) < LS.length - i; omega) ⟨rfl, rfl, rfl, rfl, trivial⟩ rfl rfl
 | cons w r =>
  rw [hws] at R3 h2 hwl
  replace h2 := fun _ : True => h2
  have hne : w :: r ≠ [] := fun e => by cases e
  have hw1 : ∀ x ∈ w :: r, x.length ≤ 1000000 := fun x hx => by have := (hwm (by rw [hws]; exact hx)).2; omega
  have hw2 : ∀ x ∈ w :: r, x ≠ [] := fun x hx => (hwm (by rw [hws]; exact hx)).1
  have hrl : r.length ≤ 800000 := by rw [List.length_cons] at hwl; omega
  clear hwm hws
  have hz : decide (((w :: r).length : Int) = 0) = false := decide_eq_false (by rw [List.length_cons]; omega)
  (refine Go.run (g:=?_))
  refine GoR.call rfl rfl rfl rfl rfl rfl rfl (((move_spec wa wc w r hw1 hw2 hrl _ hG3 R3).argA).mono ?_)
  rintro _ H4 ⟨m, rfl, hm⟩ s4
  have p4 := p3.same s4
  have R4' := R3'.same s4
  have hG4 := hG3.same s4
  have n4 := s4.1
  have p3n := p3.S
  clear p3 R3' hG3 R3
  replace h2 := h2 trivial
  rcases lineE_le (w :: r) with he | he
  case inr =>
   have hn0 : lineE (w :: r) ≠ 0 := by omega
   have h2 : True → parseR s = (i + 1, lineE (w :: r), []) := fun _ => h2.trans (parseP_err hne hn0 _ _ _)
   clear hm
   obtain ⟨E, hE⟩ : ∃ E, lineE (w :: r) = E := ⟨_, rfl⟩
   rw [hE] at h2 he ⊢
   clear hE hn0
   have hz1 : decide ((E : Int) = 0) = false := decide_eq_false (by omega)
   have hz1' : decide ((E : Int) = 0) = !true := hz1
   (refine Go.run (g:=?_))
   (first|refine Go.finA rfl ?_|refine Go.finB rfl (hq:=?_))
   exact ⟨[], none, 0, by rw [h2 trivial]; rfl, by rw [h2 trivial]; rfl, Nat.zero_le _, .nil, fun m hm => by cases hm⟩
  obtain ⟨pm, hq⟩ := lineE_ok he
  obtain ⟨hpm, ok, oA, oD, oB⟩ := hm pm hq
  rw [he]
  by_cases hfull : ms.length = 5000
  case pos =>
   rw [parseP_full hne hq _ _ (by rw [List.length_map]; exact hfull)] at h2
   replace h2 := fun _ : True => h2
   clear hq hpm he hm
   (refine Go.run (g:=?_))
   (first|refine Go.finA rfl ?_|refine Go.finB rfl (hq:=?_))
   exact ⟨[], none, 0, by rw [h2 trivial]; rfl, by rw [h2 trivial]; rfl, Nat.zero_le _, .nil, fun m hm => by cases hm⟩
  rw [parseP_ok hne hq _ _ (by rw [List.length_map]; exact hfull)] at h2
  have hl5 := p4.l
  replace h2 := fun _ : True => h2
  replace hpm := fun _ : True => hpm
  clear hq he hm
  (refine Go.run (g:=?_))
  refine GoR.name ?_
  intro H5 e5
  have s5 : Same H4 H5 := by rw [e5]; exact ((Same.refl H4).push _).put (Nat.le_refl _) _
  clear e5
  have p5 := p4.same s5
  have R5 := R4'.same s5
  have hG5 := hG4.same s5
  have ok5 := ok.same s5
  have n5 := s5.1
  have hap : ∀ i, i ∈ blk m.o.aa ∨ i ∈ blk m.o.da ∨ i ∈ blk m.ba → i ∉ blk oa := fun i hi hm => by
   have q1 := p4.S.lt i hm
   have q2 : H3.n ≤ i := by rcases hi with hi | hi | hi; exact oA i hi; exact oD i hi; exact oB i hi
   have q3 := p3n.lt i hm
   omega
  refine GoR.buildRo (c := mvcs [m]) rfl rfl rfl rfl rfl (by decide) (by rfl) (by rfl) ?_
  intro b6 H6 r6 ro6 ow6 s6 n6
  refine GoR.appendV rfl rfl rfl rfl rfl rfl (p5.S.same s6) r6 (fun j hj => .inr (by have := p5.ow j hj; omega)) (by omega) (by omega) (by rfl) ?_
  intro b7 c7 H7 v7 k7 o7
  have m6 := s6.1
  have m7 := k7.1
  have p7 := (p5.same s6).add (ok5.same s6) hap k7 v7 (fun i hi => o7 i hi) (by omega) (by omega)
  have R7 := (R5.same s6).keeps k7 (fun i hi hm => by have q1 := p5.ow i hm; have q2 := R1lt i hi; omega)
  have hG7 : Holds GE H7 := by
   refine ⟨Nat.le_trans (hG5.same s6).1 m7, fun i o e => k7.get ((hG5.same s6).2 i o e) (fun hi => ?_)⟩
   have q1 := p5.ow i hi
   have q2 := GE_lt e
   have q3 : 10 ≤ H1.n := gen
   omega
  (refine Go.run (g:=?_))
  refine Go.again (i + 1, ms ++ [m], b7, c7, H7) ⟨hi, ?_, p7, R7, hG7, (by show H1.n ≤ H7.n; omega)⟩ (by show LS.length - (i + 1) < LS.length - i; omega) ⟨?_, rfl, rfl, rfl, trivial⟩ rfl rfl
  ·
   show parseR s = parseP ((LS.drop (i + 1)).map wordsP) (i + 1) ((ms ++ [m]).map MvV.pm)
   rw [h2 trivial, List.map_append, List.map_cons, List.map_nil, hpm trivial]
  ·
   show some _ = some (Value.slice b7 (ms ++ [m]).length c7)
   rw [List.length_append]; rfl
end Go.Proofs.YtncbbeghkpjpbaaDoor
namespace Go.Proofs.YtncbbeghkpjpbaaDoor
open Go.RowKit
set_option maxRecDepth 100000
attribute [local irreducible] Go GoR GoL
def lrem (s : List UInt8) (at' : Nat) : List (List UInt8) := if at' ≤ s.length then splitNL (s.drop at') else []
theorem line_end (s : List UInt8) {p : Nat} (hp : p ≤ s.length) : ∃ e, p ≤ e ∧ e ≤ s.length ∧ (∀ x, p ≤ x → x < e → s[x]? ≠ some 10) ∧ (e < s.length → s[e]? = some 10) ∧ lrem s p = (s.take e).drop p :: lrem s (e + 1) := by
 unfold lrem
 rw [if_pos hp]
 cases hf : (s.drop p).findIdx? (· == 10) with
 | none =>
  refine ⟨s.length, hp, Nat.le_refl _, fun x h1 h2 e => ?_, fun h => by omega, ?_⟩
  ·
   have := List.findIdx?_eq_none_iff.1 hf 10 (List.mem_of_getElem? (i := x - p) (by rw [List.getElem?_drop, show p + (x - p) = x by omega]; exact e))
   simp at this
  · rw [splitNL_end hf, if_neg (by omega), List.take_length]
 | some j =>
  obtain ⟨hj, hs⟩ := splitNL_at hf
  obtain ⟨_, f1, f2⟩ := List.findIdx?_eq_some_iff_getElem.1 hf
  rw [List.length_drop] at hj
  refine ⟨p + j, by omega, by omega, fun x h1 h2 e => ?_, fun h => ?_, ?_⟩
  ·
   have q := f2 (x - p) (by omega)
   rw [List.getElem_drop] at q
   have e2 : s[p + (x - p)]? = some 10 := by rw [show p + (x - p) = x by omega]; exact e
   obtain ⟨_, e2⟩ := List.getElem?_eq_some_iff.1 e2
   rw [e2] at q
   simp at q
  ·
   have q : (s.drop p)[j] = 10 := by simpa using f1
   rw [List.getElem_drop] at q
   rw [List.getElem?_eq_getElem (by omega), q]
  ·
   rw [hs, if_pos (by omega), List.drop_drop, List.drop_take, Nat.add_sub_cancel_left]
   rfl
set_option maxHeartbeats 32000000 in
theorem rparse_spec (s : List UInt8) (hs : s.length ≤ 20000) (h : AHeap) : CallS Tryd.prog [] 7 [stv s] h fun v h' => ParPost s v h' := by
 have hP : True → parseR s = parseP ((lrem s 0).map wordsP) 0 [] := fun _ => by unfold lrem; rw [if_pos (Nat.zero_le _), List.drop_zero]; rfl
 (refine CallS.of1 Tryd.func7 rfl Tryd.ntmps7 Tryd.results7 rfl ?_)
 (refine Go.run (g:=?_))
 refine Go.loop (α := Nat × Nat × List MvV × Option Addr × Nat × AHeap) (fun x => [(0, stv s), (5, .slice x.2.2.2.1 x.2.2.1.length x.2.2.2.2.1), (6, .int .i64 (x.1 : Nat)), (7, .int .i64 ((x.2.1 + 1 : Nat) : Int))]) (fun _ => []) (fun x => x.2.2.2.2.2) (fun x => x.1 ≤ s.length + 1 ∧ x.2.1 ≤ x.1 ∧ (True → parseR s = parseP ((lrem s x.1).map wordsP) x.2.1 (x.2.2.1.map MvV.pm)) ∧ Ps x.2.2.2.2.2 h.n x.2.2.1 x.2.2.2.1 x.2.2.2.2.1 ∧ h.n ≤ x.2.2.2.2.2.n) (fun x => s.length + 1 - x.1) (0, 0, [], none, 0, h) ⟨Nat.zero_le _, Nat.le_refl _, hP, ⟨.nil, Own.nil _, (fun m hm => by cases hm), (fun m hm => by cases hm), Nat.zero_le _⟩, Nat.le_refl _⟩ ⟨rfl, rfl, rfl, rfl, trivial⟩ rfl rfl ?_
 clear hP
 rintro ⟨p, n, ms, oa, oc, H⟩ ⟨h1, hnp, h2, h3, h6⟩
 simp only at h1 hnp h2 h3 h6 ⊢
 rcases Nat.lt_or_ge s.length p with hp | hp
 case inl =>
  have h2 : True → parseR s = (0, 0, ms.map MvV.pm) := fun _ => by rw [h2 trivial]; unfold lrem; rw [if_neg (by omega)]; rfl
  (refine Go.run (g:=?_))
  (first|refine Go.finA rfl ?_|refine Go.finB rfl (hq:=?_))
  exact ⟨ms, oa, oc, by rw [h2 trivial]; rfl, by rw [h2 trivial], h3.l, h3.S.rv, h3.ok⟩
 obtain ⟨e, e1, e2, e3, e4, e5⟩ := line_end s hp
 rw [e5, List.map_cons] at h2
 clear e5
 generalize hl : (s.take e).drop p = l at *
 have hll : l.length ≤ 20000 := by rw [← hl, List.length_drop, List.length_take]; omega
 (refine Go.run (g:=?_))
 refine Go.loop (α := Nat) (fun x => [(0, stv s), (5, .slice oa ms.length oc), (6, .int .i64 (p : Nat)), (7, .int .i64 ((n + 1 : Nat) : Int)), (8, .int .i64 (x : Nat))]) (fun _ => []) (fun x => H) (fun x => p ≤ x ∧ x ≤ e) (fun x => e - x) p ⟨Nat.le_refl _, e1⟩ ⟨rfl, rfl, rfl, rfl, rfl, trivial⟩ rfl rfl ?_
 rintro x ⟨x1, x2⟩
 rcases Nat.lt_or_ge x e with hx | hx
 case inl =>
  obtain ⟨z, hz⟩ : ∃ z, s[x]? = some z := ⟨_, List.getElem?_eq_getElem (by omega)⟩
  have hzb := z.toNat_lt
  have hz10 : ¬ z.toNat = 10 := fun q => e3 x x1 hx (by rw [hz]; congr 1; exact UInt8.toNat_inj.1 q)
  have hxl : x < s.length := by omega
  (refine Go.run (g:=?_))
  refine GoR.strAt (zs := s) rfl rfl rfl rfl rfl rfl hz ?_
  (refine Go.run (g:=?_))
  exact Go.again (x + 1) ⟨(by omega), (by omega)⟩ (by show e - (x + 1) < e - x; omega) ⟨rfl, rfl, rfl, rfl, rfl, trivial⟩ rfl rfl
 obtain rfl : x = e := by omega
 rcases Nat.lt_or_ge x s.length with hxl | hxl
 case inl =>
  have hz := e4 hxl
  (refine Go.run (g:=?_))
  refine GoR.strAt (zs := s) rfl rfl rfl rfl rfl rfl hz ?_
  (refine Go.run (g:=?_))
  refine GoR.strLH (zs := s) (l := p) (r := x) rfl rfl rfl rfl rfl rfl rfl x1 e2 ?_
  rw [hl]
  refine GoR.call rfl rfl rfl rfl rfl rfl rfl (((words_spec l (by omega) _).argA).mono ?_)
  rintro _ H3 ⟨wa, wc, rfl, R3⟩ s3
  have hwl := wordsP_len l
  have hwm := @wordsP_mem l
  rw [show fld (semi l) = wordsP l from rfl] at R3 ⊢
  have p3 := h3.same s3
  have n3 := s3.1
  clear h3
  cases hws : wordsP l with
  | nil =>
   rw [hws, parseP_skip] at h2
   clear hws hwm
   (refine Go.run (g:=?_))
   exact Go.again (x + 1, n + 1, ms, oa, oc, H3) ⟨(by show x + 1 ≤ s.length + 1; omega), (by show n + 1 ≤ x + 1; omega), h2, p3, (by show h.n ≤ H3.n; omega)⟩ (by show s.length + 1 - (x + 1) < s.length + 1 - p; omega) ⟨rfl, rfl, rfl, rfl, trivial⟩ rfl rfl
  | cons w r =>
   rw [hws] at R3 h2 hwl
   have hne : w :: r ≠ [] := fun e => by cases e
   have hw1 : ∀ x ∈ w :: r, x.length ≤ 1000000 := fun x hx => by have := (hwm (by rw [hws]; exact hx)).2; omega
   have hrl : r.length ≤ 800000 := by rw [List.length_cons] at hwl; omega
   clear hwm hws
   have hz : decide (((w :: r).length : Int) = 0) = false := decide_eq_false (by rw [List.length_cons]; omega)
   (refine Go.run (g:=?_))
   refine GoR.call rfl rfl rfl rfl rfl rfl rfl (((one_spec wa wc w r hw1 hrl _ R3).argA).mono ?_)
   rintro _ H4 ⟨m, rfl, hm⟩ s4
   have p4 := p3.same s4
   have n4 := s4.1
   have p3n := p3.S
   clear p3 R3
   rcases lineE_le (w :: r) with he | he
   case inr =>
    have hn0 : lineE (w :: r) ≠ 0 := by omega
    have h2 : True → parseR s = (n + 1, lineE (w :: r), []) := fun _ => (h2 trivial).trans (parseP_err hne hn0 _ _ _)
    clear hm
    obtain ⟨E, hE⟩ : ∃ E, lineE (w :: r) = E := ⟨_, rfl⟩
    rw [hE] at h2 he ⊢
    clear hE hn0
    have hz1 : decide ((E : Int) = 0) = false := decide_eq_false (by omega)
    have hz1' : decide ((E : Int) = 0) = !true := hz1
    (refine Go.run (g:=?_))
    (first|refine Go.finA rfl ?_|refine Go.finB rfl (hq:=?_))
    exact ⟨[], none, 0, by rw [h2 trivial]; rfl, by rw [h2 trivial]; rfl, Nat.zero_le _, .nil, fun m hm => by cases hm⟩
   obtain ⟨pm, hq⟩ := lineE_ok he
   obtain ⟨hpm, ok, oA, oD, oB⟩ := hm pm hq
   rw [he]
   by_cases hfull : ms.length = 5000
   case pos =>
    have h2 : True → parseR s = (n + 1, 3, []) := fun _ => (h2 trivial).trans (parseP_full hne hq _ _ (by rw [List.length_map]; exact hfull))
    clear hq hpm he hm
    (refine Go.run (g:=?_))
    (first|refine Go.finA rfl ?_|refine Go.finB rfl (hq:=?_))
    exact ⟨[], none, 0, by rw [h2 trivial]; rfl, by rw [h2 trivial]; rfl, Nat.zero_le _, .nil, fun m hm => by cases hm⟩
   have h2 : True → parseR s = _ := fun _ => (h2 trivial).trans (parseP_ok hne hq _ _ (by rw [List.length_map]; exact hfull))
   have hl5 := p4.l
   replace hpm := fun _ : True => hpm
   clear hq he hm
   (refine Go.run (g:=?_))
   refine GoR.name ?_
   intro H5 e5'
   have s5 : Same H4 H5 := by rw [e5']; exact ((Same.refl H4).push _).put (Nat.le_refl _) _
   clear e5'
   have p5 := p4.same s5
   have ok5 := ok.same s5
   have n5 := s5.1
   have hap : ∀ i, i ∈ blk m.o.aa ∨ i ∈ blk m.o.da ∨ i ∈ blk m.ba → i ∉ blk oa := fun i hi hm => by
    have q2 : H3.n ≤ i := by rcases hi with hi | hi | hi; exact oA i hi; exact oD i hi; exact oB i hi
    have q3 := p3n.lt i hm
    omega
   refine GoR.buildRo (c := mvcs [m]) rfl rfl rfl rfl rfl (by decide) (by rfl) (by rfl) ?_
   intro b6 H6 r6 ro6 ow6 s6 n6
   refine GoR.appendV rfl rfl rfl rfl rfl rfl (p5.S.same s6) r6 (fun j hj => .inr (by have := p5.ow j hj; omega)) (by omega) (by omega) (by rfl) ?_
   intro b7 c7 H7 v7 k7 o7
   have m6 := s6.1
   have m7 := k7.1
   have p7 := (p5.same s6).add (ok5.same s6) hap k7 v7 (fun i hi => o7 i hi) (by omega) (by omega)
   (refine Go.run (g:=?_))
   refine Go.again (x + 1, n + 1, ms ++ [m], b7, c7, H7) ⟨(by show x + 1 ≤ s.length + 1; omega), (by show n + 1 ≤ x + 1; omega), fun _ => ?_, p7, (by show h.n ≤ H7.n; omega)⟩ (by show s.length + 1 - (x + 1) < s.length + 1 - p; omega) ⟨rfl, ?_, rfl, rfl, trivial⟩ rfl rfl
   ·
    show parseR s = parseP ((lrem s (x + 1)).map wordsP) (n + 1) ((ms ++ [m]).map MvV.pm)
    rw [h2 trivial, List.map_append, List.map_cons, List.map_nil, hpm trivial]
   ·
    show some _ = some (Value.slice b7 (ms ++ [m]).length c7)
    rw [List.length_append]; rfl
 case inr =>
  (refine Go.run (g:=?_))
  refine GoR.strLH (zs := s) (l := p) (r := x) rfl rfl rfl rfl rfl rfl rfl x1 e2 ?_
  rw [hl]
  refine GoR.call rfl rfl rfl rfl rfl rfl rfl (((words_spec l (by omega) _).argA).mono ?_)
  rintro _ H3 ⟨wa, wc, rfl, R3⟩ s3
  have hwl := wordsP_len l
  have hwm := @wordsP_mem l
  rw [show fld (semi l) = wordsP l from rfl] at R3 ⊢
  have p3 := h3.same s3
  have n3 := s3.1
  clear h3
  cases hws : wordsP l with
  | nil =>
   rw [hws, parseP_skip] at h2
   clear hws hwm
   (refine Go.run (g:=?_))
   exact Go.again (x + 1, n + 1, ms, oa, oc, H3) ⟨(by show x + 1 ≤ s.length + 1; omega), (by show n + 1 ≤ x + 1; omega), h2, p3, (by show h.n ≤ H3.n; omega)⟩ (by show s.length + 1 - (x + 1) < s.length + 1 - p; omega) ⟨rfl, rfl, rfl, rfl, trivial⟩ rfl rfl
  | cons w r =>
   rw [hws] at R3 h2 hwl
   have hne : w :: r ≠ [] := fun e => by cases e
   have hw1 : ∀ x ∈ w :: r, x.length ≤ 1000000 := fun x hx => by have := (hwm (by rw [hws]; exact hx)).2; omega
   have hrl : r.length ≤ 800000 := by rw [List.length_cons] at hwl; omega
   clear hwm hws
   have hz : decide (((w :: r).length : Int) = 0) = false := decide_eq_false (by rw [List.length_cons]; omega)
   (refine Go.run (g:=?_))
   refine GoR.call rfl rfl rfl rfl rfl rfl rfl (((one_spec wa wc w r hw1 hrl _ R3).argA).mono ?_)
   rintro _ H4 ⟨m, rfl, hm⟩ s4
   have p4 := p3.same s4
   have n4 := s4.1
   have p3n := p3.S
   clear p3 R3
   rcases lineE_le (w :: r) with he | he
   case inr =>
    have hn0 : lineE (w :: r) ≠ 0 := by omega
    have h2 : True → parseR s = (n + 1, lineE (w :: r), []) := fun _ => (h2 trivial).trans (parseP_err hne hn0 _ _ _)
    clear hm
    obtain ⟨E, hE⟩ : ∃ E, lineE (w :: r) = E := ⟨_, rfl⟩
    rw [hE] at h2 he ⊢
    clear hE hn0
    have hz1 : decide ((E : Int) = 0) = false := decide_eq_false (by omega)
    have hz1' : decide ((E : Int) = 0) = !true := hz1
    (refine Go.run (g:=?_))
    (first|refine Go.finA rfl ?_|refine Go.finB rfl (hq:=?_))
    exact ⟨[], none, 0, by rw [h2 trivial]; rfl, by rw [h2 trivial]; rfl, Nat.zero_le _, .nil, fun m hm => by cases hm⟩
   obtain ⟨pm, hq⟩ := lineE_ok he
   obtain ⟨hpm, ok, oA, oD, oB⟩ := hm pm hq
   rw [he]
   by_cases hfull : ms.length = 5000
   case pos =>
    have h2 : True → parseR s = (n + 1, 3, []) := fun _ => (h2 trivial).trans (parseP_full hne hq _ _ (by rw [List.length_map]; exact hfull))
    clear hq hpm he hm
    (refine Go.run (g:=?_))
    (first|refine Go.finA rfl ?_|refine Go.finB rfl (hq:=?_))
    exact ⟨[], none, 0, by rw [h2 trivial]; rfl, by rw [h2 trivial]; rfl, Nat.zero_le _, .nil, fun m hm => by cases hm⟩
   have h2 : True → parseR s = _ := fun _ => (h2 trivial).trans (parseP_ok hne hq _ _ (by rw [List.length_map]; exact hfull))
   have hl5 := p4.l
   replace hpm := fun _ : True => hpm
   clear hq he hm
   (refine Go.run (g:=?_))
   refine GoR.name ?_
   intro H5 e5'
   have s5 : Same H4 H5 := by rw [e5']; exact ((Same.refl H4).push _).put (Nat.le_refl _) _
   clear e5'
   have p5 := p4.same s5
   have ok5 := ok.same s5
   have n5 := s5.1
   have hap : ∀ i, i ∈ blk m.o.aa ∨ i ∈ blk m.o.da ∨ i ∈ blk m.ba → i ∉ blk oa := fun i hi hm => by
    have q2 : H3.n ≤ i := by rcases hi with hi | hi | hi; exact oA i hi; exact oD i hi; exact oB i hi
    have q3 := p3n.lt i hm
    omega
   refine GoR.buildRo (c := mvcs [m]) rfl rfl rfl rfl rfl (by decide) (by rfl) (by rfl) ?_
   intro b6 H6 r6 ro6 ow6 s6 n6
   refine GoR.appendV rfl rfl rfl rfl rfl rfl (p5.S.same s6) r6 (fun j hj => .inr (by have := p5.ow j hj; omega)) (by omega) (by omega) (by rfl) ?_
   intro b7 c7 H7 v7 k7 o7
   have m6 := s6.1
   have m7 := k7.1
   have p7 := (p5.same s6).add (ok5.same s6) hap k7 v7 (fun i hi => o7 i hi) (by omega) (by omega)
   (refine Go.run (g:=?_))
   refine Go.again (x + 1, n + 1, ms ++ [m], b7, c7, H7) ⟨(by show x + 1 ≤ s.length + 1; omega), (by show n + 1 ≤ x + 1; omega), fun _ => ?_, p7, (by show h.n ≤ H7.n; omega)⟩ (by show s.length + 1 - (x + 1) < s.length + 1 - p; omega) ⟨rfl, ?_, rfl, rfl, trivial⟩ rfl rfl
   ·
    show parseR s = parseP ((lrem s (x + 1)).map wordsP) (n + 1) ((ms ++ [m]).map MvV.pm)
    rw [h2 trivial, List.map_append, List.map_cons, List.map_nil, hpm trivial]
   ·
    show some _ = some (Value.slice b7 (ms ++ [m]).length c7)
    rw [List.length_append]; rfl
end Go.Proofs.YtncbbeghkpjpbaaDoor
namespace Go.Proofs.YtncbbeghkpjpbaaDoor
open Go.RowKit
set_option maxRecDepth 100000
attribute [local irreducible] Go GoR GoL
theorem mvcs_drop : ∀ (ms : List MvV) (i : Nat), (mvcs ms).drop (i * 16) = mvcs (ms.drop i)
 | [], i => by simp [mvcs]
 | m :: ms, 0 => by simp
 | m :: ms, i + 1 => by
  have e : (i + 1) * 16 = 16 + i * 16 := by omega
  rw [e, ← List.drop_drop]
  have : (mvcs (m :: ms)).drop 16 = mvcs ms := rfl
  rw [this, mvcs_drop ms i, List.drop_succ_cons]
theorem mvcs_take {ms : List MvV} {i : Nat} {m : MvV} (h : ms[i]? = some m) : ((mvcs ms).drop (i * 16)).take 16 = m.cs := by
 obtain ⟨hi, rfl⟩ := List.getElem?_eq_some_iff.1 h
 rw [mvcs_drop, List.drop_eq_getElem_cons hi]
 rfl
set_option maxHeartbeats 32000000 in
theorem same32_spec (a1 a2 : Option Addr) (c1 c2 : Nat) (ms1 ms2 : List MvV) (hpm : ms1.map MvV.pm = ms2.map MvV.pm) (hl : ms1.length ≤ 5000) (h : AHeap) (R1 : Rv Tryd.prog h 16 a1 ms1.length c1 (mvcs ms1)) (R2 : Rv Tryd.prog h 16 a2 ms2.length c2 (mvcs ms2)) (k1 : ∀ m ∈ ms1, MvOk h m) (k2 : ∀ m ∈ ms2, MvOk h m) : CallS Tryd.prog [] 8 [.slice a1 ms1.length c1, .slice a2 ms2.length c2] h fun v h' => v = .bool true := by
 have hln : ms1.length = ms2.length := by have := congrArg List.length hpm; simpa using this
 (refine CallS.of2 Tryd.func8 rfl Tryd.ntmps8 Tryd.results8 rfl ?_)
 rw [← hln] at R2 ⊢
 (refine Go.run (g:=?_))
 refine Go.loop (α := Nat × AHeap) (fun x => [(0, .slice a1 ms1.length c1), (1, .slice a2 ms1.length c2), (5, .int .i64 (x.1 : Nat))]) (fun _ => []) (fun x => x.2) (fun x => x.1 ≤ ms1.length ∧ Same h x.2) (fun x => ms1.length - x.1) (0, h) ⟨Nat.zero_le _, Same.refl h⟩ ⟨rfl, rfl, rfl, trivial⟩ rfl rfl ?_
 rintro ⟨i, H⟩ ⟨h1, hs⟩
 simp only at h1 hs ⊢
 rcases Nat.lt_or_ge i ms1.length with hi | hi
 case inr =>
  obtain rfl : i = ms1.length := by omega
  (refine Go.run (g:=?_))
  (first|refine Go.finA rfl ?_|refine Go.finB rfl (hq:=?_))
  rfl
 obtain ⟨m1, hm1⟩ : ∃ m, ms1[i]? = some m := ⟨_, List.getElem?_eq_getElem hi⟩
 obtain ⟨m2, hm2⟩ : ∃ m, ms2[i]? = some m := ⟨_, List.getElem?_eq_getElem (by omega)⟩
 have he : m1.pm = m2.pm := by
  have := congrArg (·[i]?) hpm
  simp only [List.getElem?_map, hm1, hm2, Option.map_some] at this
  exact Option.some.inj this
 have ok1 := (k1 m1 (List.mem_of_getElem? hm1)).same hs
 have ok2 := (k2 m2 (List.mem_of_getElem? hm2)).same hs
 have t1 := mvcs_take hm1
 have t2 := mvcs_take hm2
 have r1 := R1.same hs
 have r2 := R2.same hs
 have l1 := mvcs_len ms1
 have l2 := mvcs_len ms2
 have b1 : i * 16 + 16 ≤ (mvcs ms1).length := by omega
 have b2 : i * 16 + 16 ≤ (mvcs ms2).length := by omega
 have n0 := hs.1
 have n1a : H.n ∉ blk a1 := fun hm => by have := r1.lt _ hm; omega
 have n1b : H.n + 1 ∉ blk a1 := fun hm => by have := r1.lt _ hm; omega
 have n2a : H.n ∉ blk a2 := fun hm => by have := r2.lt _ hm; omega
 have n2b : H.n + 1 ∉ blk a2 := fun hm => by have := r2.lt _ hm; omega
 refine Go.runN (g:=?_)
 refine Go.loud (by kernel_rfl) rfl ?_
 (refine Go.runL (g:=?_))
 refine GoL.st (g:=?_)
 refine GoL.st (g:=?_)
 refine GoL.end_ (hl := by (simp only [List.nil_append, List.cons_append]); repeat (first | exact loudP.nil | refine loudP.none ?_ | refine loudP.new (fun _ hb => absurd hb List.not_mem_nil) ?_ | refine loudP.row (by repeat (first | exact loudRowP.nil | refine loudRowP.none ?_ | refine loudRowP.bef (by decide +kernel) ?_ | refine loudRowP.apart (by first | exact .inl rfl | exact .inr (by simp)) rfl (by intro i hi; simp only [List.mem_singleton] at hi; subst hi; simp [n1a, n1b, n2a, n2b]) ?_)) ?_)) ?_
 refine Go.name ?_
 intro H2 e2
 have g1 : H2.get H.n = some (.cells m1.cs 47) := by rw [e2, AHeap.get_put_ne _ _ (by simp)]; exact AHeap.get_put_same _ (by simp only [AHeap.n_push]; omega) _
 have g2 : H2.get (H.n + 1) = some (.cells m2.cs 47) := by rw [e2]; exact AHeap.get_put_same _ (by simp only [AHeap.n_push, AHeap.n_put]; omega) _
 have s2 : Same H H2 := by rw [e2]; exact ((((Same.refl H).push _).push _).put (Nat.le_refl _) _).put (by show H.n ≤ H.n + 1; omega) _
 have nn2 : H2.n = H.n + 2 := by rw [e2]; rfl
 clear e2
 simp only [AHeap.n_push]
 replace ok1 := ok1.same s2
 replace ok2 := ok2.same s2
 have hs2 := hs.trans s2
 clear t1 t2 r1 r2 l1 l2 b1 b2 hm1 hm2
 obtain ⟨k, host, n, bit, ⟨okk, id, aa1, ac1, ads, port, sid, un, ppid, da1, dc1, zs, bk⟩, fr, to, ba1, bc1, bs⟩ := m1
 obtain ⟨k', host', n', bit', ⟨ok', id', aa2, ac2, ads', port', sid', un', ppid', da2, dc2, zs', bk'⟩, fr', to', ba2, bc2, bs'⟩ := m2
 simp only [MvV.pm, PM.mk.injEq] at he
 obtain ⟨rfl, rfl, rfl, rfl, rfl, rfl, rfl, rfl, rfl, rfl, rfl, rfl, rfl, rfl, rfl, rfl⟩ := he
 dsimp only [MvV.cs] at g1 g2
 have B1 : Rv Tryd.prog H2 1 ba1 bs.length bc1 (bs.map bv) := ok1.B
 have B2 : Rv Tryd.prog H2 1 ba2 bs.length bc2 (bs.map bv) := ok2.B
 have D1 : Rv Tryd.prog H2 1 da1 zs.length dc1 (zs.map bv) := ok1.o.D
 have D2 : Rv Tryd.prog H2 1 da2 zs.length dc2 (zs.map bv) := ok2.o.D
 have A1 : Rv Tryd.prog H2 1 aa1 ads.length ac1 (ads.map u32v) := ok1.o.A
 have A2 : Rv Tryd.prog H2 1 aa2 ads.length ac2 (ads.map u32v) := ok2.o.A
 have q1 : sid < 65536 := ok1.o.sid
 have q2 : ppid < 4294967296 := ok1.o.ppid
 have q3 : zs.length ≤ 2000000 := ok1.o.zl
 have q4 : ads.length ≤ 2000000 := ok1.o.al
 clear ok1 ok2 R1 R2 k1 k2 hpm hs
 (refine Go.run (g:=?_))
 refine GoR.boolNe (a := bk) (b := bk) rfl rfl rfl rfl rfl rfl Tryd.underlying4 ?_
 (refine Go.run (g:=?_))
 refine GoR.call rfl rfl rfl rfl rfl rfl rfl (((messageR_spec sid ppid un da1 dc1 zs q1 q2 (by omega) _ D1).argA).mono ?_)
 rintro _ H3 rfl s3
 replace g1 := s3.get g1
 replace g2 := s3.get g2
 (refine Go.run (g:=?_))
 refine GoR.call rfl rfl rfl rfl rfl rfl rfl (((messageR_spec sid ppid un da2 dc2 zs q1 q2 (by omega) _ (D2.same s3)).argA).mono ?_)
 rintro _ H4 rfl s4
 replace g1 := s4.get g1
 replace g2 := s4.get g2
 replace A1 := (A1.same s3).same s4
 replace A2 := (A2.same s3).same s4
 have hs4 := (hs2.trans s3).trans s4
 clear B1 B2 D1 D2 s3 s4 hs2 s2
 (refine Go.run (g:=?_))
 refine Go.loop (α := Nat) (fun x => [(0, .slice a1 ms1.length c1), (1, .slice a2 ms1.length c2), (5, .int .i64 (i : Nat)), (6, .pointer (some ⟨H.n, 0, none⟩)), (7, .pointer (some ⟨H.n + 1, 0, none⟩)), (8, .int .i64 (x : Nat))]) (fun _ => []) (fun x => H4) (fun x => x ≤ ads.length) (fun x => ads.length - x) 0 (Nat.zero_le _) ⟨rfl, rfl, rfl, rfl, rfl, rfl, trivial⟩ rfl rfl ?_
 rintro j hj
 rcases Nat.lt_or_ge j ads.length with hjl | hjl
 ·
  obtain ⟨d, hd⟩ : ∃ d, ads[j]? = some d := ⟨_, List.getElem?_eq_getElem hjl⟩
  have hc : (ads.map u32v)[j]? = some (.int .u32 (d : Nat)) := by rw [List.getElem?_map, hd]; rfl
  (refine Go.run (g:=?_))
  exact Go.again (j + 1) hjl (by show ads.length - (j + 1) < ads.length - j; omega) ⟨rfl, rfl, rfl, rfl, rfl, rfl, trivial⟩ rfl rfl
 ·
  obtain rfl : j = ads.length := by omega
  (refine Go.run (g:=?_))
  exact Go.again (i + 1, H4) ⟨hi, hs4⟩ (by show ms1.length - (i + 1) < ms1.length - i; omega) ⟨rfl, rfl, rfl, trivial⟩ rfl rfl
end Go.Proofs.YtncbbeghkpjpbaaDoor
namespace Go.Proofs.YtncbbeghkpjpbaaDoor
open Go.RowKit
set_option maxRecDepth 100000
attribute [local irreducible] Go GoR GoL
set_option maxHeartbeats 16000000 in
theorem scriptParses_spec (s : List UInt8) (h : AHeap) (hG : Holds GE h) : CallS Tryd.prog [] 3 [stv s] h fun v h' => v = .bool true := by
 (refine CallS.of1 Tryd.func3 rfl Tryd.ntmps3 Tryd.results3 rfl ?_)
 (refine Go.run (g:=?_))
 refine GoR.call rfl rfl rfl rfl rfl rfl rfl (((known32 _ hG.gh).argA).mono ?_)
 rintro _ H1 ⟨rfl, e1⟩ s1
 subst e1
 clear s1
 by_cases hs : s.length ≤ 20000
 case neg =>
  have hz : decide ((20000 : Int) < s.length) = true := decide_eq_true (by omega)
  (refine Go.run (g:=?_))
  (first|refine Go.finA rfl ?_|refine Go.finB rfl (hq:=?_))
  rfl
 (refine Go.run (g:=?_))
 refine GoR.call rfl rfl rfl rfl rfl rfl rfl (((sparse_spec s hs _ hG).argA).mono ?_)
 rintro _ H2 ⟨ms1, a1, c1, rfl, p1, l1, R1, k1⟩ s2
 (refine Go.run (g:=?_))
 refine GoR.call rfl rfl rfl rfl rfl rfl rfl (((rparse_spec s hs _).argA).mono ?_)
 rintro _ H3 ⟨ms2, a2, c2, rfl, p2, l2, R2, k2⟩ s3
 have hpm : ms1.map MvV.pm = ms2.map MvV.pm := p1.trans p2.symm
 clear p1 p2
 replace R1 := R1.same s3
 replace k1 := fun m hm => (k1 m hm).same s3
 generalize (parseR s).1 = n at *
 generalize (parseR s).2.1 = e at *
 (refine Go.run (g:=?_))
 refine GoR.call rfl rfl rfl rfl rfl rfl rfl (((same32_spec a1 a2 c1 c2 ms1 ms2 hpm l1 _ R1 R2 k1 k2).argA).mono ?_)
 rintro _ H4 rfl s4
 (refine Go.run (g:=?_))
 (first|refine Go.finA rfl ?_|refine Go.finB rfl (hq:=?_))
 simp [retV]
end Go.Proofs.YtncbbeghkpjpbaaDoor
namespace Go.Proofs.YtncbbeghkpjpbaaDoor
open Go.ChangeShapes Go.WideShapes Go.ChangeAt Go.RowKit
set_option maxRecDepth 100000
def pow10Z : List Int := [1, 10, 100, 1000, 10000, 100000, 1000000, 10000000, 100000000, 1000000000, 10000000000, 100000000000, 1000000000000, 10000000000000, 100000000000000, 1000000000000000, 10000000000000000, 100000000000000000, 1000000000000000000, 10000000000000000000]
theorem pow10Z_eq : pow10L = pow10Z.map fun z => Value.int .u64 z := by rfl
theorem gPow : Tryd.prog.globalNamed "internal/strconv.uint64pow10" = some 1 := by kernel_rfl
theorem gPowT : (Tryd.prog.globals[1]?).map (·.type) = some 134 := by kernel_rfl
theorem uPow : Tryd.prog.underlying 134 = some (.array 20 87) := by kernel_rfl
theorem uU64 : Tryd.prog.underlying 87 = some (.int .u64) := by kernel_rfl
theorem cU64 : Tryd.prog.cellsOf 87 = 1 := by kernel_rfl
theorem cPow : Tryd.prog.cellsOf 134 = 20 := by kernel_rfl
def laid32 : List (String × DataW Unit) := [("math/bits.deBruijn32tab", Rows.laid_math_bits_deBruijn32tab), ("math/bits.deBruijn64tab", Rows.laid_math_bits_deBruijn64tab), ("internal/strconv.uint64pow10", Rows.laid_internal_strconv_uint64pow10), ("unicode/utf8.acceptRanges", Rows.laid_unicode_utf8_acceptRanges), ("strconv.ErrRange", Rows.laid_strconv_ErrRange), ("strconv.ErrSyntax", Rows.laid_strconv_ErrSyntax), ("unicode/utf8.first", Rows.laid_unicode_utf8_first)]
theorem laid_plain {W : World} (h : laidMetH Tryd.prog laid32 W) : laidMet Tryd.prog laid32 W := by
 rwa [MakeChecks.laidMetH_plain _ _ _ (by kernel_rfl)] at h
theorem laid_lt {P : Program} {W : World} : ∀ (l : List (String × DataW Unit)), laidMet P l W → ∀ x ∈ l, ∃ g, P.globalNamed x.1 = some g ∧ g < W.heap.size
 | [], _, x, hx => by cases hx
 | y :: l, h, x, hx => by
  rcases List.mem_cons.1 hx with rfl | hx
  ·
   obtain ⟨ps, ⟨g, t, cs, fuel, p, q, hg, ht, hv, hd, _⟩, _⟩ := h
   refine ⟨g, hg, ?_⟩
   simp only [World.var?, hg, Option.bind_some] at hv
   cases hq : W.heap[g]? with
   | none => rw [hq] at hv; cases hv
   | some o => exact (Array.getElem?_eq_some_iff.1 hq).1
  · exact laid_lt l h.tail x hx
theorem has7 : (laid32.any fun x => Tryd.prog.globalNamed x.1 == some 7) = true := by kernel_rfl
theorem heap8 {W : World} (h : laidMet Tryd.prog laid32 W) : 8 ≤ W.heap.size := by
 obtain ⟨x, hx, e⟩ := List.any_eq_true.1 has7
 obtain ⟨g, hg, hl⟩ := laid_lt _ h x hx
 rw [hg] at e
 have : g = 7 := by simpa using e
 omega
theorem pow_tab {W : World} (h : laidMet Tryd.prog laid32 W) : Lib.TabIs Tryd.prog W "internal/strconv.uint64pow10" .u64 pow10Z :=
 Lib.tabIs_of_head (rest := _) gPow gPowT uPow uU64 cU64 cPow (h.tail.tail : laidMet Tryd.prog (("internal/strconv.uint64pow10", Lib.tabData .u64 pow10Z) :: _) W)
end Go.Proofs.YtncbbeghkpjpbaaDoor
namespace Go.Proofs.YtncbbeghkpjpbaaDoor
open Go.ChangeShapes Go.WideShapes Go.ChangeAt Go.RowKit
set_option maxRecDepth 100000
theorem gRng : Tryd.prog.globalNamed "strconv.ErrRange" = some 5 := by kernel_rfl
theorem gSyn : Tryd.prog.globalNamed "strconv.ErrSyntax" = some 4 := by kernel_rfl
theorem gRngT : (Tryd.prog.globals[5]?).map (·.type) = some 91 := by kernel_rfl
theorem gSynT : (Tryd.prog.globals[4]?).map (·.type) = some 91 := by kernel_rfl
theorem starErr : "*" ++ "errors.errorString" = "*errors.errorString" := by decide
theorem rowErr : ∀ u, Tryd.prog.typeName? 3 u = some "*errors.errorString" → u = 154 := fun u h =>
 typeName_ptr_named (nm := "errors.errorString") (by rw [starErr]; kernel_rfl) (by kernel_rfl) (by decide) u (by rw [starErr]; exact h)
def mE (a b : Addr) : Mp := fun i => if i < 8 then some ⟨i, 0, 0, 0, 0⟩ else if i = 8 then some ⟨a.block, a.off, 0, 0, 0⟩ else if i = 9 then some ⟨b.block, b.off, 0, 0, 0⟩ else none
theorem mE_ok (a b : Addr) : MOk Tryd.prog (mE a b) := fun g hg => by
 rw [nGlobals] at hg
 exact ⟨⟨g, 0, 0, 0, 0⟩, by unfold mE; rw [if_pos hg], rfl, rfl⟩
theorem cell_addr {W : World} {a : Addr} {v : Value} (h : W.cell? a = some v) : a.block < W.heap.size ∧ a = ⟨a.block, a.off, none⟩ := by
 unfold World.cell? at h
 cases hq : W.heap[a.block]? with
 | none => rw [hq] at h; cases h
 | some o =>
  refine ⟨(Array.getElem?_eq_some_iff.1 hq).1, ?_⟩
  rw [hq] at h
  cases o with
  | cells c t f =>
   simp only at h
   obtain ⟨b, o, s⟩ := a
   cases s with
   | none => rfl
   | some x => simp at h
  | _ => cases h
theorem GE_get (i : Nat) (o : AObj) (e : GE.get i = some o) : (i = 1 ∧ o = .ro pow10L) ∨ (i = 5 ∧ o = .ro (errC 8)) ∨ (i = 4 ∧ o = .ro (errC 9)) := by
 unfold GE at e
 rw [AHeap.get_put] at e
 split at e
 ·
  rename_i q
  split at e
  · cases e; exact .inr (.inr ⟨q.symm, rfl⟩)
  · cases e
 ·
  rw [AHeap.get_put] at e
  split at e
  ·
   rename_i q
   split at e
   · cases e; exact .inr (.inl ⟨q.symm, rfl⟩)
   · cases e
  ·
   rw [AHeap.get_put] at e
   split at e
   ·
    rename_i q
    split at e
    · cases e; exact .inl ⟨q.symm, rfl⟩
    · cases e
   · simp [AHeap.get, Tr.get] at e
theorem var_cells {W : World} {n : String} {g : Nat} {cs : Array Value} (hg : Tryd.prog.globalNamed n = some g) (h : W.var? Tryd.prog n = some cs) : ∃ t fz, W.heap[g]? = some (.cells cs t fz) := by
 simp only [World.var?, hg, Option.bind_some] at h
 cases hq : W.heap[g]? with
 | none => rw [hq] at h; cases h
 | some o =>
  rw [hq] at h
  cases o with
  | cells c' t fz =>
   simp only [Option.some.injEq] at h
   subst h
   exact ⟨t, fz, rfl⟩
  | _ => cases h
theorem ce1 : Tryd.prog.cellsOf 156 = 1 := by kernel_rfl
theorem ce2 : Tryd.prog.cellsOf 9 = 1 := by kernel_rfl
theorem imGE {W : World} (h : laidMetH Tryd.prog laid32 W) : ∃ a b, Im Tryd.prog W (mE a b) GE := by
 have hp := laid_plain h
 have h8 := heap8 hp
 obtain ⟨a, sa, va, ca, -, -⟩ := laid_sentinel (r := _) hp.tail.tail.tail.tail gRng gRngT Tryd.underlying91 rowErr Tryd.underlying154 Tryd.underlying156 rfl rfl Tryd.underlying9 ce1 ce2
 obtain ⟨b, sb, vb, cb, -, -⟩ := laid_sentinel (r := _) hp.tail.tail.tail.tail.tail gSyn gSynT Tryd.underlying91 rowErr Tryd.underlying154 Tryd.underlying156 rfl rfl Tryd.underlying9 ce1 ce2
 obtain ⟨la, ea⟩ := cell_addr ca
 obtain ⟨lb, eb⟩ := cell_addr cb
 obtain ⟨ta, fa, ha⟩ := var_cells gRng va
 obtain ⟨tb, fb, hb⟩ := var_cells gSyn vb
 have ht := pow_tab hp
 unfold Lib.TabIs at ht
 rw [← pow10Z_eq] at ht
 obtain ⟨tp, fp, hpw⟩ := var_cells gPow ht
 have live : ∀ i, ¬ GE.live i := fun i ⟨o, e, ho⟩ => by obtain ⟨c, rfl⟩ := GE_ro i o e; cases ho
 refine ⟨a, b, ⟨⟨fun i l e => ?_, fun i l c t e g => ?_, fun i j l k e e' _ hl _ => absurd hl (live j), fun i l c e g => ?_, fun i l o _ e g => ?_⟩, fun i hi => ?_, live⟩⟩
 ·
  unfold mE at e
  split at e
  · cases e; show i < _; omega
  ·
   split at e
   · cases e; exact la
   ·
    split at e
    · cases e; exact lb
    · cases e
 · obtain ⟨c', e'⟩ := GE_ro i _ g; cases e'
 ·
  unfold mE at e
  split at e
  · cases e; rfl
  ·
   split at e
   · cases e; rfl
   ·
    split at e
    · cases e; rfl
    · cases e
 ·
  rcases GE_get i o g with ⟨rfl, rfl⟩ | ⟨rfl, rfl⟩ | ⟨rfl, rfl⟩
  ·
   have e2 : l = ⟨1, 0, 0, 0, 0⟩ := by unfold mE at e; rw [if_pos (by decide)] at e; exact (Option.some.inj e).symm
   subst e2
   exact ⟨_, hpw, .ro rfl fun j v hv => ⟨v, by simpa using hv, VRel.flat _ (pow10_flat v (List.mem_of_getElem? hv))⟩⟩
  ·
   have e2 : l = ⟨5, 0, 0, 0, 0⟩ := by unfold mE at e; rw [if_pos (by decide)] at e; exact (Option.some.inj e).symm
   subst e2
   refine ⟨_, ha, .ro rfl fun j v hv => ?_⟩
   unfold errC at hv
   cases j with
   | zero =>
    simp at hv; subst hv
    refine ⟨_, rfl, .iface _ ?_⟩
    have q : mE a b 8 = some ⟨a.block, a.off, 0, 0, 0⟩ := by unfold mE; rw [if_neg (by decide), if_pos rfl]
    have := VRel.ptr (o := 0) q
    rw [Nat.zero_add] at this
    rw [ea]; exact this
   | succ j => simp at hv
  ·
   have e2 : l = ⟨4, 0, 0, 0, 0⟩ := by unfold mE at e; rw [if_pos (by decide)] at e; exact (Option.some.inj e).symm
   subst e2
   refine ⟨_, hb, .ro rfl fun j v hv => ?_⟩
   unfold errC at hv
   cases j with
   | zero =>
    simp at hv; subst hv
    refine ⟨_, rfl, .iface _ ?_⟩
    have q : mE a b 9 = some ⟨b.block, b.off, 0, 0, 0⟩ := by unfold mE; rw [if_neg (by decide), if_neg (by decide), if_pos rfl]
    have := VRel.ptr (o := 0) q
    rw [Nat.zero_add] at this
    rw [eb]; exact this
   | succ j => simp at hv
 ·
  unfold mE
  have h10 : 10 ≤ i := hi
  rw [if_neg (by omega), if_neg (by omega), if_neg (by omega)]
end Go.Proofs.YtncbbeghkpjpbaaDoor
namespace Go.Proofs.YtncbbeghkpjpbaaDoor
open Go.ChangeShapes Go.WideShapes Go.ChangeAt Go.RowKit
set_option maxRecDepth 100000
theorem scriptParsesWalk (t : ByteArray) (W : World) (hL : laidMetH Tryd.prog laid32 W) : Calls Tryd.prog 3 #[.string t] W fun e w' => e = .returned (.bool true) ∧ Below W.heap.size W w' := by
 obtain ⟨a, b, I⟩ := imGE hL
 refine calls_impG (mE_ok a b) I rfl (scriptParses_spec t.data.toList GE (Holds.refl GE)) ?_
 unfold stv
 exact ARel.single (.string _)
end Go.Proofs.YtncbbeghkpjpbaaDoor