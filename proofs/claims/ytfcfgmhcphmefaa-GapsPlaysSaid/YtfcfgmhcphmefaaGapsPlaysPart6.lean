/- What the law leans on, part 6. No conditions. -/
import Derived.Sort.AssemblyPlain
import Derived.ProofKit
import Derived.OpenShut
import Derived.ChangeOld
import Derived.Test.YtfcfgmhcphmefaaGapsPlaysPart5
set_option linter.unusedVariables false
set_option linter.unusedSimpArgs false
namespace Go.Proofs.Ytfcfgmhcphmefaa
open Go.Sort
set_option maxRecDepth 100000
attribute [local irreducible] Go GoR GoL
def spanN (a b : Nat) : Nat := (b + 4294967296 - a) % 4294967296
theorem sub32 (a b : Nat) (ha : a < 4294967296) (hb : b < 4294967296) : iBin .sub .u32 (b : Int) (a : Int) = some (.int .u32 ((spanN a b : Nat) : Int)) := by
  have e : ((spanN a b : Nat) : Int) = ((b : Int) - (a : Int)) % 4294967296 := by unfold spanN; omega
  simp [iBin, IntKind.wrap, IntKind.bits, IntKind.signed, e]
theorem span_lt (a b : Nat) : spanN a b < 4294967296 := Nat.mod_lt _ (by decide)
set_option maxHeartbeats 4000000 in
theorem span_spec (a b : Nat) (ha : a < 4294967296) (hb : b < 4294967296) (h : AHeap) : CallS Try.prog [] 38 [.int .u32 a, .int .u32 b] h fun v h' => v = .int .u32 (spanN a b : Nat) ∧ h' = h := by
  have hs := sub32 a b ha hb
  generalize spanN a b = s at *
  (refine CallS.of2 Try.func38 rfl Try.ntmps38 Try.results38 rfl ?_)
  (iterate 8 (first|refine GoR.end ?_|(refine GoR.gd rfl ?_;first|refine GoR.wanted' rfl rfl rfl rfl (g:=?_)|refine GoR.unwanted' rfl rfl rfl rfl (hd:=rfl) (hN:=rfl) (g:=?_)|refine GoR.unwantedU rfl rfl rfl rfl rfl rfl ?_)|(refine GoR.kk 0 rfl ?_;first|refine GoR.move rfl rfl rfl rfl rfl ?_|refine GoR.assign rfl rfl rfl rfl rfl ?_)|(refine GoR.kk 1 rfl ?_;first|refine GoR.load' rfl rfl rfl rfl rfl (g:=?_)|refine GoR.loadA' rfl rfl rfl rfl rfl (hv:=rfl) (g:=?_)|refine GoR.loadV' rfl rfl rfl rfl rfl (g:=?_)|refine GoR.loadVN' rfl rfl rfl rfl rfl (g:=?_))|(refine GoR.kk 2 rfl ?_;first|refine GoR.store' rfl rfl rfl rfl rfl (hl:=rfl) (h1:=rfl) (h3:=rfl) (g:=?_))|(refine GoR.kk 3 rfl ?_;first|refine GoR.fieldAddr rfl rfl rfl rfl rfl ?_|refine GoR.indexN' rfl rfl rfl rfl rfl rfl (g:=?_)|refine GoR.indexNs' rfl rfl rfl rfl rfl rfl (g:=?_)|refine GoR.indexV' rfl rfl rfl rfl rfl rfl (g:=?_)|refine GoR.indexA' rfl rfl rfl rfl rfl rfl (g:=?_)|refine GoR.fieldV' rfl rfl rfl rfl rfl (g:=?_))|(refine GoR.kk 4 rfl ?_;first|refine GoR.eq rfl rfl rfl rfl rfl rfl ?_|refine GoR.ne rfl rfl rfl rfl rfl rfl ?_|refine GoR.lt rfl rfl rfl rfl rfl rfl ?_|refine GoR.le rfl rfl rfl rfl rfl rfl ?_|refine GoR.gt rfl rfl rfl rfl rfl rfl ?_|refine GoR.ge rfl rfl rfl rfl rfl rfl ?_|refine GoR.addN' rfl rfl rfl rfl rfl rfl (g:=?_)|refine GoR.subN' rfl rfl rfl rfl rfl rfl (g:=?_)|refine GoR.add' rfl rfl rfl rfl rfl rfl (g:=?_)|refine GoR.sub' rfl rfl rfl rfl rfl rfl (g:=?_)|refine GoR.addM' rfl rfl rfl rfl rfl rfl (g:=?_)|refine GoR.subM' rfl rfl rfl rfl rfl rfl (g:=?_)|refine GoR.mulM' rfl rfl rfl rfl rfl rfl (g:=?_)|refine GoR.shrN rfl rfl rfl rfl rfl rfl rfl ?_|refine GoR.structEq rfl rfl rfl rfl rfl rfl (by rfl) (by rfl) ?_|refine GoR.structNe rfl rfl rfl rfl rfl rfl (by rfl) (by rfl) ?_|refine GoR.strEq rfl rfl rfl rfl rfl rfl ?_|refine GoR.strNe rfl rfl rfl rfl rfl rfl ?_|refine GoR.remN' rfl rfl rfl rfl rfl rfl (g:=?_)|refine GoR.quoN' rfl rfl rfl rfl rfl rfl (g:=?_)|refine GoR.shlN' rfl rfl rfl rfl rfl rfl rfl (g:=?_)|refine GoR.orN' rfl rfl rfl rfl rfl rfl (g:=?_))|(refine GoR.kk 5 rfl ?_;first|refine GoR.len rfl rfl rfl rfl rfl ?_|refine GoR.lenStr rfl rfl rfl rfl rfl ?_|refine GoR.capB rfl rfl rfl rfl rfl ?_)|(refine GoR.kk 7 rfl ?_;first|refine GoR.pickE' rfl rfl rfl rfl rfl (hx:=rfl) (hy:=rfl) (g:=?_)|refine GoR.pickN' rfl rfl rfl rfl rfl (hx:=rfl) (hy:=rfl) (g:=?_)|refine GoR.pickB rfl rfl rfl rfl rfl rfl rfl ?_)|(refine GoR.kk 8 rfl ?_;first|refine GoR.boxA rfl rfl rfl rfl rfl ?_|refine GoR.boxS rfl rfl rfl rfl rfl rfl ?_|refine GoR.alloc rfl rfl rfl rfl ?_)|(refine GoR.kk 9 rfl ?_;first|refine GoR.strV' rfl rfl rfl rfl rfl (g:=?_)|refine GoR.conv_u8 rfl rfl rfl rfl rfl ?_|refine GoR.convW' rfl rfl rfl rfl rfl (g:=?_)|refine GoR.conv_u16 rfl rfl rfl rfl rfl ?_|refine GoR.conv_u32 rfl rfl rfl rfl rfl ?_)|(refine GoR.kk 10 rfl ?_;first|refine GoR.build' rfl rfl rfl rfl rfl rfl (g:=?_))|(refine GoR.kk 11 rfl ?_;first|refine GoR.extract rfl rfl rfl rfl rfl rfl ?_|refine GoR.not rfl rfl rfl rfl rfl ?_|refine GoR.nilCheck rfl rfl rfl rfl rfl ?_|refine GoR.nilCheckF rfl rfl rfl rfl rfl ?_|refine GoR.makeFunc rfl rfl rfl rfl rfl rfl ?_)|(refine Go.kk 0 rfl ?_;refine Go.seq ?_)|(refine Go.kk 1 rfl ?_;refine Go.region (by kernel_rfl) rfl ?_)|(refine Go.kk 2 rfl ?_;refine Go.drawnQ rfl (by kernel_rfl) rfl ?_)|(refine Go.kk 3 rfl ?_;first|refine Go.cond_t' rfl (g:=?_)|refine Go.cond_f' rfl (g:=?_))|(refine Go.kk 4 rfl ?_;refine Go.block ?_)|(refine Go.kk 5 rfl ?_;first|refine Go.skip ?_|refine Go.ret ?_|refine Go.exit ?_|refine Go.scope ?_)|refine Go.leave_normal ?_|refine Go.leave_same ?_|refine Go.leave_ret ?_|refine Go.ret_code ?_|refine Go.exit_code ?_|refine Go.leave_other rfl ?_|refine Go.sc_normal ?_|refine Go.sc_ret ?_|refine Go.sc_exit ?_|refine Go.exit_back ?_|refine Go.ret_back ?_))
  refine GoR.bin rfl rfl rfl rfl rfl rfl hs ?_
  (refine Go.run (g:=?_))
  (first|refine Go.finT (by first|exact .inr rfl|exact .inl rfl) rfl ?_|refine Go.fin1 (by first|exact .inr rfl|exact .inl rfl) rfl (hq:=?_))
  exact ⟨rfl, rfl⟩
def wayN (cum k : Nat) : Nat := spanN cum k % 65536
def gstep (out : List (Nat × Nat)) (w : Nat) : Option (List (Nat × Nat)) :=
  match out.getLast? with
  | some (s, e) => if (e + 1) % 65536 = w then some (out.dropLast ++ [(s, w)]) else if out.length = 64 then none else some (out ++ [(w, w)])
  | none => some (out ++ [(w, w)])
def gfold : List Nat → List (Nat × Nat) → List (Nat × Nat)
  | [], out => out
  | w :: l, out => match gstep out w with
    | some o => gfold l o
    | none => out
abbrev gcs (l : List (Nat × Nat)) : List Value := (l.map fun x => [Value.int .u16 x.1, .int .u16 x.2]).flatten
theorem gcs_len (l : List (Nat × Nat)) : (gcs l).length = l.length * 2 := by
  induction l with
  | nil => rfl
  | cons x l ih => simp only [gcs, List.map_cons, List.flatten_cons, List.length_append, List.length_cons, List.length_nil] at ih ⊢; omega
theorem gcs_snoc (l : List (Nat × Nat)) (x : Nat × Nat) : gcs (l ++ [x]) = gcs l ++ [.int .u16 x.1, .int .u16 x.2] := by simp [gcs]
theorem gcs_last (l : List (Nat × Nat)) (x : Nat × Nat) : (gcs (l ++ [x]))[l.length * 2 + 1]? = some (.int .u16 x.2) := by
  rw [gcs_snoc, List.getElem?_append_right (by rw [gcs_len]; omega), gcs_len, Nat.add_sub_cancel_left]; rfl
theorem gcs_setLast (l : List (Nat × Nat)) (x : Nat × Nat) (w : Nat) : (gcs (l ++ [x])).set (l.length * 2 + 1) (.int .u16 w) = gcs (l ++ [(x.1, w)]) := by
  rw [gcs_snoc, gcs_snoc, List.set_append_right _ _ (by rw [gcs_len]; omega), gcs_len, Nat.add_sub_cancel_left]; rfl
theorem gstep_nil (w : Nat) : gstep [] w = some [(w, w)] := rfl
theorem gstep_snoc (l : List (Nat × Nat)) (x : Nat × Nat) (w : Nat) : gstep (l ++ [x]) w = if (x.2 + 1) % 65536 = w then some (l ++ [(x.1, w)]) else if l.length + 1 = 64 then none else some (l ++ [x] ++ [(w, w)]) := by
  unfold gstep
  simp
theorem add16 (e : Nat) (he : e < 65536) : iBin .add .u16 (e : Int) ((1 : Nat) : Int) = some (.int .u16 (((e + 1) % 65536 : Nat) : Int)) := by
  have q : (((e + 1) % 65536 : Nat) : Int) = ((e : Int) + 1) % 65536 := by omega
  simp [iBin, IntKind.wrap, IntKind.bits, IntKind.signed]
structure GSt (h : AHeap) (sb r : Nat) (cum : Nat) (es : Array MapEntry) (ck : Nat) (ks : List Nat) (da : Option Addr) (dl dc : Nat) : Prop where
  sc : h.get sb = some (.cells [.int .u32 cum, .map (some r), .slice da dl dc] 83)
  mp : h.get r = some (.map es ck)
  ky : es.toList.map (fun e => (e.key, e.val)) = ks.map fun (k : Nat) => (Value.int .u32 (k : Int), Value.agg #[])
  bo : ∀ e ∈ es.toList, e.born < ck
  nd : (es.toList.map (·.born)).Nodup
  kb : ∀ k ∈ ks, k < 4294967296
  cb : cum < 4294967296
  dw : low h.n (.slice da dl dc) = true
def keyN (e : MapEntry) : Nat := match e.key with
  | .int _ n => n.toNat
  | _ => 0
theorem GSt.entry {h : AHeap} {sb r cum ck : Nat} {es : Array MapEntry} {ks : List Nat} {da : Option Addr} {dl dc : Nat} (g : GSt h sb r cum es ck ks da dl dc) {e : MapEntry} (he : e ∈ es.toList) : e.key = .int .u32 (keyN e : Nat) ∧ e.val = .agg #[] ∧ keyN e < 4294967296 := by
  have h1 : (e.key, e.val) ∈ es.toList.map (fun e => (e.key, e.val)) := List.mem_map_of_mem he
  rw [g.ky] at h1
  obtain ⟨k, hk, e1⟩ := List.mem_map.1 h1
  simp only [Prod.mk.injEq] at e1
  have hkn : keyN e = k := by unfold keyN; rw [← e1.1]; rfl
  exact ⟨by rw [hkn]; exact e1.1.symm, e1.2.symm, by have := g.kb k hk; rw [← hkn] at this; exact this⟩
theorem GSt.keys {h : AHeap} {sb r cum ck : Nat} {es : Array MapEntry} {ks : List Nat} {da : Option Addr} {dl dc : Nat} (g : GSt h sb r cum es ck ks da dl dc) : es.toList.map keyN = ks := by
  have h1 := congrArg (List.map fun x : Value × Value => match x.1 with | .int _ n => n.toNat | _ => 0) g.ky
  rw [List.map_map, List.map_map] at h1
  have e2 : ks.map ((fun x : Value × Value => match x.1 with | .int _ n => n.toNat | _ => 0) ∘ fun (k : Nat) => (Value.int .u32 (k : Int), Value.agg #[])) = ks := by
    rw [show ((fun x : Value × Value => match x.1 with | .int _ n => n.toNat | _ => 0) ∘ fun k : Nat => (Value.int .u32 (k : Int), Value.agg #[])) = id from funext fun k => rfl]
    simp
  rw [e2] at h1
  exact h1
theorem aEq_ptrNil {P : Program} {h : AHeap} {t e : TypeId} (hu : P.underlying t = some (.pointer e)) (a : Addr) : aEq P h t (.pointer (some a)) (.pointer none) = some (false, []) := by
  unfold aEq
  rw [hu]
theorem setU : Try.prog.underlying 25 = some (.pointer 83) := by kernel_rfl
theorem aheadU : Try.prog.underlying 81 = some (.map 22 85) := by kernel_rfl
def remE (es : List MapEntry) (seen : List Nat) : Nat := es.countP fun e => !seen.contains e.born
theorem remE_lt {seen : List Nat} {e : MapEntry} (hs : e.born ∉ seen) : ∀ {es : List MapEntry}, e ∈ es → remE es (seen ++ [e.born]) < remE es seen
  | x :: l, he => by
    have mono : ∀ l : List MapEntry, remE l (seen ++ [e.born]) ≤ remE l seen := fun l => by
      unfold remE
      refine List.countP_mono_left fun y _ hy => ?_
      simp only [Bool.not_eq_true', List.contains_eq_mem, decide_eq_false_iff_not, List.mem_append, not_or] at hy ⊢
      exact hy.1
    unfold remE at mono ⊢
    rw [List.countP_cons, List.countP_cons]
    rcases List.mem_cons.1 he with rfl | he
    · have h1 : (!(seen ++ [e.born]).contains e.born) = false := by simp
      have h2 : (!seen.contains e.born) = true := by simpa using hs
      rw [h1, h2]
      have := mono l
      simp only [Bool.false_eq_true, if_false, if_true]
      omega
    · have ih := remE_lt hs he
      unfold remE at ih
      have h3 : (if (!(seen ++ [e.born]).contains x.born) = true then 1 else 0) ≤ (if (!seen.contains x.born) = true then 1 else 0) := by
        split
        · rename_i hy
          rw [if_pos]
          · exact Nat.le_refl _
          · simp only [Bool.not_eq_true', List.contains_eq_mem, decide_eq_false_iff_not, List.mem_append, not_or] at hy ⊢
            exact hy.1
        · exact Nat.zero_le _
      omega
theorem nodup_of_map {α β : Type} (f : α → β) : ∀ {l : List α}, (l.map f).Nodup → l.Nodup
  | [], _ => .nil
  | x :: l, h => by
    rw [List.map_cons, List.nodup_cons] at h
    exact List.nodup_cons.2 ⟨fun hx => h.1 (List.mem_map_of_mem hx), nodup_of_map f h.2⟩
theorem inj_of_map {α β : Type} (f : α → β) : ∀ {l : List α}, (l.map f).Nodup → ∀ x ∈ l, ∀ y ∈ l, f x = f y → x = y
  | z :: l, h, x, hx, y, hy, e => by
    rw [List.map_cons, List.nodup_cons] at h
    rcases List.mem_cons.1 hx with h1 | h1
    · rcases List.mem_cons.1 hy with h2 | h2
      · rw [h1, h2]
      · exact absurd (by rw [← h1, e]; exact List.mem_map_of_mem h2) h.1
    · rcases List.mem_cons.1 hy with h2 | h2
      · exact absurd (by rw [← h2, ← e]; exact List.mem_map_of_mem h1) h.1
      · exact inj_of_map f h.2 x h1 y h2 e
abbrev wcs (cum : Nat) (L : List MapEntry) : List Value := L.map fun e => Value.int .u16 (wayN cum (keyN e) : Nat)
theorem dOf (w : MapEntry → Nat) (L : List MapEntry) : ∃ D : Array Int, D.toList = (L.map w).map (fun (n : Nat) => (n : Int)) ∧ D.size = L.length ∧ ksU D = L.map fun e => Value.int .u16 (w e : Nat) :=
  ⟨((L.map w).map fun (n : Nat) => (n : Int)).toArray, by simp, by simp, by simp [ksU]⟩
theorem permOf (f : MapEntry → Nat) (g : Nat → Nat) {L : List MapEntry} {ks : List Nat} (hp : (L.map f).Perm ks) : ((L.map fun e => g (f e)).map fun (n : Nat) => (n : Int)).Perm ((ks.map g).map fun (n : Nat) => (n : Int)) := by
  have := hp.map g
  rw [List.map_map] at this
  exact this.map _
set_option maxHeartbeats 32000000 in
theorem gaps_spec (sb r cum : Nat) (es : Array MapEntry) (ck : Nat) (ks : List Nat) (da : Option Addr) (dl dc : Nat) (hn : ks.length ≤ 1000000) (h : AHeap) (G : GSt h sb r cum es ck ks da dl dc) (hr : r < h.n) (S : List Nat) (hSb : ∀ w ∈ S, w < 65536) (hS : ∀ D : Array Int, D.toList.Perm ((ks.map (wayN cum)).map fun (n : Nat) => (n : Int)) → (sort ltInt D).toList = S.map (fun (n : Nat) => (n : Int))) :
    CallS Try.prog [] 18 [.pointer (some ⟨sb, 0, none⟩)] h fun v h' => ∃ a, v = .slice a (gfold S []).length (gfold S []).length ∧ Sv h' 49 2 a (gfold S []).length (gfold S []).length (gcs (gfold S [])) ∧ Own h.n a := by
  have hsb := AHeap.lt G.sc
  refine CallS.ofOpen (ov := [(0, .pointer (some ⟨sb, 0, none⟩))]) noGlobals [sb, r] Try.func18 rfl Try.ntmps18 Try.results18 rfl rfl (by kernel_rfl) ?_ ?_ ?_ ?_ ?_
  · intro x hx
    obtain ⟨y, hy, hxy⟩ := List.mem_flatten.1 hx
    obtain ⟨g, hg, rfl⟩ := List.mem_map.1 hy
    simp only [List.mem_cons, List.not_mem_nil, or_false] at hxy
    rcases hxy with rfl | rfl <;> rfl
  · exact gcs_len _
  · intro i hi o ho
    simp only [List.mem_cons, List.not_mem_nil, or_false] at hi
    rcases hi with rfl | rfl
    · rw [G.sc] at ho
      cases ho
      intro x hx
      simp only [List.mem_cons, List.not_mem_nil, or_false] at hx
      rcases hx with rfl | rfl | rfl
      · rfl
      · show Nat.blt r h.n = true
        simpa [Nat.blt_eq] using hr
      · exact G.dw
    · rw [G.mp] at ho
      cases ho
      intro e he
      obtain ⟨h1, h2, -⟩ := G.entry he
      rw [h1, h2]
      exact ⟨rfl, rfl⟩
  · intro x hx
    simp only [List.mem_singleton] at hx
    subst hx
    show Nat.blt sb h.n = true
    simpa [Nat.blt_eq] using hsb
  intro H hHn hH
  have gs : H.get sb = some (.cells [.int .u32 cum, .map (some r), .slice da dl dc] 83) := by rw [hH sb (by simp)]; exact G.sc
  have gm : H.get r = some (.map es ck) := by rw [hH r (by simp)]; exact G.mp
  refine GoD.seq ?_
  refine GoD.seg ?_
  (refine Go.run (g:=?_))
  refine GoD.back ?_
  refine GoD.seq ?_
  refine GoD.seg ?_
  (refine Go.run (g:=?_))
  refine GoR.eqRef rfl rfl rfl rfl (.inl rfl) rfl rfl (aEq_ptrNil setU _) ?_
  (refine Go.run (g:=?_))
  refine GoD.back ?_
  refine GoD.seq ?_
  refine GoD.seg ?_
  (refine Go.run (g:=?_))
  refine GoD.back ?_
  refine GoD.seq ?_
  refine GoD.seq ?_
  refine GoD.seg ?_
  (refine Go.run (g:=?_))
  refine GoR.range rfl rfl rfl rfl rfl aheadU gm ?_
  (refine Go.run (g:=?_))
  refine GoD.back ?_
  refine GoD.block ?_
  have gs1 : (H.push (.mit (some r) ck [])).get sb = _ := get_push_lt gs
  have gm1 : (H.push (.mit (some r) ck [])).get r = _ := get_push_lt gm
  have gi1 : (H.push (.mit (some r) ck [])).get H.n = some (.mit (some r) ck []) := AHeap.get_push_same H _
  have n1 : (H.push (.mit (some r) ck [])).n = H.n + 1 := rfl
  generalize H.push (.mit (some r) ck []) = H1 at *
  refine GoD.loop (α := List MapEntry × Option Addr × Nat × AHeap) (fun x => [(15, .pointer (some ⟨H.n, 0, none⟩)), (3, .slice x.2.1 x.1.length x.2.2.1), (0, .pointer (some ⟨sb, 0, none⟩))]) (fun _ => []) (fun x => x.2.2.2) (fun x => (∀ e ∈ x.1, e ∈ es.toList) ∧ (x.1.map (·.born)).Nodup ∧ x.1.length + remE es.toList (x.1.map (·.born)) ≤ ks.length ∧ x.2.2.2.get H.n = some (.mit (some r) ck (x.1.map (·.born))) ∧ x.2.2.2.get sb = some (.cells [.int .u32 cum, .map (some r), .slice da dl dc] 83) ∧ x.2.2.2.get r = some (.map es ck) ∧ H.n + 1 ≤ x.2.2.2.n ∧ Own (H.n + 1) x.2.1 ∧ Sv x.2.2.2 46 1 x.2.1 x.1.length x.2.2.1 (wcs cum x.1)) (fun x => remE es.toList (x.1.map (·.born))) ([], none, 0, H1) ?_ ?_ rfl rfl ?_
  · exact ⟨(fun e he => by cases he), List.nodup_nil, (by have h1 := List.countP_le_length (p := fun e : MapEntry => !([] : List Nat).contains e.born) (l := es.toList); have h2 := congrArg List.length G.keys; rw [List.length_map] at h2; simp only [List.length_nil, List.map_nil, remE]; omega), gi1, gs1, gm1, (by simp only; omega), Own.nil _, Sv.nil⟩
  · exact ⟨rfl, rfl, rfl, trivial⟩
  clear gs gm gs1 gm1 gi1
  rintro ⟨L, a, cap, H2⟩ ⟨hLe, hLn, hLl, gi, gs, gm, hn2, own, sv⟩
  simp only at hLe hLn hLl gi gs gm hn2 own sv ⊢
  refine GoD.seq ?_
  refine GoD.next (by kernel_rfl) rfl rfl rfl rfl rfl rfl rfl rfl rfl gi gm G.bo (.inr (by omega)) ?_ ?_
  · intro hall
    refine GoD.seg ?_
    (refine Go.run (g:=?_))
    refine GoD.back ?_
    refine GoD.skip_back (by intro q; cases q) ?_
    refine GoD.leave ?_
    rw [show Exit.leave 0 (.exit 0) = .normal from rfl]
    have hp : (L.map keyN).Perm ks := by
      rw [← G.keys]
      refine List.Perm.map _ ((List.perm_ext_iff_of_nodup (nodup_of_map _ hLn) (nodup_of_map _ G.nd)).2 fun e => ⟨fun q => hLe e q, fun q => ?_⟩)
      obtain ⟨e', h1, h2⟩ := List.mem_map.1 (hall e q)
      rw [← inj_of_map _ G.nd e' (hLe e' h1) e q h2]; exact h1
    obtain ⟨D, hDt, hDs, hks⟩ := dOf (fun e => wayN cum (keyN e)) L
    have hpp := permOf keyN (wayN cum) hp
    rw [← hDt] at hpp
    have hsort := hS D hpp
    clear hpp hDt
    have sp := sortU_spec a cap D (by omega) H2 (by unfold KvU; rw [hks, hDs]; exact sv)
    rw [hDs] at sp
    generalize sort ltInt D = E at *
    refine GoD.seg ?_
    (refine Go.run (g:=?_))
    refine GoR.callW rfl rfl rfl rfl rfl rfl rfl (((sp).argA).mono ?_)
    rintro _ H5 ⟨rfl, hDl, sv5⟩ k5
    refine ⟨fun i hi => .inr (by have := own i hi; omega), ?_⟩
    have hks2 : ksU E = S.map fun (n : Nat) => Value.int .u16 (n : Int) := by
      show E.toList.map _ = _
      rw [hsort]; simp
    have hSl : S.length = L.length := by
      have := congrArg List.length hsort
      rw [List.length_map, Array.length_toList, hDl] at this
      exact this.symm
    rw [hks2, ← hSl] at sv5
    rw [← hSl]
    clear sp hks hks2 hsort hDl hp sv gi gs gm
    have hba : ∀ j ∈ blk a, j < H5.n := sv5.lt
    have hSl6 : S.length ≤ 1000000 := by rw [hSl]; omega
    have m5 := k5.1
    clear k5 own
    (refine Go.run (g:=?_))
    refine Go.loop (α := Nat × List (Nat × Nat) × Option Addr × Nat × AHeap) (fun x => [(34, .int .i64 x.1), (33, .int .i64 S.length), (32, .slice a S.length cap), (5, .slice x.2.2.1 x.2.1.length x.2.2.2.1)]) (fun _ => []) (fun x => x.2.2.2.2) (fun x => x.1 ≤ S.length ∧ (x.2.1.length = 0 → x.2.2.1 = none) ∧ x.2.1.length ≤ x.1 ∧ (∀ g ∈ x.2.1, g.2 < 65536) ∧ H5.n ≤ x.2.2.2.2.n ∧ Own H5.n x.2.2.1 ∧ Sv x.2.2.2.2 46 1 a S.length cap (S.map fun (n : Nat) => Value.int .u16 (n : Int)) ∧ Sv x.2.2.2.2 49 2 x.2.2.1 x.2.1.length x.2.2.2.1 (gcs x.2.1) ∧ gfold (S.drop x.1) x.2.1 = gfold S []) (fun x => S.length - x.1) (0, [], none, 0, H5) ?_ ?_ rfl rfl ?_
    · exact ⟨Nat.zero_le _, fun _ => rfl, Nat.le_refl _, (fun g hg => by cases hg), Nat.le_refl _, Own.nil _, sv5, Sv.nil, rfl⟩
    · exact ⟨rfl, rfl, rfl, rfl, trivial⟩
    clear sv5
    rintro ⟨i, O, oa, oc, H6⟩ ⟨hi, hO0, hOl, hOb, n6, oown, sv6, so6, eq⟩
    simp only at hi hO0 hOl hOb n6 oown sv6 so6 eq ⊢
    rcases Nat.lt_or_ge i S.length with i0 | i0
    case inr =>
      rw [List.drop_eq_nil_of_le i0] at eq
      have eq : O = gfold S [] := eq
      (refine Go.run (g:=?_))
      refine GoD.back ?_
      rw [← eq]
      exact GoD.finS (.inr rfl) (.tmp rfl .nil) rfl so6 (fun j hj => by have := oown j hj; omega) hO0
    have cw : (S.map fun (n : Nat) => Value.int .u16 (n : Int))[i]? = some (.int .u16 (S[i] : Nat)) := by rw [List.getElem?_map, List.getElem?_eq_getElem i0]; rfl
    have wb := hSb S[i] (List.getElem_mem i0)
    rw [List.drop_eq_getElem_cons i0] at eq
    generalize S[i] = w at *
    have gnext : ∀ (O' : List (Nat × Nat)), gstep O w = some O' → gfold (S.drop (i + 1)) O' = gfold S [] := fun O' hg => by rw [← eq]; show _ = (match gstep O w with | some o => gfold (S.drop (i + 1)) o | none => O); rw [hg]
    rcases List.eq_nil_or_concat O with hO | ⟨init, ⟨st, e⟩, hO⟩
    · subst hO
      have gn := gnext _ (gstep_nil w)
      have l0 : ([] : List (Nat × Nat)).length = 0 := rfl
      rw [l0] at so6 hOl ⊢
      (refine Go.run (g:=?_))
      refine GoR.buildRo (c := [.int .u16 (w : Nat), .int .u16 (w : Nat)]) rfl rfl rfl rfl rfl (by decide) (by rfl) (by rfl) ?_
      intro b8 h8 hb8 rb8 ob8 s8 n8
      have m8 := s8.1
      refine GoR.appendV rfl rfl rfl rfl rfl rfl (so6.same s8) hb8 (fun j hj => .inr (by have := oown j hj; omega)) (by omega) (by omega) (by rfl) ?_
      intro b9 c9 h9 hs9 k9 o9
      have m9 := k9.1
      have sv9 := (sv6.same s8).keeps k9 (fun j hj hm => by have := hba j hj; have := oown j hm; omega)
      (refine Go.run (g:=?_))
      refine Go.again (i + 1, [(w, w)], b9, c9, h9) ⟨by simp only; omega, fun q => by simp at q, by simp, (fun g hg => by simp only [List.mem_singleton] at hg; rw [hg]; exact wb), by simp only; omega, fun j hj => ?_, sv9, hs9, gn⟩ (by simp only; omega) ⟨rfl, rfl, rfl, rfl, trivial⟩ rfl rfl
      rcases o9 j hj with q | q
      · exact oown j q
      · omega
    · rw [List.concat_eq_append] at hO
      subst hO
      have hl : (init ++ [(st, e)]).length = init.length + 1 := by simp
      have eb : e < 65536 := hOb (st, e) (by simp)
      have hstep := gstep_snoc init (st, e) w
      have cl : (gcs (init ++ [(st, e)]))[(init.length + 1 - 1) * 2 + 1]? = some (.int .u16 (e : Nat)) := by rw [Nat.add_sub_cancel]; exact gcs_last init (st, e)
      have gl := gcs_len (init ++ [(st, e)])
      rw [hl] at so6 hOl gl ⊢
      have hkv : (init.length + 1 - 1) * 2 < (gcs (init ++ [(st, e)])).length := by rw [gl]; omega
      (refine Go.run (g:=?_))
      refine GoR.bin rfl rfl rfl rfl rfl rfl (add16 e eb) ?_
      generalize hq : (e + 1) % 65536 = q at *
      by_cases hw : q = w
      · rw [if_pos hw] at hstep
        have gn := gnext _ hstep
        subst hw
        (refine Go.run (g:=?_))
        refine GoR.store1' rfl rfl rfl rfl rfl rfl (hS := so6) (hw := fun j hj => .inr (by have := oown j hj; omega)) (g:=?_)
        intro h7 so7 k7 n7
        rw [Nat.add_sub_cancel, gcs_setLast] at so7
        have sv7 := sv6.keeps k7 (fun j hj hm => by have := hba j hj; have := oown j hm; omega)
        (refine Go.run (g:=?_))
        refine Go.again (i + 1, init ++ [(st, q)], oa, oc, h7) ⟨by simp only; omega, fun z => by simp at z, by simp only [List.length_append, List.length_cons, List.length_nil]; omega, fun g hg => ?_, by have := k7.1; simp only; omega, oown, sv7, by simpa using so7, gn⟩ (by simp only; omega) ⟨rfl, rfl, rfl, ?_, trivial⟩ rfl rfl
        · rcases List.mem_append.1 hg with z | z
          · exact hOb g (by simp [z])
          · simp only [List.mem_singleton] at z; rw [z]; exact wb
        · simp only [List.length_append, List.length_cons, List.length_nil]; rfl
      · rw [if_neg hw] at hstep
        by_cases h64 : init.length + 1 = 64
        · rw [if_pos h64] at hstep
          have eq : init ++ [(st, e)] = gfold S [] := by rw [← eq]; show _ = (match gstep (init ++ [(st, e)]) w with | some o => gfold (S.drop (i + 1)) o | none => init ++ [(st, e)]); rw [hstep]
          (refine Go.run (g:=?_))
          refine GoD.back ?_
          rw [← eq, hl]
          exact GoD.finS (.inr rfl) (.tmp rfl .nil) rfl so6 (fun j hj => by have := oown j hj; omega) (fun z => by omega)
        · rw [if_neg h64] at hstep
          have gn := gnext _ hstep
          (refine Go.run (g:=?_))
          refine GoR.buildRo (c := [.int .u16 (w : Nat), .int .u16 (w : Nat)]) rfl rfl rfl rfl rfl (by decide) (by rfl) (by rfl) ?_
          intro b8 h8 hb8 rb8 ob8 s8 n8
          have m8 := s8.1
          refine GoR.appendV rfl rfl rfl rfl rfl rfl (so6.same s8) hb8 (fun j hj => .inr (by have := oown j hj; omega)) (by omega) (by omega) (by rfl) ?_
          intro b9 c9 h9 hs9 k9 o9
          have m9 := k9.1
          have sv9 := (sv6.same s8).keeps k9 (fun j hj hm => by have := hba j hj; have := oown j hm; omega)
          (refine Go.run (g:=?_))
          refine Go.again (i + 1, init ++ [(st, e)] ++ [(w, w)], b9, c9, h9) ⟨by simp only; omega, fun z => by simp at z, by simp only [List.length_append, List.length_cons, List.length_nil]; omega, fun g hg => ?_, by simp only; omega, fun j hj => ?_, sv9, ?_, gn⟩ (by simp only; omega) ⟨rfl, rfl, rfl, ?_, trivial⟩ rfl rfl
          · rcases List.mem_append.1 hg with z | z
            · exact hOb g z
            · simp only [List.mem_singleton] at z; rw [z]; exact wb
          · rcases o9 j hj with z | z
            · exact oown j z
            · omega
          · simp only [List.length_append, List.length_cons, List.length_nil]
            rw [gcs_snoc]
            exact hs9
          · simp only [List.length_append, List.length_cons, List.length_nil]; rfl
  · intro e he hne
    refine GoD.seg ?_
    (refine Go.run (g:=?_))
    refine GoR.name ?_
    intro H3 e3
    have gi3 : H3.get H.n = some (.mit (some r) ck (L.map (·.born) ++ [e.born])) := by subst e3; exact AHeap.get_put_same _ (by omega) _
    have k3 : Keeps [H.n] H2 H3 := by subst e3; exact (Keeps.rf _ _).pt (.inl (by simp)) _
    have n3 : H3.n = H2.n := by subst e3; rfl
    clear e3
    have gs3 := k3.get gs (by simp; omega)
    have gm3 := k3.get gm (by simp; omega)
    have sv3 := sv.keeps k3 (fun i hi hm => by simp only [List.mem_singleton] at hm; have := own i hi; omega)
    refine GoR.entry rfl rfl rfl rfl rfl gi3 gm3 he G.nd ?_
    obtain ⟨ke, kv, kl⟩ := G.entry he
    rw [ke, kv]
    have hsp := span_spec cum (keyN e) G.cb kl
    have hwl : wayN cum (keyN e) < 65536 := Nat.mod_lt _ (by decide)
    have hwd : spanN cum (keyN e) % 65536 = wayN cum (keyN e) := rfl
    generalize spanN cum (keyN e) = sp at *
    (refine Go.run (g:=?_))
    refine GoR.call rfl rfl rfl rfl rfl rfl rfl (((hsp _).argA).mono ?_)
    rintro _ H4 ⟨rfl, rfl⟩ -
    (refine Go.run (g:=?_))
    rw [hwd]
    refine GoR.buildRo (c := [.int .u16 (wayN cum (keyN e) : Nat)]) rfl rfl rfl rfl rfl (by decide) (by rfl) (by rfl) ?_
    intro b8 h8 hb8 rb8 ob8 s8 n8
    have m8 := s8.1
    refine GoR.appendV rfl rfl rfl rfl rfl rfl (sv3.same s8) hb8 (fun i hi => .inr (by have := own i hi; omega)) (by omega) (by omega) (by rfl) ?_
    intro b9 c9 h9 hs9 k9 o9
    have m9 := k9.1
    have nob : ∀ j, j < H.n + 1 → j ∉ blk a := fun j hj hm => by have := own j hm; omega
    (refine Go.run (g:=?_))
    refine GoD.back ?_
    refine GoD.again (L ++ [e], b9, c9, h9) ⟨fun x hx => ?_, ?_, ?_, ?_, ?_, ?_, by simp only; omega, fun j hj => ?_, ?_⟩ ?_ ⟨rfl, ?_, rfl, trivial⟩ rfl rfl
    · rcases List.mem_append.1 hx with q | q
      · exact hLe x q
      · simp only [List.mem_singleton] at q; rw [q]; exact he
    · simp only [List.map_append, List.map_cons, List.map_nil]
      rw [List.nodup_append]
      refine ⟨hLn, List.nodup_cons.2 ⟨List.not_mem_nil, List.nodup_nil⟩, fun x hx y hy => ?_⟩
      simp only [List.mem_singleton] at hy
      rw [hy]; exact fun q => hne (by rw [← q]; exact hx)
    · have := remE_lt hne he
      simp only [List.length_append, List.length_cons, List.length_nil, List.map_append, List.map_cons, List.map_nil]
      omega
    · simp only [List.map_append, List.map_cons, List.map_nil]
      exact k9.get (s8.get gi3) (nob _ (by omega))
    · exact k9.get (s8.get gs3) (nob _ (by omega))
    · exact k9.get (s8.get gm3) (nob _ (by omega))
    · rcases o9 j hj with q | q
      · exact own j q
      · omega
    · simp only [wcs, List.map_append, List.map_cons, List.map_nil, List.length_append, List.length_cons, List.length_nil]
      exact hs9
    · have := remE_lt hne he
      simp only [List.map_append, List.map_cons, List.map_nil]
      omega
    · simp only [List.length_append, List.length_cons, List.length_nil]
      rfl
end Go.Proofs.Ytfcfgmhcphmefaa
namespace Go.Proofs.Ytfcfgmhcphmefaa
open Go.Sort
set_option maxRecDepth 100000
attribute [local irreducible] Go GoR GoL
def bef32 (a b : Nat) : Bool := decide (0 < spanN a b) && decide (spanN a b < 2147483648)
set_option maxHeartbeats 8000000 in
theorem before_spec (a b : Nat) (ha : a < 4294967296) (hb : b < 4294967296) (h : AHeap) : CallS Try.prog [] 43 [.int .u32 a, .int .u32 b] h fun v h' => v = .bool (bef32 a b) ∧ h' = h := by
  have hs := sub32 a b ha hb
  have hl := span_lt a b
  unfold bef32
  generalize spanN a b = s at *
  (refine CallS.of2 Try.func43 rfl Try.ntmps43 Try.results43 rfl ?_)
  (iterate 8 (first|refine GoR.end ?_|(refine GoR.gd rfl ?_;first|refine GoR.wanted' rfl rfl rfl rfl (g:=?_)|refine GoR.unwanted' rfl rfl rfl rfl (hd:=rfl) (hN:=rfl) (g:=?_)|refine GoR.unwantedU rfl rfl rfl rfl rfl rfl ?_)|(refine GoR.kk 0 rfl ?_;first|refine GoR.move rfl rfl rfl rfl rfl ?_|refine GoR.assign rfl rfl rfl rfl rfl ?_)|(refine GoR.kk 1 rfl ?_;first|refine GoR.load' rfl rfl rfl rfl rfl (g:=?_)|refine GoR.loadA' rfl rfl rfl rfl rfl (hv:=rfl) (g:=?_)|refine GoR.loadV' rfl rfl rfl rfl rfl (g:=?_)|refine GoR.loadVN' rfl rfl rfl rfl rfl (g:=?_))|(refine GoR.kk 2 rfl ?_;first|refine GoR.store' rfl rfl rfl rfl rfl (hl:=rfl) (h1:=rfl) (h3:=rfl) (g:=?_))|(refine GoR.kk 3 rfl ?_;first|refine GoR.fieldAddr rfl rfl rfl rfl rfl ?_|refine GoR.indexN' rfl rfl rfl rfl rfl rfl (g:=?_)|refine GoR.indexNs' rfl rfl rfl rfl rfl rfl (g:=?_)|refine GoR.indexV' rfl rfl rfl rfl rfl rfl (g:=?_)|refine GoR.indexA' rfl rfl rfl rfl rfl rfl (g:=?_)|refine GoR.fieldV' rfl rfl rfl rfl rfl (g:=?_))|(refine GoR.kk 4 rfl ?_;first|refine GoR.eq rfl rfl rfl rfl rfl rfl ?_|refine GoR.ne rfl rfl rfl rfl rfl rfl ?_|refine GoR.lt rfl rfl rfl rfl rfl rfl ?_|refine GoR.le rfl rfl rfl rfl rfl rfl ?_|refine GoR.gt rfl rfl rfl rfl rfl rfl ?_|refine GoR.ge rfl rfl rfl rfl rfl rfl ?_|refine GoR.addN' rfl rfl rfl rfl rfl rfl (g:=?_)|refine GoR.subN' rfl rfl rfl rfl rfl rfl (g:=?_)|refine GoR.add' rfl rfl rfl rfl rfl rfl (g:=?_)|refine GoR.sub' rfl rfl rfl rfl rfl rfl (g:=?_)|refine GoR.addM' rfl rfl rfl rfl rfl rfl (g:=?_)|refine GoR.subM' rfl rfl rfl rfl rfl rfl (g:=?_)|refine GoR.mulM' rfl rfl rfl rfl rfl rfl (g:=?_)|refine GoR.shrN rfl rfl rfl rfl rfl rfl rfl ?_|refine GoR.structEq rfl rfl rfl rfl rfl rfl (by rfl) (by rfl) ?_|refine GoR.structNe rfl rfl rfl rfl rfl rfl (by rfl) (by rfl) ?_|refine GoR.strEq rfl rfl rfl rfl rfl rfl ?_|refine GoR.strNe rfl rfl rfl rfl rfl rfl ?_|refine GoR.remN' rfl rfl rfl rfl rfl rfl (g:=?_)|refine GoR.quoN' rfl rfl rfl rfl rfl rfl (g:=?_)|refine GoR.shlN' rfl rfl rfl rfl rfl rfl rfl (g:=?_)|refine GoR.orN' rfl rfl rfl rfl rfl rfl (g:=?_))|(refine GoR.kk 5 rfl ?_;first|refine GoR.len rfl rfl rfl rfl rfl ?_|refine GoR.lenStr rfl rfl rfl rfl rfl ?_|refine GoR.capB rfl rfl rfl rfl rfl ?_)|(refine GoR.kk 7 rfl ?_;first|refine GoR.pickE' rfl rfl rfl rfl rfl (hx:=rfl) (hy:=rfl) (g:=?_)|refine GoR.pickN' rfl rfl rfl rfl rfl (hx:=rfl) (hy:=rfl) (g:=?_)|refine GoR.pickB rfl rfl rfl rfl rfl rfl rfl ?_)|(refine GoR.kk 8 rfl ?_;first|refine GoR.boxA rfl rfl rfl rfl rfl ?_|refine GoR.boxS rfl rfl rfl rfl rfl rfl ?_|refine GoR.alloc rfl rfl rfl rfl ?_)|(refine GoR.kk 9 rfl ?_;first|refine GoR.strV' rfl rfl rfl rfl rfl (g:=?_)|refine GoR.conv_u8 rfl rfl rfl rfl rfl ?_|refine GoR.convW' rfl rfl rfl rfl rfl (g:=?_)|refine GoR.conv_u16 rfl rfl rfl rfl rfl ?_|refine GoR.conv_u32 rfl rfl rfl rfl rfl ?_)|(refine GoR.kk 10 rfl ?_;first|refine GoR.build' rfl rfl rfl rfl rfl rfl (g:=?_))|(refine GoR.kk 11 rfl ?_;first|refine GoR.extract rfl rfl rfl rfl rfl rfl ?_|refine GoR.not rfl rfl rfl rfl rfl ?_|refine GoR.nilCheck rfl rfl rfl rfl rfl ?_|refine GoR.nilCheckF rfl rfl rfl rfl rfl ?_|refine GoR.makeFunc rfl rfl rfl rfl rfl rfl ?_)|(refine Go.kk 0 rfl ?_;refine Go.seq ?_)|(refine Go.kk 1 rfl ?_;refine Go.region (by kernel_rfl) rfl ?_)|(refine Go.kk 2 rfl ?_;refine Go.drawnQ rfl (by kernel_rfl) rfl ?_)|(refine Go.kk 3 rfl ?_;first|refine Go.cond_t' rfl (g:=?_)|refine Go.cond_f' rfl (g:=?_))|(refine Go.kk 4 rfl ?_;refine Go.block ?_)|(refine Go.kk 5 rfl ?_;first|refine Go.skip ?_|refine Go.ret ?_|refine Go.exit ?_|refine Go.scope ?_)|refine Go.leave_normal ?_|refine Go.leave_same ?_|refine Go.leave_ret ?_|refine Go.ret_code ?_|refine Go.exit_code ?_|refine Go.leave_other rfl ?_|refine Go.sc_normal ?_|refine Go.sc_ret ?_|refine Go.sc_exit ?_|refine Go.exit_back ?_|refine Go.ret_back ?_))
  refine GoR.bin rfl rfl rfl rfl rfl rfl hs ?_
  rcases Nat.lt_or_ge 0 s with s0 | s0
  case inr =>
    obtain rfl : s = 0 := by omega
    (refine Go.run (g:=?_))
    (first|refine Go.finT (by first|exact .inr rfl|exact .inl rfl) rfl ?_|refine Go.fin1 (by first|exact .inr rfl|exact .inl rfl) rfl (hq:=?_))
    exact ⟨rfl, rfl⟩
  (refine Go.run (g:=?_))
  refine GoR.com (v := .int .u32 (4294967295 : Nat)) rfl rfl rfl rfl rfl (by kernel_rfl) ?_
  (refine Go.run (g:=?_))
  (first|refine Go.finT (by first|exact .inr rfl|exact .inl rfl) rfl ?_|refine Go.fin1 (by first|exact .inr rfl|exact .inl rfl) rfl (hq:=?_))
  refine ⟨?_, rfl⟩
  simp only [retV]
  rw [decide_eq_true s0, Bool.true_and]
  exact congrArg Value.bool (decide_eq_decide.2 (by omega))
instance miAhead : MI Try.prog 81 .u32 (.agg #[]) := ⟨22, 85, by kernel_rfl, by kernel_rfl, by kernel_rfl, rfl, fun em n => by kernel_rfl⟩
def dn32 (ks : List Nat) : List (Int × Value) := ks.map fun (k : Nat) => ((k : Int), Value.agg #[])
theorem al_dn32 (ks : List Nat) (n : Nat) : al (dn32 ks) n = if n ∈ ks then some (.agg #[]) else none := by
  induction ks with
  | nil => rfl
  | cons k ks ih =>
    show (if (k : Int) = n then some (Value.agg #[]) else al (dn32 ks) n) = _
    rw [ih]
    by_cases h : k = n
    · subst h; simp
    · rw [if_neg (by omega)]; simp [Ne.symm h]
theorem aset_dn32 (ks : List Nat) (n : Nat) (h : n ∉ ks) : aset (dn32 ks) n (.agg #[]) = dn32 (ks ++ [n]) := by
  induction ks with
  | nil => rfl
  | cons k ks ih =>
    simp only [List.mem_cons, not_or] at h
    show (if (k : Int) = n then _ else _) = _
    rw [if_neg (by omega)]
    show ((k : Int), Value.agg #[]) :: aset (dn32 ks) n (.agg #[]) = _
    rw [ih h.2]; rfl
theorem adel_dn32 (ks : List Nat) (n : Nat) : adel (dn32 ks) n = dn32 (ks.erase n) := by
  induction ks with
  | nil => rfl
  | cons k ks ih =>
    show (if (k : Int) = n then dn32 ks else ((k : Int), Value.agg #[]) :: adel (dn32 ks) n) = _
    by_cases h : k = n
    · subst h; simp
    · rw [if_neg (by omega), ih, List.erase_cons_tail (by simpa using h)]; rfl
abbrev u32s' (ds : List Nat) : List Value := ds.map fun (n : Nat) => Value.int .u32 (n : Int)
structure GSet (h : AHeap) (sb r cum : Nat) (ks : List Nat) (da : Option Addr) (dc : Nat) (ds : List Nat) (n0 : Nat) : Prop where
  sc : h.get sb = some (.cells [.int .u32 cum, .map (some r), .slice da ds.length dc] 83)
  mp : SMap h r .u32 (dn32 ks)
  dv : Sv h 22 1 da ds.length dc (u32s' ds)
  kb : ∀ k ∈ ks, k < 4294967296
  db : ∀ k ∈ ds, k < 4294967296
  cb : cum < 4294967296
  ap : sb ≠ r ∧ sb ∉ blk da ∧ r ∉ blk da
  ow : n0 ≤ sb ∧ n0 ≤ r ∧ Own n0 da
theorem GSet.same {h h' : AHeap} {sb r cum : Nat} {ks : List Nat} {da : Option Addr} {dc : Nat} {ds : List Nat} {n0 : Nat} (g : GSet h sb r cum ks da dc ds n0) (s : Same h h') : GSet h' sb r cum ks da dc ds n0 := { g with sc := s.get g.sc, mp := g.mp.same s, dv := g.dv.same s }
def hasN (cum : Nat) (ks : List Nat) (t : Nat) : Bool := decide (t ∈ ks) || (decide (t = cum) || bef32 t cum)
set_option maxHeartbeats 8000000 in
theorem has_spec (sb r cum : Nat) (ks : List Nat) (da : Option Addr) (dc : Nat) (ds : List Nat) (n0 t : Nat) (ht : t < 4294967296) (h : AHeap) (G : GSet h sb r cum ks da dc ds n0) : CallS Try.prog [] 21 [.pointer (some ⟨sb, 0, none⟩), .int .u32 t] h fun v h' => v = .bool (hasN cum ks t) := by
  have gs := G.sc
  have gm := G.mp.imap
  have hlt := AHeap.lt gs
  unfold hasN
  (refine CallS.of2 Try.func21 rfl Try.ntmps21 Try.results21 rfl ?_)
  (refine Go.run (g:=?_))
  refine GoR.eqRef rfl rfl rfl rfl (.inl rfl) rfl rfl (aEq_ptrNil setU _) ?_
  (refine Go.run (g:=?_))
  refine GoR.lookup2 rfl rfl rfl rfl rfl rfl gm ?_
  rw [al_dn32]
  have hbs := before_spec t cum ht G.cb
  by_cases hk : t ∈ ks
  · rw [if_pos hk, decide_eq_true hk, Bool.true_or]
    simp only [Option.getD_some, Option.isSome_some]
    (refine Go.run (g:=?_))
    (first|refine Go.finT (by first|exact .inr rfl|exact .inl rfl) rfl ?_|refine Go.fin1 (by first|exact .inr rfl|exact .inl rfl) rfl (hq:=?_))
    rfl
  · rw [if_neg hk, decide_eq_false hk, Bool.false_or]
    simp only [Option.getD_none, Option.isSome_none]
    by_cases hc : t = cum
    · rw [decide_eq_true hc, Bool.true_or]
      (refine Go.run (g:=?_))
      (first|refine Go.finT (by first|exact .inr rfl|exact .inl rfl) rfl ?_|refine Go.fin1 (by first|exact .inr rfl|exact .inl rfl) rfl (hq:=?_))
      rfl
    · rw [decide_eq_false hc, Bool.false_or]
      (refine Go.run (g:=?_))
      refine GoR.call rfl rfl rfl rfl rfl rfl rfl (((hbs _).argA).mono ?_)
      rintro _ H2 ⟨rfl, rfl⟩ -
      (refine Go.run (g:=?_))
      (first|refine Go.finT (by first|exact .inr rfl|exact .inl rfl) rfl ?_|refine Go.fin1 (by first|exact .inr rfl|exact .inl rfl) rfl (hq:=?_))
      simp [retV]
set_option maxHeartbeats 4000000 in
theorem cum_spec (sb r cum : Nat) (ks : List Nat) (da : Option Addr) (dc : Nat) (ds : List Nat) (n0 : Nat) (h : AHeap) (G : GSet h sb r cum ks da dc ds n0) : CallS Try.prog [] 16 [.pointer (some ⟨sb, 0, none⟩)] h fun v h' => v = .int .u32 (cum : Nat) ∧ h' = h := by
  have gs := G.sc
  (refine CallS.of1 Try.func16 rfl Try.ntmps16 Try.results16 rfl ?_)
  (refine Go.run (g:=?_))
  refine GoR.eqRef rfl rfl rfl rfl (.inl rfl) rfl rfl (aEq_ptrNil setU _) ?_
  (refine Go.run (g:=?_))
  (first|refine Go.finT (by first|exact .inr rfl|exact .inl rfl) rfl ?_|refine Go.fin1 (by first|exact .inr rfl|exact .inl rfl) rfl (hq:=?_))
  exact ⟨rfl, rfl⟩
set_option maxHeartbeats 4000000 in
theorem glen_spec (sb r cum : Nat) (ks : List Nat) (da : Option Addr) (dc : Nat) (ds : List Nat) (n0 : Nat) (h : AHeap) (G : GSet h sb r cum ks da dc ds n0) : CallS Try.prog [] 20 [.pointer (some ⟨sb, 0, none⟩)] h fun v h' => v = .int .i64 (ks.length : Nat) ∧ h' = h := by
  have gs := G.sc
  (refine CallS.of1 Try.func20 rfl Try.ntmps20 Try.results20 rfl ?_)
  (refine Go.run (g:=?_))
  refine GoR.eqRef rfl rfl rfl rfl (.inl rfl) rfl rfl (aEq_ptrNil setU _) ?_
  (refine Go.run (g:=?_))
  refine GoR.lenMapS rfl rfl rfl rfl rfl G.mp.imap ?_
  (refine Go.run (g:=?_))
  (first|refine Go.finT (by first|exact .inr rfl|exact .inl rfl) rfl ?_|refine Go.fin1 (by first|exact .inr rfl|exact .inl rfl) rfl (hq:=?_))
  exact ⟨by simp [retV, dn32], rfl⟩
end Go.Proofs.Ytfcfgmhcphmefaa
namespace Go.Proofs.Ytfcfgmhcphmefaa
open Go.Sort
set_option maxRecDepth 100000
attribute [local irreducible] Go GoR GoL
def next32 (c : Nat) : Nat := (c + 1) % 4294967296
def settleN : Nat → Nat → List Nat → Nat × List Nat
  | 0, c, ks => (c, ks)
  | n + 1, c, ks => if next32 c ∈ ks then settleN n (next32 c) (ks.erase (next32 c)) else (c, ks)
def addN (cum : Nat) (ks ds : List Nat) (t : Nat) : Nat × Nat × List Nat × List Nat :=
  if hasN cum ks t = true then (1, cum, ks, if ds.length < 16 then ds ++ [t] else ds)
  else if 65535 < spanN cum t then (2, cum, ks, ds)
  else (0, (settleN (ks.length + 1) cum (ks ++ [t])).1, (settleN (ks.length + 1) cum (ks ++ [t])).2, ds)
theorem add32 (c : Nat) : iBin .add .u32 (c : Int) ((1 : Nat) : Int) = some (.int .u32 ((next32 c : Nat) : Int)) := by
  have q : ((next32 c : Nat) : Int) = ((c : Int) + 1) % 4294967296 := by unfold next32; omega
  simp [iBin, IntKind.wrap, IntKind.bits, IntKind.signed, q]
theorem next32_lt (c : Nat) : next32 c < 4294967296 := Nat.mod_lt _ (by decide)
set_option maxHeartbeats 32000000 in
theorem add_spec (sb r cum : Nat) (ks : List Nat) (da : Option Addr) (dc : Nat) (ds : List Nat) (n0 t : Nat) (ht : t < 4294967296) (hds : ds.length ≤ 16) (h : AHeap) (hn0 : n0 ≤ h.n) (G : GSet h sb r cum ks da dc ds n0) : CallS Try.prog ([sb, r] ++ blk da) 10 [.pointer (some ⟨sb, 0, none⟩), .int .u32 t] h fun v h' => v = .int .u8 ((addN cum ks ds t).1 : Nat) ∧ ∃ da' dc', GSet h' sb r (addN cum ks ds t).2.1 (addN cum ks ds t).2.2.1 da' dc' (addN cum ks ds t).2.2.2 n0 ∧ ∀ i ∈ blk da', i ∈ blk da ∨ h.n ≤ i := by
  have gs := G.sc
  have hlt := AHeap.lt gs
  have hsp := span_spec cum t G.cb ht
  have hhs := has_spec sb r cum ks da dc ds n0 t ht h G
  (refine CallS.of2 Try.func10 rfl Try.ntmps10 Try.results10 rfl ?_)
  (refine Go.run (g:=?_))
  refine GoR.eqRef rfl rfl rfl rfl (.inl rfl) rfl rfl (aEq_ptrNil setU _) ?_
  (refine Go.run (g:=?_))
  refine GoR.call rfl rfl rfl rfl rfl rfl rfl (((hhs).argA).mono ?_)
  rintro _ h2 rfl s2
  have G2 := G.same s2
  have gs2 := G2.sc
  have m2 := s2.1
  cases hH : hasN cum ks t with
  | true =>
    rcases Nat.lt_or_ge ds.length 16 with l0 | l0
    · have hA : addN cum ks ds t = (1, cum, ks, ds ++ [t]) := by unfold addN; rw [if_pos hH, if_pos l0]
      rw [hA]
      (refine Go.run (g:=?_))
      refine GoR.buildRo (c := [.int .u32 (t : Nat)]) rfl rfl rfl rfl rfl (by decide) (by rfl) (by rfl) ?_
      intro b8 h8 hb8 rb8 ob8 s8 n8
      have m8 := s8.1
      refine GoR.appendV rfl rfl rfl rfl rfl rfl (G2.dv.same s8) hb8 (fun j hj => .inl (by simp [hj])) (by omega) (by omega) (by rfl) ?_
      intro b9 c9 h9 hs9 k9 o9
      have m9 := k9.1
      have gs9 := k9.get (s8.get gs2) G.ap.2.1
      have gm9 := (G2.mp.same s8).keeps k9 G.ap.2.2
      have n9 : ∀ j, j < h.n → j ∉ blk da → j ∉ blk b9 := fun j hj hn hm => by rcases o9 j hm with q | q; exact hn q; omega
      have sr := G.mp.lt
      (refine Go.run (g:=?_))
      refine Go.name ?_
      intro h10 e10
      have k10 : Keeps [sb] h9 h10 := by subst e10; exact (Keeps.rf _ _).pt (.inl (by simp)) _
      have gs10 : h10.get sb = some (.cells [.int .u32 cum, .map (some r), .slice b9 (ds.length + 1) c9] 83) := by subst e10; exact get_put_self gs9
      clear e10
      (first|refine Go.finT (by first|exact .inr rfl|exact .inl rfl) rfl ?_|refine Go.fin1 (by first|exact .inr rfl|exact .inl rfl) rfl (hq:=?_))
      refine ⟨rfl, b9, c9, ⟨?_, gm9.keeps k10 (by simp; exact Ne.symm G.ap.1), ?_, G.kb, fun k hk => ?_, G.cb, ⟨G.ap.1, n9 _ hlt G.ap.2.1, n9 _ sr G.ap.2.2⟩, ⟨G.ow.1, G.ow.2.1, fun j hj => ?_⟩⟩, fun i hi => ?_⟩
      · rw [List.length_append]; exact gs10
      · have := hs9.keeps k10 (fun j hj hm => by simp only [List.mem_singleton] at hm; subst hm; exact n9 _ hlt G.ap.2.1 hj)
        rw [List.length_append]
        simpa [u32s'] using this
      · rcases List.mem_append.1 hk with q | q
        · exact G.db k q
        · simp only [List.mem_singleton] at q; omega
      · rcases o9 j hj with q | q
        · exact G.ow.2.2 j q
        · omega
      · rcases o9 i hi with q | q
        · exact .inl q
        · exact .inr (by omega)
    · have hA : addN cum ks ds t = (1, cum, ks, ds) := by unfold addN; rw [if_pos hH, if_neg (by omega)]
      rw [hA]
      (refine Go.run (g:=?_))
      (first|refine Go.finT (by first|exact .inr rfl|exact .inl rfl) rfl ?_|refine Go.fin1 (by first|exact .inr rfl|exact .inl rfl) rfl (hq:=?_))
      exact ⟨rfl, da, dc, G2, fun i hi => .inl hi⟩
  | false =>
    have hH' : ¬ hasN cum ks t = true := by rw [hH]; decide
    (refine Go.run (g:=?_))
    refine GoR.call rfl rfl rfl rfl rfl rfl rfl (((hsp _).argA).mono ?_)
    rintro _ h3 ⟨rfl, rfl⟩ -
    rcases Nat.lt_or_ge 65535 (spanN cum t) with w0 | w0
    · have hA : addN cum ks ds t = (2, cum, ks, ds) := by unfold addN; rw [if_neg hH', if_pos w0]
      rw [hA]
      (refine Go.run (g:=?_))
      (first|refine Go.finT (by first|exact .inr rfl|exact .inl rfl) rfl ?_|refine Go.fin1 (by first|exact .inr rfl|exact .inl rfl) rfl (hq:=?_))
      exact ⟨rfl, da, dc, G2, fun i hi => .inl hi⟩
    · have hA : addN cum ks ds t = (0, (settleN (ks.length + 1) cum (ks ++ [t])).1, (settleN (ks.length + 1) cum (ks ++ [t])).2, ds) := by unfold addN; rw [if_neg hH', if_neg (by omega)]
      rw [hA]
      have hni : t ∉ ks := fun q => by unfold hasN at hH; rw [decide_eq_true q, Bool.true_or] at hH; cases hH
      (refine Go.run (g:=?_))
      refine GoR.mapUpdateS (.inl rfl) rfl rfl rfl rfl rfl G2.mp (.inl (by simp)) ?_
      intro h4 M4 k4 n4
      rw [aset_dn32 ks t hni] at M4
      have gs4 := k4.get gs2 (by simp; exact G.ap.1)
      have G4 : GSet h4 sb r cum (ks ++ [t]) da dc ds n0 := ⟨gs4, M4, G2.dv.keeps k4 (fun j hj hm => by simp only [List.mem_singleton] at hm; subst hm; exact G.ap.2.2 hj), fun k hk => by
        rcases List.mem_append.1 hk with q | q
        · exact G.kb k q
        · simp only [List.mem_singleton] at q; omega, G.db, G.cb, G.ap, G.ow⟩
      have n4' : h.n ≤ h4.n := by omega
      clear G2 gs2 M4 gs4 k4 n4 hhs hsp
      (refine Go.run (g:=?_))
      obtain ⟨T, hT⟩ : ∃ T, T = settleN (ks.length + 1) cum (ks ++ [t]) := ⟨_, rfl⟩
      rw [← hT]
      refine Go.loop (α := Nat × Nat × List Nat × AHeap) (fun _ => [(0, .pointer (some ⟨sb, 0, none⟩))]) (fun _ => []) (fun x => x.2.2.2) (fun x => x.2.2.1.length ≤ x.1 ∧ settleN x.1 x.2.1 x.2.2.1 = T ∧ h.n ≤ x.2.2.2.n ∧ GSet x.2.2.2 sb r x.2.1 x.2.2.1 da dc ds n0) (fun x => x.2.2.1.length) (ks.length + 1, cum, ks ++ [t], h4) ?_ ?_ rfl rfl ?_
      · exact ⟨by simp, hT.symm, n4', G4⟩
      · exact ⟨rfl, trivial⟩
      clear G4 hT n4'
      rintro ⟨f, c, ks', H⟩ ⟨hf, hset, hHn, G5⟩
      simp only at hf hset hHn G5 ⊢
      have gs5 := G5.sc
      have hnb := next32_lt c
      have ha := add32 c
      generalize hnc : next32 c = nc at *
      (repeat (first|refine GoR.end ?_|(refine GoR.gd rfl ?_;first|refine GoR.wanted' rfl rfl rfl rfl (g:=?_)|refine GoR.unwanted' rfl rfl rfl rfl (hd:=rfl) (hN:=rfl) (g:=?_)|refine GoR.unwantedU rfl rfl rfl rfl rfl rfl ?_)|(refine GoR.kk 0 rfl ?_;first|refine GoR.move rfl rfl rfl rfl rfl ?_|refine GoR.assign rfl rfl rfl rfl rfl ?_)|(refine GoR.kk 1 rfl ?_;first|refine GoR.load' rfl rfl rfl rfl rfl (g:=?_)|refine GoR.loadA' rfl rfl rfl rfl rfl (hv:=rfl) (g:=?_)|refine GoR.loadV' rfl rfl rfl rfl rfl (g:=?_)|refine GoR.loadVN' rfl rfl rfl rfl rfl (g:=?_))|(refine GoR.kk 2 rfl ?_;first|refine GoR.store' rfl rfl rfl rfl rfl (hl:=rfl) (h1:=rfl) (h3:=rfl) (g:=?_))|(refine GoR.kk 3 rfl ?_;first|refine GoR.fieldAddr rfl rfl rfl rfl rfl ?_|refine GoR.indexN' rfl rfl rfl rfl rfl rfl (g:=?_)|refine GoR.indexNs' rfl rfl rfl rfl rfl rfl (g:=?_)|refine GoR.indexV' rfl rfl rfl rfl rfl rfl (g:=?_)|refine GoR.indexA' rfl rfl rfl rfl rfl rfl (g:=?_)|refine GoR.fieldV' rfl rfl rfl rfl rfl (g:=?_))|(refine GoR.kk 4 rfl ?_;first|refine GoR.eq rfl rfl rfl rfl rfl rfl ?_|refine GoR.ne rfl rfl rfl rfl rfl rfl ?_|refine GoR.lt rfl rfl rfl rfl rfl rfl ?_|refine GoR.le rfl rfl rfl rfl rfl rfl ?_|refine GoR.gt rfl rfl rfl rfl rfl rfl ?_|refine GoR.ge rfl rfl rfl rfl rfl rfl ?_|refine GoR.addN' rfl rfl rfl rfl rfl rfl (g:=?_)|refine GoR.subN' rfl rfl rfl rfl rfl rfl (g:=?_)|refine GoR.add' rfl rfl rfl rfl rfl rfl (g:=?_)|refine GoR.sub' rfl rfl rfl rfl rfl rfl (g:=?_)|refine GoR.addM' rfl rfl rfl rfl rfl rfl (g:=?_)|refine GoR.subM' rfl rfl rfl rfl rfl rfl (g:=?_)|refine GoR.mulM' rfl rfl rfl rfl rfl rfl (g:=?_)|refine GoR.shrN rfl rfl rfl rfl rfl rfl rfl ?_|refine GoR.structEq rfl rfl rfl rfl rfl rfl (by rfl) (by rfl) ?_|refine GoR.structNe rfl rfl rfl rfl rfl rfl (by rfl) (by rfl) ?_|refine GoR.strEq rfl rfl rfl rfl rfl rfl ?_|refine GoR.strNe rfl rfl rfl rfl rfl rfl ?_|refine GoR.remN' rfl rfl rfl rfl rfl rfl (g:=?_)|refine GoR.quoN' rfl rfl rfl rfl rfl rfl (g:=?_)|refine GoR.shlN' rfl rfl rfl rfl rfl rfl rfl (g:=?_)|refine GoR.orN' rfl rfl rfl rfl rfl rfl (g:=?_))|(refine GoR.kk 5 rfl ?_;first|refine GoR.len rfl rfl rfl rfl rfl ?_|refine GoR.lenStr rfl rfl rfl rfl rfl ?_|refine GoR.capB rfl rfl rfl rfl rfl ?_)|(refine GoR.kk 7 rfl ?_;first|refine GoR.pickE' rfl rfl rfl rfl rfl (hx:=rfl) (hy:=rfl) (g:=?_)|refine GoR.pickN' rfl rfl rfl rfl rfl (hx:=rfl) (hy:=rfl) (g:=?_)|refine GoR.pickB rfl rfl rfl rfl rfl rfl rfl ?_)|(refine GoR.kk 8 rfl ?_;first|refine GoR.boxA rfl rfl rfl rfl rfl ?_|refine GoR.boxS rfl rfl rfl rfl rfl rfl ?_|refine GoR.alloc rfl rfl rfl rfl ?_)|(refine GoR.kk 9 rfl ?_;first|refine GoR.strV' rfl rfl rfl rfl rfl (g:=?_)|refine GoR.conv_u8 rfl rfl rfl rfl rfl ?_|refine GoR.convW' rfl rfl rfl rfl rfl (g:=?_)|refine GoR.conv_u16 rfl rfl rfl rfl rfl ?_|refine GoR.conv_u32 rfl rfl rfl rfl rfl ?_)|(refine GoR.kk 10 rfl ?_;first|refine GoR.build' rfl rfl rfl rfl rfl rfl (g:=?_))|(refine GoR.kk 11 rfl ?_;first|refine GoR.extract rfl rfl rfl rfl rfl rfl ?_|refine GoR.not rfl rfl rfl rfl rfl ?_|refine GoR.nilCheck rfl rfl rfl rfl rfl ?_|refine GoR.nilCheckF rfl rfl rfl rfl rfl ?_|refine GoR.makeFunc rfl rfl rfl rfl rfl rfl ?_)|(refine Go.kk 0 rfl ?_;refine Go.seq ?_)|(refine Go.kk 1 rfl ?_;refine Go.region (by kernel_rfl) rfl ?_)|(refine Go.kk 3 rfl ?_;first|refine Go.cond_t' rfl (g:=?_)|refine Go.cond_f' rfl (g:=?_))|(refine Go.kk 4 rfl ?_;refine Go.block ?_)|(refine Go.kk 5 rfl ?_;first|refine Go.skip ?_|refine Go.ret ?_|refine Go.exit ?_|refine Go.scope ?_)|refine Go.leave_normal ?_|refine Go.leave_same ?_|refine Go.leave_ret ?_|refine Go.ret_code ?_|refine Go.exit_code ?_|refine Go.leave_other rfl ?_|refine Go.sc_normal ?_|refine Go.sc_ret ?_|refine Go.sc_exit ?_|refine Go.exit_back ?_|refine Go.ret_back ?_))
      refine Go.loud (by kernel_rfl) rfl ?_
      (refine Go.runL (g:=?_))
      refine GoL.bin rfl rfl rfl rfl rfl rfl ha ?_
      (refine Go.runL (g:=?_))
      refine GoL.lookup2 rfl rfl rfl rfl rfl rfl G5.mp.imap ?_
      rw [al_dn32]
      have sr5 := G5.mp.lt
      have sl5 := AHeap.lt gs5
      have stop : nc ∉ ks' → T = (c, ks') := fun hk => by
        rw [← hset]
        cases f with
        | zero => rfl
        | succ f => unfold settleN; rw [hnc, if_neg hk]
      by_cases hk : nc ∈ ks'
      · rw [if_pos hk]
        simp only [Option.getD_some, Option.isSome_some]
        (refine Go.runL (g:=?_))
        refine GoL.store' rfl rfl rfl rfl rfl (hl:=rfl) (h1:=rfl) (h3:=rfl) (g:=?_)
        (refine Go.runL (g:=?_))
        (refine GoL.end_ (hl := by (simp only [List.nil_append, List.cons_append, AHeap.n_push, AHeap.n_put]); repeat (first | exact loudP.nil | refine loudP.none ?_ | refine loudP.new (fun _ hb => absurd hb List.not_mem_nil) ?_ | refine loudP.row (by repeat (first | exact loudRowP.nil | refine loudRowP.none ?_ | refine loudRowP.bef (by decide +kernel) ?_ | refine loudRowP.apart (by first | exact .inl rfl | exact .inr (by simp)) rfl (fun i hi => by simp only [List.mem_cons, List.not_mem_nil, or_false] at hi; subst hi; first | (simp; fail_if_success focus skip) | (simp; omega)) ?_)) ?_)) ?_)
        refine Go.name ?_
        intro H2 e2
        have s2' : Same H H2 := by subst e2; exact ((Same.refl H).push _).put (Nat.le_refl _) _
        clear e2
        have G6 := G5.same s2'
        have gs6 := G6.sc
        have m6 := s2'.1
        (refine Go.run (g:=?_))
        refine GoR.bin rfl rfl rfl rfl rfl rfl ha ?_
        (refine Go.run (g:=?_))
        have gm6 := G6.mp
        refine Go.name ?_
        intro h7 e7
        have k7 : Keeps [sb] H2 h7 := by subst e7; exact (Keeps.rf _ _).pt (.inl (by simp)) _
        have gs7 : h7.get sb = some (.cells [.int .u32 nc, .map (some r), .slice da ds.length dc] 83) := by subst e7; exact get_put_self gs6
        have n7 : h7.n = H2.n := by subst e7; rfl
        have M7 := gm6.keeps k7 (by simp; exact Ne.symm G6.ap.1)
        clear e7
        have V7 := G6.dv.keeps k7 (fun j hj hm => by simp only [List.mem_singleton] at hm; subst hm; exact G6.ap.2.1 hj)
        refine Go.loud (by kernel_rfl) rfl ?_
        (refine Go.runL (g:=?_))
        refine GoL.deleteS rfl rfl rfl rfl rfl M7 (.inl (by simp)) ?_
        intro h8 M8 k8 n8
        (refine Go.runL (g:=?_))
        (refine GoL.end_ (hl := by (simp only [List.nil_append, List.cons_append, AHeap.n_push, AHeap.n_put]); repeat (first | exact loudP.nil | refine loudP.none ?_ | refine loudP.new (fun _ hb => absurd hb List.not_mem_nil) ?_ | refine loudP.row (by repeat (first | exact loudRowP.nil | refine loudRowP.none ?_ | refine loudRowP.bef (by decide +kernel) ?_ | refine loudRowP.apart (by first | exact .inl rfl | exact .inr (by simp)) rfl (fun i hi => by simp only [List.mem_cons, List.not_mem_nil, or_false] at hi; subst hi; first | (simp; fail_if_success focus skip) | (simp; omega)) ?_)) ?_)) ?_)
        rw [adel_dn32] at M8
        have gs8 := k8.get gs7 (by simp; exact G6.ap.1)
        have V8 := V7.keeps k8 (fun j hj hm => by simp only [List.mem_singleton] at hm; subst hm; exact G6.ap.2.2 hj)
        have le : (ks'.erase nc).length + 1 = ks'.length := by
          have := List.length_erase_of_mem hk
          have := List.length_pos_of_mem hk
          omega
        (refine Go.run (g:=?_))
        obtain ⟨f', rfl⟩ : ∃ f', f = f' + 1 := ⟨f - 1, by omega⟩
        have hset' : settleN f' nc (ks'.erase nc) = T := by
          rw [← hset]
          conv => rhs; unfold settleN
          rw [hnc, if_pos hk]
        refine Go.again (f', nc, ks'.erase nc, h8) ⟨by simp only; omega, hset', by simp only; omega, gs8, M8, V8, fun k hk => G6.kb k (List.mem_of_mem_erase hk), G6.db, hnb, G6.ap, G6.ow⟩ (by simp only; omega) ⟨rfl, trivial⟩ rfl rfl
      · rw [if_neg hk]
        simp only [Option.getD_none, Option.isSome_none]
        (refine Go.runL (g:=?_))
        refine GoL.store' rfl rfl rfl rfl rfl (hl:=rfl) (h1:=rfl) (h3:=rfl) (g:=?_)
        (refine Go.runL (g:=?_))
        (refine GoL.end_ (hl := by (simp only [List.nil_append, List.cons_append, AHeap.n_push, AHeap.n_put]); repeat (first | exact loudP.nil | refine loudP.none ?_ | refine loudP.new (fun _ hb => absurd hb List.not_mem_nil) ?_ | refine loudP.row (by repeat (first | exact loudRowP.nil | refine loudRowP.none ?_ | refine loudRowP.bef (by decide +kernel) ?_ | refine loudRowP.apart (by first | exact .inl rfl | exact .inr (by simp)) rfl (fun i hi => by simp only [List.mem_cons, List.not_mem_nil, or_false] at hi; subst hi; first | (simp; fail_if_success focus skip) | (simp; omega)) ?_)) ?_)) ?_)
        refine Go.name ?_
        intro H2 e2
        have s2' : Same H H2 := by subst e2; exact ((Same.refl H).push _).put (Nat.le_refl _) _
        clear e2
        have G6 := G5.same s2'
        (refine Go.run (g:=?_))
        (first|refine Go.finT (by first|exact .inr rfl|exact .inl rfl) rfl ?_|refine Go.fin1 (by first|exact .inr rfl|exact .inl rfl) rfl (hq:=?_))
        rw [stop hk]
        exact ⟨rfl, da, dc, G6, fun i hi => .inl hi⟩
end Go.Proofs.Ytfcfgmhcphmefaa
namespace Go.Proofs.Ytfcfgmhcphmefaa
open Go.Sort
set_option maxRecDepth 100000
attribute [local irreducible] Go GoR GoL
section
variable {P : Program} {h : AHeap} {o : Oper} {ov : Ov} {W : Nat → Prop} {q : Bool} {N : Nat} {ops : Array Oper} {os : List Oper} {k : List It} {df : List Nat} {Q : PQ} {d : Nat} {b₀ : Bool}
theorem GoR.makeMapS {t : TypeId} (ho : o.op = .makeMap t none) (hd : o.dst = some d) (hN : dOk d N = true) (hgd : o.guard = none) (g : ∀ h', (∀ K, SMap h' h.n K []) → Same h h' → h'.n = h.n + 1 → GoR P W q N ops b₀ os k ((d, .map (some h.n)) :: ov) df h' Q) : GoR P W q N ops b₀ (o :: os) k ov df h Q := GoR.step (r := ⟨.map (some h.n), h.push (.map #[] 0), [], [], false, false⟩) hgd hd hN (S.makeMap ho) (.inr rfl) (fun i hi => by cases hi) (g _ (fun K => ⟨_, _, AHeap.get_push_same _ _, rfl, by simp [stampsOk]⟩) ((Same.refl h).push _) rfl)
end
set_option maxHeartbeats 4000000 in
theorem gnew_spec (cum : Nat) (hc : cum < 4294967296) (h : AHeap) : CallS Try.prog [] 9 [.int .u32 cum] h fun v h' => ∃ sb r, v = .pointer (some ⟨sb, 0, none⟩) ∧ GSet h' sb r cum [] none 0 [] h.n := by
  (refine CallS.of1 Try.func9 rfl Try.ntmps9 Try.results9 rfl ?_)
  (refine Go.run (g:=?_))
  refine GoR.makeMapS rfl rfl rfl rfl ?_
  intro h1 M1 s1 n1
  (refine Go.run (g:=?_))
  refine Go.name ?_
  intro h2 e2
  have s2 : Same h1 h2 := by subst e2; exact (Same.refl h1).push _
  have g2 : h2.get h1.n = some (.cells [.int .u32 cum, .map (some h.n), .slice none 0 0] 83) := by subst e2; exact AHeap.get_push_same _ _
  clear e2
  (first|refine Go.finT (by first|exact .inr rfl|exact .inl rfl) rfl ?_|refine Go.fin1 (by first|exact .inr rfl|exact .inl rfl) rfl (hq:=?_))
  have m1 := s1.1
  refine ⟨_, _, rfl, g2, (M1 _).same s2, ?_, ?_, ?_, hc, ⟨by omega, ?_, ?_⟩, ⟨by omega, Nat.le_refl _, ?_⟩⟩
  · exact Sv.nil
  · intro k hk; cases hk
  · intro k hk; cases hk
  · simp [blk]
  · simp [blk]
  · intro j hj; simp [blk] at hj
set_option maxHeartbeats 4000000 in
theorem gnext_spec (sb r cum : Nat) (ks : List Nat) (da : Option Addr) (dc : Nat) (ds : List Nat) (n0 t : Nat) (ht : t < 4294967296) (h : AHeap) (G : GSet h sb r cum ks da dc ds n0) : CallS Try.prog [] 23 [.pointer (some ⟨sb, 0, none⟩), .int .u32 t] h fun v h' => v = .bool (decide (t = next32 cum)) ∧ h' = h := by
  have gs := G.sc
  have ha := add32 cum
  generalize next32 cum = nc at *
  (refine CallS.of2 Try.func23 rfl Try.ntmps23 Try.results23 rfl ?_)
  (refine Go.run (g:=?_))
  refine GoR.eqRef rfl rfl rfl rfl (.inr rfl) rfl rfl (aEq_ptrNil setU _) ?_
  (refine Go.run (g:=?_))
  refine GoR.bin rfl rfl rfl rfl rfl rfl ha ?_
  (refine Go.run (g:=?_))
  (first|refine Go.finT (by first|exact .inr rfl|exact .inl rfl) rfl ?_|refine Go.fin1 (by first|exact .inr rfl|exact .inl rfl) rfl (hq:=?_))
  refine ⟨?_, rfl⟩
  simp only [retV]
  exact congrArg Value.bool (decide_eq_decide.2 (by omega))
set_option maxHeartbeats 4000000 in
theorem gdups_spec (sb r cum : Nat) (ks : List Nat) (da : Option Addr) (dc : Nat) (ds : List Nat) (n0 : Nat) (h : AHeap) (G : GSet h sb r cum ks da dc ds n0) : CallS Try.prog [sb] 13 [.pointer (some ⟨sb, 0, none⟩)] h fun v h' => v = .slice da ds.length dc ∧ GSet h' sb r cum ks none 0 [] n0 ∧ Sv h' 22 1 da ds.length dc (u32s' ds) := by
  have gs := G.sc
  have hlt := AHeap.lt gs
  (refine CallS.of1 Try.func13 rfl Try.ntmps13 Try.results13 rfl ?_)
  (refine Go.run (g:=?_))
  refine GoR.eqRef rfl rfl rfl rfl (.inl rfl) rfl rfl (aEq_ptrNil setU _) ?_
  (refine Go.run (g:=?_))
  refine Go.name ?_
  intro h2 e2
  have k2 : Keeps [sb] h h2 := by subst e2; exact (Keeps.rf _ _).pt (.inl (by simp)) _
  have g2 : h2.get sb = some (.cells [.int .u32 cum, .map (some r), .slice none 0 0] 83) := by subst e2; exact get_put_self gs
  clear e2
  (first|refine Go.finT (by first|exact .inr rfl|exact .inl rfl) rfl ?_|refine Go.fin1 (by first|exact .inr rfl|exact .inl rfl) rfl (hq:=?_))
  refine ⟨rfl, ⟨g2, G.mp.keeps k2 (by simp; exact Ne.symm G.ap.1), Sv.nil, G.kb, (fun k hk => by cases hk), G.cb, ⟨G.ap.1, by simp [blk], by simp [blk]⟩, ⟨G.ow.1, G.ow.2.1, fun j hj => by simp [blk] at hj⟩⟩, G.dv.keeps k2 (fun j hj hm => by simp only [List.mem_singleton] at hm; subst hm; exact G.ap.2.1 hj)⟩
end Go.Proofs.Ytfcfgmhcphmefaa
namespace Go.Proofs.Ytfcfgmhcphmefaa
open Go.Sort
set_option maxRecDepth 100000
attribute [local irreducible] Go GoR GoL
theorem aEq_mapNil {P : Program} {h : AHeap} {t k e : TypeId} (hu : P.underlying t = some (.map k e)) (r : Nat) : aEq P h t (.map (some r)) (.map none) = some (false, []) := by
  unfold aEq
  rw [hu]
theorem aEq_rowNil {P : Program} {h : AHeap} {t e : TypeId} (hu : P.underlying t = some (.slice e)) (a : Option Addr) (l c : Nat) : aEq P h t (.slice a l c) (.slice none 0 0) = some (a.isNone, []) := by
  unfold aEq
  rw [hu]
  cases a <;> rfl
theorem rowU : Try.prog.underlying 29 = some (.slice 22) := by kernel_rfl
set_option maxHeartbeats 4000000 in
theorem mclone_spec (r : Nat) (ks : List Nat) (h : AHeap) (M : SMap h r .u32 (dn32 ks)) : CallS Try.prog [] 40 [.map (some r)] h fun v h' => ∃ r', v = .map (some r') ∧ SMap h' r' .u32 (dn32 ks) ∧ h.n ≤ r' := by
  (refine CallS.of1 Try.func40 rfl Try.ntmps40 Try.results40 rfl ?_)
  (refine Go.run (g:=?_))
  refine GoR.eqRef rfl rfl rfl rfl (.inl rfl) rfl rfl (aEq_mapNil aheadU _) ?_
  (refine Go.run (g:=?_))
  refine GoR.boxMap aheadU rfl rfl rfl rfl rfl ?_
  (refine Go.run (g:=?_))
  refine GoR.mapsClone rfl rfl rfl rfl rfl rfl (by kernel_rfl) (by kernel_rfl) (by kernel_rfl) (by kernel_rfl) rfl M ?_
  intro h1 M1 s1 n1
  (refine Go.run (g:=?_))
  refine GoR.asMap rfl rfl rfl rfl aheadU rfl ?_
  (refine Go.run (g:=?_))
  (first|refine Go.finT (by first|exact .inr rfl|exact .inl rfl) rfl ?_|refine Go.fin1 (by first|exact .inr rfl|exact .inl rfl) rfl (hq:=?_))
  exact ⟨_, rfl, M1, Nat.le_refl _⟩
set_option maxHeartbeats 4000000 in
theorem dclone_spec (a : Option Addr) (cap : Nat) (ds : List Nat) (hl : ds.length ≤ 1000) (h : AHeap) (hz : Sv h 22 1 a ds.length cap (u32s' ds)) : CallS Try.prog [] 41 [.slice a ds.length cap] h fun v h' => ∃ b c, v = .slice b ds.length c ∧ Sv h' 22 1 b ds.length c (u32s' ds) ∧ Own h.n b := by
  have hone : (u32s' ds).all Value.oneCell' = true := by simp [u32s', Value.oneCell']
  generalize hlen : ds.length = len at *
  cases a with
  | none =>
    obtain ⟨rfl, rfl⟩ : len = 0 ∧ cap = 0 := by
      generalize u32s' ds = cs at hz
      cases hz
      exact ⟨rfl, rfl⟩
    obtain rfl : ds = [] := List.eq_nil_of_length_eq_zero hlen
    (refine CallS.of1 Try.func41 rfl Try.ntmps41 Try.results41 rfl ?_)
    (refine Go.run (g:=?_))
    refine GoR.eqRef rfl rfl rfl rfl (.inl rfl) rfl rfl (aEq_rowNil rowU _ _ _) ?_
    (refine Go.run (g:=?_))
    (first|refine Go.finT (by first|exact .inr rfl|exact .inl rfl) rfl ?_|refine Go.fin1 (by first|exact .inr rfl|exact .inl rfl) rfl (hq:=?_))
    exact ⟨none, 0, rfl, .nil, Own.nil _⟩
  | some a =>
    (refine CallS.of1 Try.func41 rfl Try.ntmps41 Try.results41 rfl ?_)
    (refine Go.run (g:=?_))
    refine GoR.eqRef rfl rfl rfl rfl (.inl rfl) rfl rfl (aEq_rowNil rowU _ _ _) ?_
    (refine Go.run (g:=?_))
    refine GoR.buildO (c := []) rfl rfl rfl rfl rfl (by decide) (by rfl) (by rfl) ?_
    intro b h1 hb ob s1 n1
    (refine Go.run (g:=?_))
    refine GoR.appendV rfl rfl rfl rfl rfl rfl hb (hz.same s1).rv (Own.ok ob (by omega)) (by omega) (by omega) hone ?_
    intro b2 c2 h2 hb2 k2 o2
    (refine Go.run (g:=?_))
    (first|refine Go.finT (by first|exact .inr rfl|exact .inl rfl) rfl ?_|refine Go.fin1 (by first|exact .inr rfl|exact .inl rfl) rfl (hq:=?_))
    subst hlen
    rw [Nat.zero_add] at hb2 ⊢
    exact ⟨b2, c2, rfl, hb2, fun i hi => (o2 i hi).elim (ob i) fun q => by omega⟩
set_option maxHeartbeats 8000000 in
theorem gcopy_spec (sb r cum : Nat) (ks : List Nat) (da : Option Addr) (dc : Nat) (ds : List Nat) (n0 : Nat) (hds : ds.length ≤ 16) (h : AHeap) (G : GSet h sb r cum ks da dc ds n0) : CallS Try.prog [] 15 [.pointer (some ⟨sb, 0, none⟩)] h fun v h' => ∃ sb' r' da' dc', v = .pointer (some ⟨sb', 0, none⟩) ∧ GSet h' sb' r' cum ks da' dc' ds h.n := by
  have gs := G.sc
  have hm := mclone_spec r ks
  have hdc := dclone_spec da dc ds (by omega)
  (refine CallS.of1 Try.func15 rfl Try.ntmps15 Try.results15 rfl ?_)
  (refine Go.run (g:=?_))
  refine GoR.eqRef rfl rfl rfl rfl (.inl rfl) rfl rfl (aEq_ptrNil setU _) ?_
  (refine Go.run (g:=?_))
  refine GoR.call rfl rfl rfl rfl rfl rfl rfl (((hm _ G.mp).argA).mono ?_)
  rintro _ h2 ⟨r', rfl, M2, n2⟩ s2
  have gs2 := s2.get gs
  have m2 := s2.1
  (refine Go.run (g:=?_))
  refine GoR.call rfl rfl rfl rfl rfl rfl rfl (((hdc _ (G.dv.same s2)).argA).mono ?_)
  rintro _ h3 ⟨b3, c3, rfl, D3, o3⟩ s3
  have M3 := M2.same s3
  have m3 := s3.1
  have l2 := M2.lt
  (refine Go.run (g:=?_))
  refine Go.name ?_
  intro h4 e4
  have s4 : Same h3 h4 := by subst e4; exact (Same.refl h3).push _
  have g4 : h4.get h3.n = some (.cells [.int .u32 cum, .map (some r'), .slice b3 ds.length c3] 83) := by subst e4; exact AHeap.get_push_same _ _
  clear e4
  have l3 := M3.lt
  have b3lt : ∀ j ∈ blk b3, j < h3.n := D3.lt
  (first|refine Go.finT (by first|exact .inr rfl|exact .inl rfl) rfl ?_|refine Go.fin1 (by first|exact .inr rfl|exact .inl rfl) rfl (hq:=?_))
  refine ⟨_, r', b3, c3, rfl, g4, M3.same s4, D3.same s4, G.kb, G.db, G.cb, ⟨by omega, fun q => ?_, fun q => ?_⟩, ⟨by omega, n2, fun j hj => ?_⟩⟩
  · have := b3lt _ q; omega
  · have := o3 _ q; omega
  · have := o3 _ hj; omega
end Go.Proofs.Ytfcfgmhcphmefaa
namespace Go.Proofs.Ytfcfgmhcphmefaa
open Go.Sort
set_option maxRecDepth 100000
attribute [local irreducible] Go GoR GoL
set_option maxHeartbeats 8000000 in
theorem rway_spec (a b : Nat) (ha : a < 4294967296) (hb : b < 4294967296) (h : AHeap) : CallS Try.prog [] 55 [.int .i64 a, .int .i64 b, .int .i64 (4294967296 : Nat)] h fun v h' => v = .int .i64 (spanN a b : Nat) ∧ h' = h := by
  (refine CallS.of3 Try.func55 rfl Try.ntmps55 Try.results55 rfl ?_)
  rcases Nat.lt_or_ge b a with q | q
  · have e : spanN a b = 4294967296 + b - a := by unfold spanN; omega
    rw [e]
    (refine Go.run (g:=?_))
    (first|refine Go.finT (by first|exact .inr rfl|exact .inl rfl) rfl ?_|refine Go.fin1 (by first|exact .inr rfl|exact .inl rfl) rfl (hq:=?_))
    exact ⟨rfl, rfl⟩
  · have e : spanN a b = b - a := by unfold spanN; omega
    rw [e]
    (refine Go.run (g:=?_))
    (first|refine Go.finT (by first|exact .inr rfl|exact .inl rfl) rfl ?_|refine Go.fin1 (by first|exact .inr rfl|exact .inl rfl) rfl (hq:=?_))
    exact ⟨rfl, rfl⟩
abbrev i64s (ws : List Nat) : List Value := ws.map fun (n : Nat) => Value.int .i64 (n : Int)
structure RSet (h : AHeap) (rb cum : Nat) (wa : Option Addr) (wc : Nat) (ws : List Nat) (da : Option Addr) (dc : Nat) (ds : List Nat) (n0 : Nat) : Prop where
  sc : h.get rb = some (.cells [.int .u32 cum, .slice wa ws.length wc, .slice da ds.length dc] 31)
  wv : Sv h 2 1 wa ws.length wc (i64s ws)
  dv : Sv h 22 1 da ds.length dc (u32s' ds)
  wb : ∀ w ∈ ws, w < 65536
  db : ∀ k ∈ ds, k < 4294967296
  cb : cum < 4294967296
  ap : rb ∉ blk wa ∧ rb ∉ blk da ∧ ∀ j ∈ blk wa, j ∉ blk da
  ow : n0 ≤ rb ∧ Own n0 wa ∧ Own n0 da
theorem RSet.same {h h' : AHeap} {rb cum : Nat} {wa da : Option Addr} {wc dc : Nat} {ws ds : List Nat} {n0 : Nat} (g : RSet h rb cum wa wc ws da dc ds n0) (s : Same h h') : RSet h' rb cum wa wc ws da dc ds n0 := { g with sc := s.get g.sc, wv := g.wv.same s, dv := g.dv.same s }
set_option maxHeartbeats 8000000 in
theorem rw_spec (rb cum : Nat) (wa da : Option Addr) (wc dc : Nat) (ws ds : List Nat) (n0 t : Nat) (ht : t < 4294967296) (h : AHeap) (G : RSet h rb cum wa wc ws da dc ds n0) : CallS Try.prog [] 39 [.pointer (some ⟨rb, 0, none⟩), .int .u32 t] h fun v h' => v = .int .i64 (spanN cum t : Nat) ∧ h' = h := by
  have gs := G.sc
  have hw := rway_spec cum t G.cb ht
  have cb := G.cb
  (refine CallS.of2 Try.func39 rfl Try.ntmps39 Try.results39 rfl ?_)
  (refine Go.run (g:=?_))
  refine GoR.call rfl rfl rfl rfl rfl rfl rfl (((hw _).argA).mono ?_)
  rintro _ h2 ⟨rfl, rfl⟩ -
  (refine Go.run (g:=?_))
  (first|refine Go.finT (by first|exact .inr rfl|exact .inl rfl) rfl ?_|refine Go.fin1 (by first|exact .inr rfl|exact .inl rfl) rfl (hq:=?_))
  exact ⟨rfl, rfl⟩
end Go.Proofs.Ytfcfgmhcphmefaa
namespace Go.Proofs.Ytfcfgmhcphmefaa
open Go.Sort
set_option maxRecDepth 100000
attribute [local irreducible] Go GoR GoL
set_option maxHeartbeats 8000000 in
theorem rbefore_spec (a b : Nat) (ha : a < 4294967296) (hb : b < 4294967296) (h : AHeap) : CallS Try.prog [] 44 [.int .u32 a, .int .u32 b] h fun v h' => v = .bool (bef32 a b) ∧ h' = h := by
  have hw := rway_spec a b ha hb
  have hl := span_lt a b
  unfold bef32
  generalize spanN a b = s at *
  (refine CallS.of2 Try.func44 rfl Try.ntmps44 Try.results44 rfl ?_)
  (refine Go.run (g:=?_))
  refine GoR.call rfl rfl rfl rfl rfl rfl rfl (((hw _).argA).mono ?_)
  rintro _ h2 ⟨rfl, rfl⟩ -
  rcases Nat.lt_or_ge 0 s with s0 | s0
  case inr =>
    obtain rfl : s = 0 := by omega
    (refine Go.run (g:=?_))
    (first|refine Go.finT (by first|exact .inr rfl|exact .inl rfl) rfl ?_|refine Go.fin1 (by first|exact .inr rfl|exact .inl rfl) rfl (hq:=?_))
    exact ⟨rfl, rfl⟩
  (refine Go.run (g:=?_))
  (first|refine Go.finT (by first|exact .inr rfl|exact .inl rfl) rfl ?_|refine Go.fin1 (by first|exact .inr rfl|exact .inl rfl) rfl (hq:=?_))
  refine ⟨?_, rfl⟩
  simp only [retV]
  rw [decide_eq_true s0, Bool.true_and]
  exact congrArg Value.bool (decide_eq_decide.2 (by omega))
set_option maxHeartbeats 8000000 in
theorem rtake_spec (rb cum : Nat) (wa da : Option Addr) (wc dc : Nat) (ws ds : List Nat) (n0 : Nat) (h : AHeap) (G : RSet h rb cum wa wc ws da dc ds n0) : CallS Try.prog [rb] 14 [.pointer (some ⟨rb, 0, none⟩)] h fun v h' => v = .slice da ds.length dc ∧ RSet h' rb cum wa wc ws none 0 [] n0 ∧ Sv h' 22 1 da ds.length dc (u32s' ds) := by
  have gs := G.sc
  have hlt := AHeap.lt gs
  (refine CallS.of1 Try.func14 rfl Try.ntmps14 Try.results14 rfl ?_)
  (refine Go.run (g:=?_))
  refine Go.name ?_
  intro h2 e2
  have k2 : Keeps [rb] h h2 := by subst e2; exact (Keeps.rf _ _).pt (.inl (by simp)) _
  have g2 : h2.get rb = some (.cells [.int .u32 cum, .slice wa ws.length wc, .slice none 0 0] 31) := by subst e2; exact get_put_self gs
  clear e2
  (first|refine Go.finT (by first|exact .inr rfl|exact .inl rfl) rfl ?_|refine Go.fin1 (by first|exact .inr rfl|exact .inl rfl) rfl (hq:=?_))
  refine ⟨rfl, ⟨g2, G.wv.keeps k2 (fun j hj hm => by simp only [List.mem_singleton] at hm; subst hm; exact G.ap.1 hj), Sv.nil, G.wb, (fun k hk => by cases hk), G.cb, ⟨G.ap.1, by simp [blk], fun j _ => by simp [blk]⟩, ⟨G.ow.1, G.ow.2.1, fun j hj => by simp [blk] at hj⟩⟩, G.dv.keeps k2 (fun j hj hm => by simp only [List.mem_singleton] at hm; subst hm; exact G.ap.2.1 hj)⟩
end Go.Proofs.Ytfcfgmhcphmefaa
namespace Go.Proofs.Ytfcfgmhcphmefaa
open Go.Sort
set_option maxRecDepth 100000
attribute [local irreducible] Go GoR GoL
def hasW (cum : Nat) (ws : List Nat) (t : Nat) : Bool := decide (spanN cum t ∈ ws) || (decide (spanN cum t = 0) || bef32 t cum)
set_option maxHeartbeats 16000000 in
theorem rhas_spec (rb cum : Nat) (wa da : Option Addr) (wc dc : Nat) (ws ds : List Nat) (n0 t : Nat) (ht : t < 4294967296) (hl : ws.length ≤ 70000) (h : AHeap) (G : RSet h rb cum wa wc ws da dc ds n0) : CallS Try.prog [] 22 [.pointer (some ⟨rb, 0, none⟩), .int .u32 t] h fun v h' => v = .bool (hasW cum ws t) := by
  have gs := G.sc
  have cb := G.cb
  have hw := rw_spec rb cum wa da wc dc ws ds n0 t ht h G
  have hbs := rbefore_spec t cum ht G.cb
  have hs := span_lt cum t
  unfold hasW
  generalize spanN cum t = w at *
  (refine CallS.of2 Try.func22 rfl Try.ntmps22 Try.results22 rfl ?_)
  (refine Go.run (g:=?_))
  refine GoR.call rfl rfl rfl rfl rfl rfl rfl (((hw).argA).mono ?_)
  rintro _ h2 ⟨rfl, rfl⟩ -
  (refine Go.run (g:=?_))
  have sv := G.wv
  have hwb := G.wb
  have hle : (i64s ws).length = ws.length := by simp
  refine Go.loop (α := Nat) (fun i => [(6, .int .i64 i), (5, .int .i64 w), (0, .pointer (some ⟨rb, 0, none⟩)), (1, .int .u32 t)]) (fun _ => []) (fun _ => h2) (fun i => i ≤ ws.length ∧ w ∉ ws.take i) (fun i => ws.length - i) 0 ⟨Nat.zero_le _, by simp⟩ ⟨rfl, rfl, rfl, rfl, trivial⟩ rfl rfl ?_
  rintro i ⟨hi, hn⟩
  rcases Nat.lt_or_ge i ws.length with i0 | i0
  · have c0 : (i64s ws)[i]? = some (.int .i64 (ws[i] : Nat)) := by simp [i0]
    have htk : ws.take (i + 1) = ws.take i ++ [ws[i]] := by simp
    have hm : ws[i] ∈ ws := List.getElem_mem i0
    have hb := hwb _ hm
    generalize ws[i] = x at *
    by_cases e : x = w
    · subst e
      (refine Go.run (g:=?_))
      (first|refine Go.finT (by first|exact .inr rfl|exact .inl rfl) rfl ?_|refine Go.fin1 (by first|exact .inr rfl|exact .inl rfl) rfl (hq:=?_))
      simp [retV, hm]
    · (refine Go.run (g:=?_))
      exact Go.again (i + 1) ⟨i0, by rw [htk]; simp [hn, Ne.symm e]⟩ (by omega) ⟨rfl, rfl, rfl, rfl, trivial⟩ rfl rfl
  have hie : i = ws.length := by omega
  subst hie
  rw [List.take_length] at hn
  rw [decide_eq_false hn, Bool.false_or]
  by_cases w0 : w = 0
  · subst w0
    (refine Go.run (g:=?_))
    (first|refine Go.finT (by first|exact .inr rfl|exact .inl rfl) rfl ?_|refine Go.fin1 (by first|exact .inr rfl|exact .inl rfl) rfl (hq:=?_))
    simp [retV]
  · rw [decide_eq_false w0, Bool.false_or]
    (refine Go.run (g:=?_))
    refine GoR.call rfl rfl rfl rfl rfl rfl rfl (((hbs _).argA).mono ?_)
    rintro _ h3 ⟨rfl, rfl⟩ -
    (refine Go.run (g:=?_))
    (first|refine Go.finT (by first|exact .inr rfl|exact .inl rfl) rfl ?_|refine Go.fin1 (by first|exact .inr rfl|exact .inl rfl) rfl (hq:=?_))
    simp [retV]
end Go.Proofs.Ytfcfgmhcphmefaa
namespace Go.Proofs.Ytfcfgmhcphmefaa
open Go.Sort
set_option maxRecDepth 100000
attribute [local irreducible] Go GoR GoL
set_option maxHeartbeats 16000000 in
theorem sameTsns_spec (aa ab : Option Addr) (ca cb : Nat) (xs ys : List Nat) (hl : xs.length ≤ 70000) (hl2 : ys.length ≤ 70000) (h : AHeap) (A1 : Sv h 22 1 aa xs.length ca (u32s' xs)) (A2 : Sv h 22 1 ab ys.length cb (u32s' ys)) : CallS Try.prog [] 12 [.slice aa xs.length ca, .slice ab ys.length cb] h fun v h' => v = .bool (decide (xs = ys)) ∧ h' = h := by
  have hle : (u32s' xs).length = xs.length := by simp
  have hle2 : (u32s' ys).length = ys.length := by simp
  (refine CallS.of2 Try.func12 rfl Try.ntmps12 Try.results12 rfl ?_)
  by_cases hlen : xs.length = ys.length
  case neg =>
    have hne : xs ≠ ys := fun q => hlen (by rw [q])
    rw [decide_eq_false hne]
    (refine Go.run (g:=?_))
    (first|refine Go.finT (by first|exact .inr rfl|exact .inl rfl) rfl ?_|refine Go.fin1 (by first|exact .inr rfl|exact .inl rfl) rfl (hq:=?_))
    exact ⟨rfl, rfl⟩
  (refine Go.run (g:=?_))
  refine Go.loop (α := Nat) (fun i => [(5, .int .i64 i), (0, .slice aa xs.length ca), (1, .slice ab ys.length cb)]) (fun _ => []) (fun _ => h) (fun i => i ≤ xs.length ∧ xs.take i = ys.take i) (fun i => xs.length - i) 0 ⟨Nat.zero_le _, rfl⟩ ⟨rfl, rfl, rfl, trivial⟩ rfl rfl ?_
  rintro i ⟨hi, hn⟩
  rcases Nat.lt_or_ge i xs.length with i0 | i0
  · have i1 : i < ys.length := by omega
    have c0 : (u32s' xs)[i]? = some (.int .u32 (xs[i] : Nat)) := by simp [i0]
    have c1 : (u32s' ys)[i]? = some (.int .u32 (ys[i] : Nat)) := by simp [i1]
    have tx : xs.take (i + 1) = xs.take i ++ [xs[i]] := by simp
    have ty : ys.take (i + 1) = ys.take i ++ [ys[i]] := by simp
    have hne : xs[i] ≠ ys[i] → xs ≠ ys := fun q e => q (by subst e; rfl)
    generalize xs[i] = x at *
    generalize ys[i] = y at *
    by_cases e : x = y
    · subst e
      (refine Go.run (g:=?_))
      exact Go.again (i + 1) ⟨i0, by rw [tx, ty, hn]⟩ (by omega) ⟨rfl, rfl, rfl, trivial⟩ rfl rfl
    · rw [decide_eq_false (hne e)]
      (refine Go.run (g:=?_))
      (first|refine Go.finT (by first|exact .inr rfl|exact .inl rfl) rfl ?_|refine Go.fin1 (by first|exact .inr rfl|exact .inl rfl) rfl (hq:=?_))
      exact ⟨rfl, rfl⟩
  have hie : i = xs.length := by omega
  subst hie
  rw [List.take_length, hlen, List.take_length] at hn
  rw [decide_eq_true hn]
  (refine Go.run (g:=?_))
  (first|refine Go.finT (by first|exact .inr rfl|exact .inl rfl) rfl ?_|refine Go.fin1 (by first|exact .inr rfl|exact .inl rfl) rfl (hq:=?_))
  exact ⟨rfl, rfl⟩
end Go.Proofs.Ytfcfgmhcphmefaa
namespace Go.Proofs.Ytfcfgmhcphmefaa
open Go.Sort
set_option maxRecDepth 100000
attribute [local irreducible] Go GoR GoL
instance seqGap8 (a b a' b' : Int) : SEq Try.prog 49 [.int .u16 a, .int .u16 b] [.int .u16 a', .int .u16 b'] (a == a' && (b == b' && true)) := ⟨by kernel_rfl⟩
theorem gcs_get : ∀ {l : List (Nat × Nat)} {i : Nat} (hi : i < l.length), ((gcs l).drop (i * 2)).take 2 = [.int .u16 (l[i].1 : Nat), .int .u16 (l[i].2 : Nat)]
  | x :: l, 0, _ => rfl
  | x :: l, i + 1, hi => by
    have := gcs_get (l := l) (i := i) (by simpa using hi)
    rw [show (i + 1) * 2 = i * 2 + 1 + 1 by omega]
    exact this
set_option maxHeartbeats 16000000 in
theorem sameGaps_spec (aa ab : Option Addr) (ca cb : Nat) (xs ys : List (Nat × Nat)) (hl : xs.length ≤ 70000) (hl2 : ys.length ≤ 70000) (h : AHeap) (A1 : Sv h 49 2 aa xs.length ca (gcs xs)) (A2 : Sv h 49 2 ab ys.length cb (gcs ys)) : CallS Try.prog [] 17 [.slice aa xs.length ca, .slice ab ys.length cb] h fun v h' => v = .bool (decide (xs = ys)) ∧ h' = h := by
  (refine CallS.of2 Try.func17 rfl Try.ntmps17 Try.results17 rfl ?_)
  by_cases hlen : xs.length = ys.length
  case neg =>
    have hne : xs ≠ ys := fun q => hlen (by rw [q])
    rw [decide_eq_false hne]
    (refine Go.run (g:=?_))
    (first|refine Go.finT (by first|exact .inr rfl|exact .inl rfl) rfl ?_|refine Go.fin1 (by first|exact .inr rfl|exact .inl rfl) rfl (hq:=?_))
    exact ⟨rfl, rfl⟩
  (refine Go.run (g:=?_))
  refine Go.loop (α := Nat) (fun i => [(5, .int .i64 i), (0, .slice aa xs.length ca), (1, .slice ab ys.length cb)]) (fun _ => []) (fun _ => h) (fun i => i ≤ xs.length ∧ xs.take i = ys.take i) (fun i => xs.length - i) 0 ⟨Nat.zero_le _, rfl⟩ ⟨rfl, rfl, rfl, trivial⟩ rfl rfl ?_
  rintro i ⟨hi, hn⟩
  rcases Nat.lt_or_ge i xs.length with i0 | i0
  · have i1 : i < ys.length := by omega
    have c0 := gcs_get i0
    have c1 := gcs_get i1
    have hbe : i * 2 + 2 ≤ (gcs xs).length := by rw [gcs_len]; omega
    have hbe1 : i * 2 + 2 ≤ (gcs ys).length := by rw [gcs_len]; omega
    have tx : xs.take (i + 1) = xs.take i ++ [xs[i]] := by simp
    have ty : ys.take (i + 1) = ys.take i ++ [ys[i]] := by simp
    have hne : xs[i] ≠ ys[i] → xs ≠ ys := fun q e => q (by subst e; rfl)
    generalize xs[i] = x at *
    generalize ys[i] = y at *
    obtain ⟨x1, x2⟩ := x
    obtain ⟨y1, y2⟩ := y
    simp only at c0 c1
    by_cases e : (x1, x2) = (y1, y2)
    · obtain ⟨rfl, rfl⟩ := Prod.mk.inj e
      (refine Go.run (g:=?_))
      rw [show (!(((x1 : Int) == (x1 : Int)) && (((x2 : Int) == (x2 : Int)) && true))) = false from by simp]
      (refine Go.run (g:=?_))
      exact Go.again (i + 1) ⟨i0, by rw [tx, ty, hn]⟩ (by omega) ⟨rfl, rfl, rfl, trivial⟩ rfl rfl
    · rw [decide_eq_false (hne e)]
      have hb : (!(((x1 : Int) == (y1 : Int)) && (((x2 : Int) == (y2 : Int)) && true))) = true := by
        rw [Bool.not_eq_true', Bool.and_true, Bool.and_eq_false_iff]
        by_cases q : x1 = y1
        · exact .inr (by rw [beq_eq_false_iff_ne]; intro z; exact e (by rw [q]; congr 1; omega))
        · exact .inl (by rw [beq_eq_false_iff_ne]; intro z; exact q (by omega))
      (refine Go.run (g:=?_))
      rw [hb]
      (refine Go.run (g:=?_))
      (first|refine Go.finT (by first|exact .inr rfl|exact .inl rfl) rfl ?_|refine Go.fin1 (by first|exact .inr rfl|exact .inl rfl) rfl (hq:=?_))
      exact ⟨rfl, rfl⟩
  have hie : i = xs.length := by omega
  subst hie
  rw [List.take_length, hlen, List.take_length] at hn
  rw [decide_eq_true hn]
  (refine Go.run (g:=?_))
  (first|refine Go.finT (by first|exact .inr rfl|exact .inl rfl) rfl ?_|refine Go.fin1 (by first|exact .inr rfl|exact .inl rfl) rfl (hq:=?_))
  exact ⟨rfl, rfl⟩
end Go.Proofs.Ytfcfgmhcphmefaa
namespace Go.Proofs.Ytfcfgmhcphmefaa
open Go.Sort
set_option maxRecDepth 100000
attribute [local irreducible] Go GoR GoL
def atW (w : Nat) : List Nat → Nat
  | [] => 0
  | x :: l => if x < w then atW w l + 1 else 0
def insW (ws : List Nat) (w : Nat) : List Nat := ws.take (atW w ws) ++ w :: ws.drop (atW w ws)
def settleW : Nat → Nat → List Nat → Nat × List Nat
  | 0, c, ws => (c, ws)
  | n + 1, c, ws => if ws.head? = some 1 then settleW n (next32 c) (ws.tail.map (· - 1)) else (c, ws)
def addW (cum : Nat) (ws ds : List Nat) (t : Nat) : Nat × Nat × List Nat × List Nat :=
  if hasW cum ws t = true then (1, cum, ws, if ds.length < 16 then ds ++ [t] else ds)
  else if 65535 < spanN cum t then (2, cum, ws, ds)
  else (0, (settleW (ws.length + 1) cum (insW ws (spanN cum t))).1, (settleW (ws.length + 1) cum (insW ws (spanN cum t))).2, ds)
theorem atW_le (w : Nat) : ∀ ws : List Nat, atW w ws ≤ ws.length
  | [] => Nat.le_refl _
  | x :: l => by unfold atW; have := atW_le w l; split <;> simp <;> omega
theorem atW_stop {w : Nat} : ∀ {ws : List Nat} {i : Nat}, i ≤ ws.length → (∀ x ∈ ws.take i, x < w) → (∀ h : i < ws.length, ¬ ws[i] < w) → atW w ws = i
  | [], i, h, _, _ => by simp at h; subst h; rfl
  | x :: l, 0, _, _, h => by unfold atW; rw [if_neg]; exact h (by simp)
  | x :: l, i + 1, h, a, b => by
    unfold atW
    rw [if_pos (a x (by simp)), atW_stop (ws := l) (i := i) (by simpa using h) (fun y hy => a y (by simp [hy])) (fun q => by have := b (by simpa using q); simpa using this)]
theorem insW_nil (w : Nat) : insW [] w = [w] := rfl
theorem insW_cons (x w : Nat) (l : List Nat) : insW (x :: l) w = if x < w then x :: insW l w else w :: x :: l := by
  unfold insW
  by_cases h : x < w
  · rw [if_pos h]; simp [atW, h]
  · rw [if_neg h]; simp [atW, h]
theorem insW_perm (w : Nat) (l : List Nat) : (insW l w).Perm (w :: l) := by
  unfold insW
  have := List.perm_middle (a := w) (l₁ := l.take (atW w l)) (l₂ := l.drop (atW w l))
  rwa [List.take_append_drop] at this
theorem insW_mem {w y : Nat} {l : List Nat} : y ∈ insW l w ↔ y = w ∨ y ∈ l := by
  rw [(insW_perm w l).mem_iff, List.mem_cons]
theorem insW_sorted {w : Nat} : ∀ {l : List Nat}, l.Pairwise (· < ·) → w ∉ l → (insW l w).Pairwise (· < ·)
  | [], _, _ => by rw [insW_nil]; exact List.pairwise_singleton _ _
  | x :: l, h, hn => by
    rw [insW_cons]
    rw [List.pairwise_cons] at h
    simp only [List.mem_cons, not_or] at hn
    split
    · rename_i q
      refine List.pairwise_cons.2 ⟨fun y hy => ?_, insW_sorted h.2 hn.2⟩
      rcases insW_mem.1 hy with rfl | z
      · exact q
      · exact h.1 y z
    · rename_i q
      refine List.pairwise_cons.2 ⟨fun y hy => ?_, List.pairwise_cons.2 h⟩
      rcases List.mem_cons.1 hy with rfl | z
      · omega
      · have := h.1 y z; omega
set_option maxHeartbeats 32000000 in
theorem radd_spec (rb cum : Nat) (wa da : Option Addr) (wc dc : Nat) (ws ds : List Nat) (n0 t : Nat) (ht : t < 4294967296) (hds : ds.length ≤ 16) (hl : ws.length ≤ 65535) (hp : ∀ w ∈ ws, 1 ≤ w) (hs : ws.Pairwise (· < ·)) (h : AHeap) (hn0 : n0 ≤ h.n) (G : RSet h rb cum wa wc ws da dc ds n0) : CallS Try.prog ([rb] ++ blk da) 11 [.pointer (some ⟨rb, 0, none⟩), .int .u32 t] h fun v h' => v = .int .u8 ((addW cum ws ds t).1 : Nat) ∧ ∃ wa' wc' da' dc', RSet h' rb (addW cum ws ds t).2.1 wa' wc' (addW cum ws ds t).2.2.1 da' dc' (addW cum ws ds t).2.2.2 n0 ∧ (∀ i ∈ blk da', i ∈ blk da ∨ h.n ≤ i) ∧ ∀ i ∈ blk wa', i ∈ blk wa ∨ h.n ≤ i := by
  have gs := G.sc
  have hlt := AHeap.lt gs
  have hsp := rw_spec rb cum wa da wc dc ws ds n0 t ht
  have hhs := rhas_spec rb cum wa da wc dc ws ds n0 t ht (by omega) h G
  (refine CallS.of2 Try.func11 rfl Try.ntmps11 Try.results11 rfl ?_)
  (refine Go.run (g:=?_))
  refine GoR.call rfl rfl rfl rfl rfl rfl rfl (((hhs).argA).mono ?_)
  rintro _ h2 rfl s2
  have G2 := G.same s2
  have gs2 := G2.sc
  have m2 := s2.1
  cases hH : hasW cum ws t with
  | true =>
    rcases Nat.lt_or_ge ds.length 16 with l0 | l0
    · have hA : addW cum ws ds t = (1, cum, ws, ds ++ [t]) := by unfold addW; rw [if_pos hH, if_pos l0]
      rw [hA]
      (refine Go.run (g:=?_))
      refine GoR.buildRo (c := [.int .u32 (t : Nat)]) rfl rfl rfl rfl rfl (by decide) (by rfl) (by rfl) ?_
      intro b8 h8 hb8 rb8 ob8 s8 n8
      have m8 := s8.1
      refine GoR.appendV rfl rfl rfl rfl rfl rfl (G2.dv.same s8) hb8 (fun j hj => .inl (by simp [hj])) (by omega) (by omega) (by rfl) ?_
      intro b9 c9 h9 hs9 k9 o9
      have m9 := k9.1
      have gs9 := k9.get (s8.get gs2) G.ap.2.1
      have gw9 := (G2.wv.same s8).keeps k9 (fun j hj hm => G.ap.2.2 j hj hm)
      have n9 : ∀ j, j < h.n → j ∉ blk da → j ∉ blk b9 := fun j hj hn hm => by rcases o9 j hm with q | q; exact hn q; omega
      have sr : ∀ j ∈ blk wa, j < h.n := G.wv.lt
      (refine Go.run (g:=?_))
      refine Go.name ?_
      intro h10 e10
      have k10 : Keeps [rb] h9 h10 := by subst e10; exact (Keeps.rf _ _).pt (.inl (by simp)) _
      have gs10 : h10.get rb = some (.cells [.int .u32 cum, .slice wa ws.length wc, .slice b9 (ds.length + 1) c9] 31) := by subst e10; exact get_put_self gs9
      clear e10
      (first|refine Go.finT (by first|exact .inr rfl|exact .inl rfl) rfl ?_|refine Go.fin1 (by first|exact .inr rfl|exact .inl rfl) rfl (hq:=?_))
      refine ⟨rfl, wa, wc, b9, c9, ⟨?_, gw9.keeps k10 (fun j hj hm => by simp only [List.mem_singleton] at hm; subst hm; exact G.ap.1 hj), ?_, G.wb, fun k hk => ?_, G.cb, ⟨G.ap.1, n9 _ hlt G.ap.2.1, fun j hj => n9 j (sr j hj) (G.ap.2.2 j hj)⟩, ⟨G.ow.1, G.ow.2.1, fun j hj => ?_⟩⟩, fun i hi => ?_, fun i hi => .inl hi⟩
      · rw [List.length_append]; exact gs10
      · have := hs9.keeps k10 (fun j hj hm => by simp only [List.mem_singleton] at hm; subst hm; exact n9 _ hlt G.ap.2.1 hj)
        rw [List.length_append]
        simpa [u32s'] using this
      · rcases List.mem_append.1 hk with q | q
        · exact G.db k q
        · simp only [List.mem_singleton] at q; omega
      · rcases o9 j hj with q | q
        · exact G.ow.2.2 j q
        · omega
      · rcases o9 i hi with q | q
        · exact .inl q
        · exact .inr (by omega)
    · have hA : addW cum ws ds t = (1, cum, ws, ds) := by unfold addW; rw [if_pos hH, if_neg (by omega)]
      rw [hA]
      (refine Go.run (g:=?_))
      (first|refine Go.finT (by first|exact .inr rfl|exact .inl rfl) rfl ?_|refine Go.fin1 (by first|exact .inr rfl|exact .inl rfl) rfl (hq:=?_))
      exact ⟨rfl, wa, wc, da, dc, G2, fun i hi => .inl hi, fun i hi => .inl hi⟩
  | false =>
    have hH' : ¬ hasW cum ws t = true := by rw [hH]; decide
    have hs1 := span_lt cum t
    have hw0 : spanN cum t ≠ 0 := fun q => by unfold hasW at hH; rw [decide_eq_true q] at hH; simp at hH
    (refine Go.run (g:=?_))
    refine GoR.call rfl rfl rfl rfl rfl rfl rfl (((hsp _ G2).argA).mono ?_)
    rintro _ h3 ⟨rfl, rfl⟩ -
    rcases Nat.lt_or_ge 65535 (spanN cum t) with w0 | w0
    · have hA : addW cum ws ds t = (2, cum, ws, ds) := by unfold addW; rw [if_neg hH', if_pos w0]
      rw [hA]
      (refine Go.run (g:=?_))
      (first|refine Go.finT (by first|exact .inr rfl|exact .inl rfl) rfl ?_|refine Go.fin1 (by first|exact .inr rfl|exact .inl rfl) rfl (hq:=?_))
      exact ⟨rfl, wa, wc, da, dc, G2, fun i hi => .inl hi, fun i hi => .inl hi⟩
    · have hA : addW cum ws ds t = (0, (settleW (ws.length + 1) cum (insW ws (spanN cum t))).1, (settleW (ws.length + 1) cum (insW ws (spanN cum t))).2, ds) := by unfold addW; rw [if_neg hH', if_neg (by omega)]
      rw [hA]
      have hwn : spanN cum t ∉ ws := fun q => by unfold hasW at hH; rw [decide_eq_true q, Bool.true_or] at hH; cases hH
      generalize spanN cum t = w at *
      (refine Go.run (g:=?_))
      refine Go.join2 (α := Nat) (fun i => [(6, .int .i64 i), (5, .int .i64 w), (0, .pointer (some ⟨rb, 0, none⟩))]) (fun _ => []) (fun _ => h3) (fun i => i = atW w ws) ?_ ?_
      · have sv := G2.wv
        have hwb := G2.wb
        refine Go.loop (α := Nat) (fun i => [(6, .int .i64 i), (5, .int .i64 w), (0, .pointer (some ⟨rb, 0, none⟩))]) (fun _ => []) (fun _ => h3) (fun i => i ≤ ws.length ∧ ∀ x ∈ ws.take i, x < w) (fun i => ws.length - i) 0 ⟨Nat.zero_le _, by simp⟩ ⟨rfl, rfl, rfl, trivial⟩ rfl rfl ?_
        rintro i ⟨hi, hn⟩
        rcases Nat.lt_or_ge i ws.length with i0 | i0
        · have c0 : (i64s ws)[i]? = some (.int .i64 (ws[i] : Nat)) := by simp [i0]
          have htk : ws.take (i + 1) = ws.take i ++ [ws[i]] := by simp
          have hst : ¬ ws[i] < w → atW w ws = i := fun q => atW_stop hi hn fun _ => q
          have hb := hwb _ (List.getElem_mem i0)
          have hle : (i64s ws).length = ws.length := by simp
          generalize ws[i] = x at *
          by_cases e : x < w
          · (refine Go.run (g:=?_))
            exact Go.again (i + 1) ⟨i0, by rw [htk]; simpa [or_imp, forall_and] using ⟨hn, e⟩⟩ (by omega) ⟨rfl, rfl, rfl, trivial⟩ rfl rfl
          · have hst := hst e
            (refine Go.run (g:=?_))
            exact Go.joined i hst.symm ⟨rfl, rfl, rfl, trivial⟩ rfl rfl
        have hst := @atW_stop w ws i hi hn (fun q => by omega)
        have hie : i = ws.length := by omega
        (refine Go.run (g:=?_))
        exact Go.joined i hst.symm ⟨rfl, rfl, rfl, trivial⟩ rfl rfl
      rintro i hie
      have hi := atW_le w ws
      have hins : insW ws w = ws.take i ++ w :: ws.drop i := by rw [hie]; rfl
      rw [← hie] at hi
      clear hie
      rw [hins]
      have hso : (ws.take i ++ w :: ws.drop i).Pairwise (· < ·) := by rw [← hins]; exact insW_sorted hs hwn
      have hpo : ∀ x ∈ ws.take i ++ w :: ws.drop i, 1 ≤ x := fun x hx => by
        rw [← hins] at hx
        rcases insW_mem.1 hx with q | q
        · omega
        · exact hp x q
      have hlo : ∀ x ∈ ws.take i ++ w :: ws.drop i, x < 65536 := fun x hx => by
        rw [← hins] at hx
        rcases insW_mem.1 hx with q | q
        · omega
        · exact G.wb x q
      clear hins
      (repeat (first|refine GoR.end ?_|(refine GoR.gd rfl ?_;first|refine GoR.wanted' rfl rfl rfl rfl (g:=?_)|refine GoR.unwanted' rfl rfl rfl rfl (hd:=rfl) (hN:=rfl) (g:=?_)|refine GoR.unwantedU rfl rfl rfl rfl rfl rfl ?_)|(refine GoR.kk 0 rfl ?_;first|refine GoR.move rfl rfl rfl rfl rfl ?_|refine GoR.assign rfl rfl rfl rfl rfl ?_)|(refine GoR.kk 1 rfl ?_;first|refine GoR.load' rfl rfl rfl rfl rfl (g:=?_)|refine GoR.loadA' rfl rfl rfl rfl rfl (hv:=rfl) (g:=?_)|refine GoR.loadV' rfl rfl rfl rfl rfl (g:=?_)|refine GoR.loadVN' rfl rfl rfl rfl rfl (g:=?_))|(refine GoR.kk 2 rfl ?_;first|refine GoR.store' rfl rfl rfl rfl rfl (hl:=rfl) (h1:=rfl) (h3:=rfl) (g:=?_))|(refine GoR.kk 3 rfl ?_;first|refine GoR.fieldAddr rfl rfl rfl rfl rfl ?_|refine GoR.indexN' rfl rfl rfl rfl rfl rfl (g:=?_)|refine GoR.indexNs' rfl rfl rfl rfl rfl rfl (g:=?_)|refine GoR.indexV' rfl rfl rfl rfl rfl rfl (g:=?_)|refine GoR.indexA' rfl rfl rfl rfl rfl rfl (g:=?_)|refine GoR.fieldV' rfl rfl rfl rfl rfl (g:=?_))|(refine GoR.kk 4 rfl ?_;first|refine GoR.eq rfl rfl rfl rfl rfl rfl ?_|refine GoR.ne rfl rfl rfl rfl rfl rfl ?_|refine GoR.lt rfl rfl rfl rfl rfl rfl ?_|refine GoR.le rfl rfl rfl rfl rfl rfl ?_|refine GoR.gt rfl rfl rfl rfl rfl rfl ?_|refine GoR.ge rfl rfl rfl rfl rfl rfl ?_|refine GoR.addN' rfl rfl rfl rfl rfl rfl (g:=?_)|refine GoR.subN' rfl rfl rfl rfl rfl rfl (g:=?_)|refine GoR.add' rfl rfl rfl rfl rfl rfl (g:=?_)|refine GoR.sub' rfl rfl rfl rfl rfl rfl (g:=?_)|refine GoR.addM' rfl rfl rfl rfl rfl rfl (g:=?_)|refine GoR.subM' rfl rfl rfl rfl rfl rfl (g:=?_)|refine GoR.mulM' rfl rfl rfl rfl rfl rfl (g:=?_)|refine GoR.shrN rfl rfl rfl rfl rfl rfl rfl ?_|refine GoR.structEq rfl rfl rfl rfl rfl rfl (by rfl) (by rfl) ?_|refine GoR.structNe rfl rfl rfl rfl rfl rfl (by rfl) (by rfl) ?_|refine GoR.strEq rfl rfl rfl rfl rfl rfl ?_|refine GoR.strNe rfl rfl rfl rfl rfl rfl ?_|refine GoR.remN' rfl rfl rfl rfl rfl rfl (g:=?_)|refine GoR.quoN' rfl rfl rfl rfl rfl rfl (g:=?_)|refine GoR.shlN' rfl rfl rfl rfl rfl rfl rfl (g:=?_)|refine GoR.orN' rfl rfl rfl rfl rfl rfl (g:=?_))|(refine GoR.kk 5 rfl ?_;first|refine GoR.len rfl rfl rfl rfl rfl ?_|refine GoR.lenStr rfl rfl rfl rfl rfl ?_|refine GoR.capB rfl rfl rfl rfl rfl ?_)|(refine GoR.kk 7 rfl ?_;first|refine GoR.pickE' rfl rfl rfl rfl rfl (hx:=rfl) (hy:=rfl) (g:=?_)|refine GoR.pickN' rfl rfl rfl rfl rfl (hx:=rfl) (hy:=rfl) (g:=?_)|refine GoR.pickB rfl rfl rfl rfl rfl rfl rfl ?_)|(refine GoR.kk 8 rfl ?_;first|refine GoR.boxA rfl rfl rfl rfl rfl ?_|refine GoR.boxS rfl rfl rfl rfl rfl rfl ?_|refine GoR.alloc rfl rfl rfl rfl ?_)|(refine GoR.kk 9 rfl ?_;first|refine GoR.strV' rfl rfl rfl rfl rfl (g:=?_)|refine GoR.conv_u8 rfl rfl rfl rfl rfl ?_|refine GoR.convW' rfl rfl rfl rfl rfl (g:=?_)|refine GoR.conv_u16 rfl rfl rfl rfl rfl ?_|refine GoR.conv_u32 rfl rfl rfl rfl rfl ?_)|(refine GoR.kk 10 rfl ?_;first|refine GoR.build' rfl rfl rfl rfl rfl rfl (g:=?_))|(refine GoR.kk 11 rfl ?_;first|refine GoR.extract rfl rfl rfl rfl rfl rfl ?_|refine GoR.not rfl rfl rfl rfl rfl ?_|refine GoR.nilCheck rfl rfl rfl rfl rfl ?_|refine GoR.nilCheckF rfl rfl rfl rfl rfl ?_|refine GoR.makeFunc rfl rfl rfl rfl rfl rfl ?_)|(refine Go.kk 0 rfl ?_;refine Go.seq ?_)|(refine Go.kk 1 rfl ?_;refine Go.region (by kernel_rfl) rfl ?_)|(refine Go.kk 3 rfl ?_;first|refine Go.cond_t' rfl (g:=?_)|refine Go.cond_f' rfl (g:=?_))|(refine Go.kk 4 rfl ?_;refine Go.block ?_)|(refine Go.kk 5 rfl ?_;first|refine Go.skip ?_|refine Go.ret ?_|refine Go.exit ?_|refine Go.scope ?_)|refine Go.leave_normal ?_|refine Go.leave_same ?_|refine Go.leave_ret ?_|refine Go.ret_code ?_|refine Go.exit_code ?_|refine Go.leave_other rfl ?_|refine Go.sc_normal ?_|refine Go.sc_ret ?_|refine Go.sc_exit ?_|refine Go.exit_back ?_|refine Go.ret_back ?_))
      refine Go.kk 2 rfl ?_
      refine Go.loud (by kernel_rfl) rfl ?_
      (refine Go.runL (g:=?_))
      refine GoL.buildO (c := []) rfl rfl rfl rfl rfl (by decide) (by rfl) (by rfl) ?_
      intro b8 h8 hb8 ob8 s8 n8
      have m8 := s8.1
      have gs8 := s8.get gs2
      have wv8 := G2.wv.same s8
      have dv8 := G2.dv.same s8
      have rv8 := wv8.rv (P := Try.prog)
      have hle8 := rv8.le
      (refine Go.runL (g:=?_))
      refine GoL.sliceV (lo' := none) (hi' := some (.int .i64 i)) (l := 0) (r := i) rfl rfl rfl rfl rfl rfl rfl rv8 rfl (by simp [bnd]) (by omega) (by omega) ?_
      have hb0 : subA wa (0 * 1) = wa := by cases wa <;> simp [subA]
      rw [hb0]
      have fr8 := wv8.front hi
      have one1 : ((i64s ws).take (i * 1)).all Value.oneCell' = true := by
        rw [List.all_eq_true]
        intro x hx
        have hx := List.mem_of_mem_take hx
        obtain ⟨y, -, rfl⟩ := List.mem_map.1 hx
        rfl
      refine GoL.appendV rfl rfl rfl rfl rfl rfl hb8 fr8.rv (Own.ok ob8 (by omega)) (by omega) (by omega) ?_ ?_
      · exact one1
      intro b9 c9 h9 rd9 wr9 hwr9 hrd9 hs9 k9 o9
      have m9 := k9.1
      have lw : ∀ j ∈ blk wa, j < h3.n := G2.wv.lt
      have ld : ∀ j ∈ blk da, j < h3.n := G2.dv.lt
      have l2 := AHeap.lt gs2
      have nb8 : ∀ j, j < h3.n → j ∉ blk b8 := fun j hj hm => by have := ob8 j hm; omega
      have gs9 := k9.get gs8 (nb8 _ l2)
      have wv9 := wv8.keeps k9 (fun j hj hm => nb8 j (lw j hj) hm)
      have dv9 := dv8.keeps k9 (fun j hj hm => nb8 j (ld j hj) hm)
      have ob9 : Own h3.n b9 := fun j hj => by
        rcases o9 j hj with q | q
        · have := ob8 j q; omega
        · omega
      (refine Go.runL (g:=?_))
      refine GoL.buildO (c := [.int .i64 w]) rfl rfl rfl rfl rfl (by decide) (by rfl) (by rfl) ?_
      intro b10 h10 hb10 ob10 s10 n10
      have m10 := s10.1
      refine GoL.appendV rfl rfl rfl rfl rfl rfl (hs9.same s10) hb10.rv (Own.ok ob9 (by omega)) (by omega) (by omega) (by rfl) ?_
      intro b11 c11 h11 rd11 wr11 hwr11 hrd11 hs11 k11 o11
      have m11 := k11.1
      have nb9 : ∀ j, j < h3.n → j ∉ blk b9 := fun j hj hm => by have := ob9 j hm; omega
      have gs11 := k11.get (s10.get gs9) (nb9 _ l2)
      have wv11 := (wv9.same s10).keeps k11 (fun j hj hm => nb9 j (lw j hj) hm)
      have dv11 := (dv9.same s10).keeps k11 (fun j hj hm => nb9 j (ld j hj) hm)
      have ob11 : Own h3.n b11 := fun j hj => by
        rcases o11 j hj with q | q
        · exact ob9 j q
        · omega
      have rv11 := wv11.rv (P := Try.prog)
      (refine Go.runL (g:=?_))
      refine GoL.sliceV (lo' := some (.int .i64 i)) (hi' := none) (l := i) (r := ws.length) rfl rfl rfl rfl rfl rfl rfl rv11 (by simp [bnd]) rfl hi hle8 ?_
      have sb11 := rv11.sub hi (Nat.le_refl _)
      have one2 : (((i64s ws).drop (i * 1)).take ((ws.length - i) * 1)).all Value.oneCell' = true := by
        rw [List.all_eq_true]
        intro x hx
        have hx := List.mem_of_mem_drop (List.mem_of_mem_take hx)
        obtain ⟨y, -, rfl⟩ := List.mem_map.1 hx
        rfl
      refine GoL.appendV rfl rfl rfl rfl rfl rfl hs11 sb11 (Own.ok ob11 (by omega)) (by omega) (by omega) one2 ?_
      intro b14 c14 h14 rd14 wr14 hwr14 hrd14 hs14 k14 o14
      have m14 := k14.1
      have nb11 : ∀ j, j < h3.n → j ∉ blk b11 := fun j hj hm => by have := ob11 j hm; omega
      have gs14 := k14.get gs11 (nb11 _ l2)
      have dv14 := dv11.keeps k14 (fun j hj hm => nb11 j (ld j hj) hm)
      have ob14 : Own h3.n b14 := fun j hj => by
        rcases o14 j hj with q | q
        · exact ob11 j q
        · omega
      have lb8 := hb8.lt
      have lb9 := hs9.lt
      have hdis : ∀ b ∈ wr9, b ≠ rb ∧ b < h9.n ∧ b < h10.n := fun b hb => by
        have q := hwr9 b hb
        have := ob8 b q
        have := lb8 b q
        omega
      have hdis2 : ∀ b ∈ wr11, b ≠ rb ∧ b < h9.n ∧ b < h10.n := fun b hb => by
        have q := hwr11 b hb
        have := ob9 b q
        have := lb9 b q
        omega
      (refine Go.runL (g:=?_))
      refine GoL.store' rfl rfl rfl rfl rfl (hl:=rfl) (h1:=rfl) (h3:=rfl) (g:=?_)
      (refine Go.runL (g:=?_))
      refine GoL.end_ (hl := by (simp only [List.nil_append, List.cons_append]); repeat (first | exact loudP.nil | refine loudP.none ?_ | refine loudP.new (fun _ hb => absurd hb List.not_mem_nil) ?_ | refine loudP.row (by repeat (first | exact loudRowP.nil | refine loudRowP.none ?_ | refine loudRowP.bef (by decide +kernel) ?_ | refine loudRowP.apart (by first | exact .inl rfl | exact .inr (by simp)) rfl (fun i hi => by first | (have hx := hdis _ hi; first | (simp; fail_if_success focus skip) | (simp; omega)) | (have hx := hdis2 _ hi; first | (simp; fail_if_success focus skip) | (simp; omega))) ?_)) ?_)) ?_
      clear hdis hdis2
      refine Go.name ?_
      intro h15 e15
      have k15 : Keeps [rb] h14 h15 := by subst e15; exact (Keeps.rf _ _).pt (.inl (by simp)) _
      have eln : 0 + (i - 0) + 1 + (ws.length - i) = (ws.take i ++ w :: ws.drop i).length := by simp; omega
      have eln3 : i - 0 + 1 + (ws.length - i) = (ws.take i ++ w :: ws.drop i).length := by simp; omega
      have gs15 : h15.get rb = some (.cells [.int .u32 cum, .slice b14 (ws.take i ++ w :: ws.drop i).length c14, .slice da ds.length dc] 31) := by
        subst e15
        rw [get_put_self gs14]
        first | rw [eln] | rw [eln3]
      clear e15
      have m15 := k15.1
      have nb14 : ∀ j, j < h3.n → j ∉ blk b14 := fun j hj hm => by have := ob14 j hm; omega
      have wv15 := hs14.keeps k15 (fun j hj hm => by simp only [List.mem_singleton] at hm; subst hm; exact nb14 _ l2 hj)
      have dv15 := dv14.keeps k15 (fun j hj hm => by simp only [List.mem_singleton] at hm; subst hm; exact G.ap.2.1 hj)
      have ecs : [] ++ (i64s ws).take (i * 1) ++ [.int .i64 (w : Nat)] ++ ((i64s ws).drop (i * 1)).take ((ws.length - i) * 1) = i64s (ws.take i ++ w :: ws.drop i) := by
        rw [Nat.mul_one, Nat.mul_one, List.take_of_length_le (l := (i64s ws).drop i) (by simp)]
        simp [i64s]
      rw [ecs] at wv15
      rw [eln] at wv15
      have eln2 : (ws.take i ++ w :: ws.drop i).length = ws.length + 1 := by rw [← eln]; omega
      clear eln eln3
      generalize ws.take i ++ w :: ws.drop i = ws1 at *
      have G4 : RSet h15 rb cum b14 c14 ws1 da dc ds n0 := ⟨gs15, wv15, dv15, hlo, G.db, G.cb, ⟨nb14 _ l2, G.ap.2.1, fun j hj hm => nb14 j (ld j hm) hj⟩, ⟨G.ow.1, fun j hj => by have := ob14 j hj; omega, G.ow.2.2⟩⟩
      have n4' : h.n ≤ h15.n := by omega
      have ob15 : Own h.n b14 := fun j hj => by have := ob14 j hj; omega
      obtain ⟨T, hT⟩ : ∃ T, T = settleW (ws.length + 1) cum ws1 := ⟨_, rfl⟩
      rw [← hT]
      clear gs15 wv15 dv15 ecs hs14 k14 dv14 gs14 hs11 k11 hs9 k9 hb8 hb10 k15 gs11 dv11 wv11 rv11 sb11 dv9 wv9 gs9 wv8 dv8 rv8 gs8 fr8 one1 one2 hlo G2 gs2 hsp
      (refine Go.run (g:=?_))
      refine Go.loop (α := Nat × Nat × List Nat × Option Addr × Nat × AHeap) (fun _ => [(0, .pointer (some ⟨rb, 0, none⟩))]) (fun _ => []) (fun x => x.2.2.2.2.2) (fun x => x.2.2.1.length ≤ x.1 ∧ x.1 ≤ 70000 ∧ settleW x.1 x.2.1 x.2.2.1 = T ∧ x.2.2.1.Pairwise (· < ·) ∧ (∀ y ∈ x.2.2.1, 1 ≤ y) ∧ h.n ≤ x.2.2.2.2.2.n ∧ Own h.n x.2.2.2.1 ∧ RSet x.2.2.2.2.2 rb x.2.1 x.2.2.2.1 x.2.2.2.2.1 x.2.2.1 da dc ds n0) (fun x => x.2.2.1.length) (ws.length + 1, cum, ws1, b14, c14, h15) ?_ ?_ rfl rfl ?_
      · exact ⟨by simp only; omega, by simp only; omega, hT.symm, hso, hpo, n4', ob15, G4⟩
      · exact ⟨rfl, trivial⟩
      clear G4 hT n4' ob15 hso hpo
      rintro ⟨f, c, ws', wa', wc', H⟩ ⟨hf, hf7, hset, hso, hpo, hHn, how, G5⟩
      simp only at hf hf7 hset hso hpo hHn how G5 ⊢
      have gs5 := G5.sc
      have sv5 := G5.wv
      have sl5 := AHeap.lt gs5
      cases ws' with
      | nil =>
        have hT : T = (c, []) := by
          rw [← hset]
          cases f with
          | zero => rfl
          | succ f => rfl
        (refine Go.run (g:=?_))
        (first|refine Go.finT (by first|exact .inr rfl|exact .inl rfl) rfl ?_|refine Go.fin1 (by first|exact .inr rfl|exact .inl rfl) rfl (hq:=?_))
        rw [hT]
        exact ⟨rfl, wa', wc', da, dc, G5, fun i hi => .inl hi, fun i hi => .inr (how i hi)⟩
      | cons x l =>
        have c0 : (i64s (x :: l))[0]? = some (.int .i64 (x : Nat)) := rfl
        have hxb := G5.wb x (by simp)
        have hlen : (x :: l).length = l.length + 1 := rfl
        have hlen2 : (i64s (x :: l)).length = l.length + 1 := by simp
        by_cases hx : x = 1
        case neg =>
          have hT : T = (c, x :: l) := by
            rw [← hset]
            cases f with
            | zero => rfl
            | succ f => unfold settleW; rw [if_neg (by simpa using hx)]
          (refine Go.run (g:=?_))
          (first|refine Go.finT (by first|exact .inr rfl|exact .inl rfl) rfl ?_|refine Go.fin1 (by first|exact .inr rfl|exact .inl rfl) rfl (hq:=?_))
          rw [hT]
          exact ⟨rfl, wa', wc', da, dc, G5, fun i hi => .inl hi, fun i hi => .inr (how i hi)⟩
        subst hx
        have hnb := next32_lt c
        have ha := add32 c
        obtain ⟨f', rfl⟩ : ∃ f', f = f' + 1 := ⟨f - 1, by simp at hf; omega⟩
        have hset' : settleW f' (next32 c) (l.map (· - 1)) = T := hset
        generalize next32 c = nc at *
        (refine Go.run (g:=?_))
        refine GoR.bin rfl rfl rfl rfl rfl rfl ha ?_
        (refine Go.run (g:=?_))
        refine Go.name ?_
        intro h7 e7
        have k7 : Keeps [rb] H h7 := by subst e7; exact (Keeps.rf _ _).pt (.inl (by simp)) _
        have gs7 : h7.get rb = some (.cells [.int .u32 nc, .slice wa' (1 :: l).length wc', .slice da ds.length dc] 31) := by subst e7; exact get_put_self gs5
        have n7 : h7.n = H.n := by subst e7; rfl
        clear e7
        have w7 := sv5.keeps k7 (fun j hj hm => by simp only [List.mem_singleton] at hm; subst hm; exact G5.ap.1 hj)
        have d7 := G5.dv.keeps k7 (fun j hj hm => by simp only [List.mem_singleton] at hm; subst hm; exact G5.ap.2.1 hj)
        have hl1 : ∀ y ∈ l, 1 < y := fun y hy => (List.pairwise_cons.1 hso).1 y hy
        have l7 : rb < h7.n := AHeap.lt gs7
        have lw7 : ∀ j ∈ blk wa', j < h7.n := w7.lt
        have ld7 : ∀ j ∈ blk da, j < h7.n := d7.lt
        refine Go.loop (α := Nat × Option Addr × Nat × AHeap) (fun x => [(8, .int .i64 (x.1 + 1 : Nat)), (7, .slice x.2.1 x.1 x.2.2.1), (0, .pointer (some ⟨rb, 0, none⟩))]) (fun _ => []) (fun x => x.2.2.2) (fun x => x.1 ≤ l.length ∧ h7.n ≤ x.2.2.2.n ∧ Own h7.n x.2.1 ∧ Sv x.2.2.2 2 1 x.2.1 x.1 x.2.2.1 (i64s ((l.take x.1).map (· - 1))) ∧ x.2.2.2.get rb = some (.cells [.int .u32 nc, .slice wa' (1 :: l).length wc', .slice da ds.length dc] 31) ∧ Sv x.2.2.2 2 1 wa' (1 :: l).length wc' (i64s (1 :: l)) ∧ Sv x.2.2.2 22 1 da ds.length dc (u32s' ds)) (fun x => l.length - x.1) (0, none, 0, h7) ?_ ?_ rfl rfl ?_
        · exact ⟨Nat.zero_le _, Nat.le_refl _, Own.nil _, Sv.nil, gs7, w7, d7⟩
        · exact ⟨rfl, rfl, rfl, trivial⟩
        clear gs7 w7 d7
        rintro ⟨i, ra, rc, H3⟩ ⟨hi, hn3, hown, sr, gs3, sw, sd⟩
        simp only at hi hn3 hown sr gs3 sw sd ⊢
        rcases Nat.lt_or_ge i l.length with i0 | i0
        · have c1 : (i64s (1 :: l))[i + 1]? = some (.int .i64 (l[i] : Nat)) := by simp [i0]
          have hm := hl1 _ (List.getElem_mem i0)
          have hb := G5.wb l[i] (by simp)
          have htk : l.take (i + 1) = l.take i ++ [l[i]] := by simp
          generalize l[i] = y at *
          (refine Go.run (g:=?_))
          refine GoR.buildRo (c := [.int .i64 (y - 1 : Nat)]) rfl rfl rfl rfl rfl (by decide) (by rfl) (by rfl) ?_
          intro b8 h8 hb8 rb8 ob8 s8 n8
          have m8 := s8.1
          refine GoR.appendV rfl rfl rfl rfl rfl rfl (sr.same s8) hb8 (fun j hj => .inr (by have := hown j hj; omega)) (by omega) (by omega) (by rfl) ?_
          intro b9 c9 h9 hs9 k9 o9
          have m9 := k9.1
          have nra : ∀ j, j < h7.n → j ∉ blk ra := fun j hj hm => by have := hown j hm; omega
          have gs9 := k9.get (s8.get gs3) (nra _ l7)
          have sw9 := (sw.same s8).keeps k9 (fun j hj hm => nra j (lw7 j hj) hm)
          have sd9 := (sd.same s8).keeps k9 (fun j hj hm => nra j (ld7 j hj) hm)
          (refine Go.run (g:=?_))
          refine Go.again (i + 1, b9, c9, h9) ⟨i0, by simp only; omega, fun j hj => ?_, ?_, gs9, sw9, sd9⟩ (by simp only; omega) ⟨rfl, rfl, rfl, trivial⟩ rfl rfl
          · rcases o9 j hj with q | q
            · exact hown j q
            · omega
          · rw [htk]
            simpa [i64s] using hs9
        have hie : i = l.length := by omega
        subst hie
        rw [List.take_length] at sr
        (refine Go.run (g:=?_))
        refine Go.name ?_
        intro h9 e9
        have k9 : Keeps [rb] H3 h9 := by subst e9; exact (Keeps.rf _ _).pt (.inl (by simp)) _
        have gs9 : h9.get rb = some (.cells [.int .u32 nc, .slice ra l.length rc, .slice da ds.length dc] 31) := by subst e9; exact get_put_self gs3
        clear e9
        have m9 := k9.1
        have nra : ∀ j, j < h7.n → j ∉ blk ra := fun j hj hm => by have := hown j hm; omega
        have w9 := sr.keeps k9 (fun j hj hm => by simp only [List.mem_singleton] at hm; subst hm; exact nra _ l7 hj)
        have d9 := sd.keeps k9 (fun j hj hm => by simp only [List.mem_singleton] at hm; subst hm; exact G5.ap.2.1 hj)
        have ell : (l.map (· - 1)).length = l.length := List.length_map _
        refine Go.again (f', nc, l.map (· - 1), ra, rc, h9) ⟨by simp only; omega, by simp only; omega, hset', ?_, ?_, by simp only; omega, fun j hj => by have := hown j hj; omega, ⟨by rw [ell]; exact gs9, by rw [ell]; exact w9, d9, ?_, G5.db, hnb, ⟨nra _ l7, G5.ap.2.1, fun j hj hm => nra j (ld7 j hm) hj⟩, ⟨G5.ow.1, fun j hj => by have := hown j hj; omega, G5.ow.2.2⟩⟩⟩ (by simp only; omega) ⟨rfl, trivial⟩ rfl rfl
        · exact List.pairwise_map.2 ((List.pairwise_cons.1 hso).2.imp_of_mem fun ha hb hab => by have := hl1 _ ha; have := hl1 _ hb; omega)
        · intro y hy
          obtain ⟨z, hz, rfl⟩ := List.mem_map.1 hy
          have := hl1 z hz; omega
        · intro y hy
          obtain ⟨z, hz, rfl⟩ := List.mem_map.1 hy
          have := G5.wb z (by simp [hz]); omega
end Go.Proofs.Ytfcfgmhcphmefaa
namespace Go.Proofs.Ytfcfgmhcphmefaa
open Go.Sort
set_option maxRecDepth 100000
attribute [local irreducible] Go GoR GoL
def ustep (out : List (Nat × Nat)) (w : Nat) : List (Nat × Nat) :=
  match out.getLast? with
  | some (s, e) => if e + 1 = w then out.dropLast ++ [(s, w)] else out ++ [(w, w)]
  | none => out ++ [(w, w)]
def ufold (ws : List Nat) : List (Nat × Nat) := ws.foldl ustep []
def rgaps (ws : List Nat) : List (Nat × Nat) := (ufold ws).take 64
theorem ustep_snoc (l : List (Nat × Nat)) (x : Nat × Nat) (w : Nat) : ustep (l ++ [x]) w = if x.2 + 1 = w then l ++ [(x.1, w)] else l ++ [x] ++ [(w, w)] := by
  unfold ustep
  simp
theorem gcs_take : ∀ (l : List (Nat × Nat)) (k : Nat), (gcs l).take (k * 2) = gcs (l.take k)
  | [], k => by simp [gcs]
  | x :: l, 0 => by simp [gcs]
  | x :: l, k + 1 => by
    have := gcs_take l k
    rw [show (k + 1) * 2 = k * 2 + 1 + 1 by omega]
    show Value.int .u16 x.1 :: Value.int .u16 x.2 :: (gcs l).take (k * 2) = _
    rw [this]; rfl
set_option maxHeartbeats 32000000 in
theorem rgaps_spec (rb cum : Nat) (wa da : Option Addr) (wc dc : Nat) (ws ds : List Nat) (n0 : Nat) (hl : ws.length ≤ 70000) (h : AHeap) (G : RSet h rb cum wa wc ws da dc ds n0) : CallS Try.prog [] 19 [.pointer (some ⟨rb, 0, none⟩)] h fun v h' => ∃ a c, v = .slice a (rgaps ws).length c ∧ Sv h' 49 2 a (rgaps ws).length c (gcs (rgaps ws)) ∧ Own h.n a := by
  have gs0 := G.sc
  have hlt := AHeap.lt gs0
  have lw0 : ∀ j ∈ blk wa, j < h.n := G.wv.lt
  (refine CallS.of1 Try.func19 rfl Try.ntmps19 Try.results19 rfl ?_)
  (refine Go.run (g:=?_))
  refine Go.loop (α := Nat × List (Nat × Nat) × Option Addr × Nat × AHeap) (fun x => [(4, .int .i64 x.1), (3, .slice x.2.2.1 x.2.1.length x.2.2.2.1), (0, .pointer (some ⟨rb, 0, none⟩))]) (fun _ => []) (fun x => x.2.2.2.2) (fun x => x.1 ≤ ws.length ∧ x.2.1 = ufold (ws.take x.1) ∧ (∀ hi : x.1 - 1 < ws.length, 0 < x.1 → ∃ init st, x.2.1 = init ++ [(st, ws[x.1 - 1])]) ∧ x.2.1.length ≤ x.1 ∧ h.n ≤ x.2.2.2.2.n ∧ Own h.n x.2.2.1 ∧ Sv x.2.2.2.2 49 2 x.2.2.1 x.2.1.length x.2.2.2.1 (gcs x.2.1) ∧ x.2.2.2.2.get rb = some (.cells [.int .u32 cum, .slice wa ws.length wc, .slice da ds.length dc] 31) ∧ Sv x.2.2.2.2 2 1 wa ws.length wc (i64s ws)) (fun x => ws.length - x.1) (0, [], none, 0, h) ?_ ?_ rfl rfl ?_
  · exact ⟨Nat.zero_le _, rfl, fun _ q => absurd q (Nat.lt_irrefl _), Nat.le_refl _, Nat.le_refl _, Own.nil _, Sv.nil, gs0, G.wv⟩
  · exact ⟨rfl, rfl, rfl, trivial⟩
  clear gs0
  rintro ⟨i, O, oa, oc, H⟩ ⟨hi, hO, hlast, hOl, hn, oown, so, gs, sw⟩
  simp only at hi hO hlast hOl hn oown so gs sw ⊢
  have nob : ∀ j, j < h.n → j ∉ blk oa := fun j hj hm => by have := oown j hm; omega
  rcases Nat.lt_or_ge i ws.length with i0 | i0
  case inr =>
    have hie : i = ws.length := by omega
    subst hie
    rw [List.take_length] at hO
    have hr : rgaps ws = O.take 64 := by unfold rgaps; rw [hO]
    rw [hr]
    clear hO hlast
    rcases Nat.lt_or_ge 64 O.length with q | q
    · have hl64 : (O.take 64).length = 64 := by rw [List.length_take]; omega
      rw [hl64, ← gcs_take]
      (refine Go.run (g:=?_))
      refine GoR.sliceV (lo' := none) (hi' := some (.int .i64 (64 : Nat))) (l := 0) (r := 64) rfl rfl rfl rfl rfl rfl rfl so.rv rfl (by simp [bnd]) (by omega) (by have := so.rv (P := Try.prog) |>.le; omega) ?_
      have hb0 : subA oa (0 * 2) = oa := by cases oa <;> simp [subA]
      rw [hb0]
      (refine Go.run (g:=?_))
      (first|refine Go.finT (by first|exact .inr rfl|exact .inl rfl) rfl ?_|refine Go.fin1 (by first|exact .inr rfl|exact .inl rfl) rfl (hq:=?_))
      exact ⟨oa, oc, rfl, so.front (r := 64) (by omega), oown⟩
    · rw [List.take_of_length_le q]
      (refine Go.run (g:=?_))
      (first|refine Go.finT (by first|exact .inr rfl|exact .inl rfl) rfl ?_|refine Go.fin1 (by first|exact .inr rfl|exact .inl rfl) rfl (hq:=?_))
      exact ⟨oa, oc, rfl, so, oown⟩
  have c0 : (i64s ws)[i]? = some (.int .i64 (ws[i] : Nat)) := by simp [i0]
  have hle : (i64s ws).length = ws.length := by simp
  have wb := G.wb _ (List.getElem_mem i0)
  have htk : ws.take (i + 1) = ws.take i ++ [ws[i]] := by simp
  have hnx : ufold (ws.take (i + 1)) = ustep O ws[i] := by rw [htk, hO]; unfold ufold; rw [List.foldl_append]; rfl
  have hlast1 : ∀ O' : List (Nat × Nat), (∃ init st, O' = init ++ [(st, ws[i])]) → ∀ hi : i + 1 - 1 < ws.length, 0 < i + 1 → ∃ init st, O' = init ++ [(st, ws[i + 1 - 1])] := fun O' q _ _ => q
  have hw16 : ws[i] % 65536 = ws[i] := Nat.mod_eq_of_lt wb
  rcases Nat.eq_zero_or_pos i with rfl | ip
  · have hO0 : O = [] := by rw [hO]; rfl
    subst hO0
    generalize hw : ws[0] = w at *
    have hst : ustep [] w = [(w, w)] := rfl
    have l0 : ([] : List (Nat × Nat)).length = 0 := rfl
    rw [l0] at so hOl ⊢
    rw [hst] at hnx
    (refine Go.run (g:=?_))
    refine GoR.buildRo (c := [.int .u16 (w : Nat), .int .u16 (w : Nat)]) rfl rfl rfl rfl rfl (by decide) (by rfl) (by rfl) ?_
    intro b8 h8 hb8 rb8 ob8 s8 n8
    have m8 := s8.1
    refine GoR.appendV rfl rfl rfl rfl rfl rfl (so.same s8) hb8 (fun j hj => .inr (by have := oown j hj; omega)) (by omega) (by omega) (by rfl) ?_
    intro b9 c9 h9 hs9 k9 o9
    have m9 := k9.1
    have sw9 := (sw.same s8).keeps k9 (fun j hj => nob j (lw0 j hj))
    have gs9 := k9.get (s8.get gs) (nob _ hlt)
    (refine Go.run (g:=?_))
    refine Go.again (0 + 1, [(w, w)], b9, c9, h9) ⟨i0, hnx.symm, ?_, by simp, by simp only; omega, fun j hj => ?_, hs9, gs9, sw9⟩ (by simp only; omega) ⟨rfl, rfl, rfl, trivial⟩ rfl rfl
    · exact hlast1 _ ⟨[], w, by rw [← hw]; rfl⟩
    · rcases o9 j hj with q | q
      · exact oown j q
      · omega
  · have i1 : i - 1 < ws.length := by omega
    have c1 : (i64s ws)[i - 1]? = some (.int .i64 (ws[i - 1] : Nat)) := by simp [i1]
    have eb := G.wb _ (List.getElem_mem i1)
    obtain ⟨init, st, hO1⟩ := hlast i1 ip
    generalize ws[i - 1] = e at *
    generalize hw : ws[i] = w at *
    subst hO1
    have hst := ustep_snoc init (st, e) w
    have hl : (init ++ [(st, e)]).length = init.length + 1 := by simp
    have gl := gcs_len (init ++ [(st, e)])
    rw [hl] at so hOl gl ⊢
    by_cases hew : e + 1 = w
    · rw [if_pos hew] at hst
      rw [hst] at hnx
      have hkv : (init.length + 1 - 1) * 2 < (gcs (init ++ [(st, e)])).length := by rw [gl]; omega
      subst hew
      (refine Go.run (g:=?_))
      refine GoR.store1' rfl rfl rfl rfl rfl rfl (hS := so) (hw := fun j hj => .inr (by have := oown j hj; omega)) (g:=?_)
      intro h7 so7 k7 n7
      rw [Nat.add_sub_cancel, gcs_setLast] at so7
      have sw7 := sw.keeps k7 (fun j hj => nob j (lw0 j hj))
      have gs7 := k7.get gs (nob _ hlt)
      (refine Go.run (g:=?_))
      refine Go.again (i + 1, init ++ [(st, e + 1)], oa, oc, h7) ⟨i0, hnx.symm, ?_, by simp only [List.length_append, List.length_cons, List.length_nil]; omega, by have := k7.1; simp only; omega, oown, by simpa using so7, gs7, sw7⟩ (by simp only; omega) ⟨rfl, ?_, rfl, trivial⟩ rfl rfl
      · exact hlast1 _ ⟨init, st, rfl⟩
      · simp only [List.length_append, List.length_cons, List.length_nil]; rfl
    · rw [if_neg hew] at hst
      rw [hst] at hnx
      (refine Go.run (g:=?_))
      refine GoR.buildRo (c := [.int .u16 (w : Nat), .int .u16 (w : Nat)]) rfl rfl rfl rfl rfl (by decide) (by rfl) (by rfl) ?_
      intro b8 h8 hb8 rb8 ob8 s8 n8
      have m8 := s8.1
      refine GoR.appendV rfl rfl rfl rfl rfl rfl (so.same s8) hb8 (fun j hj => .inr (by have := oown j hj; omega)) (by omega) (by omega) (by rfl) ?_
      intro b9 c9 h9 hs9 k9 o9
      have m9 := k9.1
      have sw9 := (sw.same s8).keeps k9 (fun j hj => nob j (lw0 j hj))
      have gs9 := k9.get (s8.get gs) (nob _ hlt)
      (refine Go.run (g:=?_))
      refine Go.again (i + 1, init ++ [(st, e)] ++ [(w, w)], b9, c9, h9) ⟨i0, hnx.symm, ?_, by simp only [List.length_append, List.length_cons, List.length_nil]; omega, by simp only; omega, fun j hj => ?_, ?_, gs9, sw9⟩ (by simp only; omega) ⟨rfl, ?_, rfl, trivial⟩ rfl rfl
      · exact hlast1 _ ⟨init ++ [(st, e)], w, rfl⟩
      · rcases o9 j hj with z | z
        · exact oown j z
        · omega
      · simp only [List.length_append, List.length_cons, List.length_nil]
        rw [gcs_snoc]
        exact hs9
      · simp only [List.length_append, List.length_cons, List.length_nil]; rfl
end Go.Proofs.Ytfcfgmhcphmefaa
namespace Go.Proofs.Ytfcfgmhcphmefaa
open Go.Sort
theorem span_inj {c a b : Nat} (hc : c < 4294967296) (ha : a < 4294967296) (hb : b < 4294967296) (e : spanN c a = spanN c b) : a = b := by unfold spanN at e; omega
theorem span_zero {c a : Nat} (hc : c < 4294967296) (ha : a < 4294967296) : spanN c a = 0 ↔ a = c := by unfold spanN; omega
theorem span_one {c : Nat} (hc : c < 4294967296) : spanN c (next32 c) = 1 := by unfold spanN next32; omega
theorem span_next {c k : Nat} (hc : c < 4294967296) (hk : k < 4294967296) (h : 1 ≤ spanN c k) : spanN (next32 c) k = spanN c k - 1 := by unfold spanN next32 at *; omega
structure Alike (c : Nat) (ks ws : List Nat) : Prop where
  pm : ws.Perm (ks.map (spanN c))
  so : ws.Pairwise (· < ·)
  po : ∀ w ∈ ws, 1 ≤ w
  lt : ∀ w ∈ ws, w < 65536
  kb : ∀ k ∈ ks, k < 4294967296
  cb : c < 4294967296
theorem Alike.len {c : Nat} {ks ws : List Nat} (r : Alike c ks ws) : ws.length = ks.length := by have := r.pm.length_eq; rwa [List.length_map] at this
theorem Alike.mem {c t : Nat} {ks ws : List Nat} (r : Alike c ks ws) (ht : t < 4294967296) : t ∈ ks ↔ spanN c t ∈ ws := by
  rw [r.pm.mem_iff, List.mem_map]
  constructor
  · exact fun h => ⟨t, h, rfl⟩
  · rintro ⟨k, hk, e⟩
    rw [← span_inj r.cb (r.kb k hk) ht e]; exact hk
theorem Alike.has {c t : Nat} {ks ws : List Nat} (r : Alike c ks ws) (ht : t < 4294967296) : hasN c ks t = hasW c ws t := by
  unfold hasN hasW
  rw [decide_eq_decide.2 (r.mem ht), decide_eq_decide.2 (span_zero r.cb ht)]
theorem Alike.start {c : Nat} (hc : c < 4294967296) : Alike c [] [] := ⟨.refl _, .nil, (fun w h => by cases h), (fun w h => by cases h), (fun w h => by cases h), hc⟩
theorem settleN_succ (n c : Nat) (ks : List Nat) : settleN (n + 1) c ks = if next32 c ∈ ks then settleN n (next32 c) (ks.erase (next32 c)) else (c, ks) := rfl
theorem settleW_succ (n c : Nat) (ws : List Nat) : settleW (n + 1) c ws = if ws.head? = some 1 then settleW n (next32 c) (ws.tail.map (· - 1)) else (c, ws) := rfl
theorem settleN_yes {n c : Nat} {ks : List Nat} (h : next32 c ∈ ks) : settleN (n + 1) c ks = settleN n (next32 c) (ks.erase (next32 c)) := by rw [settleN_succ, if_pos h]
theorem settleN_no {n c : Nat} {ks : List Nat} (h : ¬ next32 c ∈ ks) : settleN (n + 1) c ks = (c, ks) := by rw [settleN_succ, if_neg h]
theorem settleW_yes {n c : Nat} {l : List Nat} : settleW (n + 1) c (1 :: l) = settleW n (next32 c) (l.map (· - 1)) := by rw [settleW_succ, if_pos List.head?_cons]; rw [List.tail_cons]
theorem settleW_no {n c : Nat} {ws : List Nat} (h : ¬ ws.head? = some 1) : settleW (n + 1) c ws = (c, ws) := by rw [settleW_succ, if_neg h]
theorem map_pred {f g : Nat → Nat} {l ks : List Nat} (hp : l.Perm (ks.map f)) (h : ∀ k ∈ ks, f k - 1 = g k) : (l.map (· - 1)).Perm (ks.map g) := by
  have h2 := hp.map (· - 1)
  rw [List.map_map] at h2
  exact h2.trans (.of_eq (List.map_congr_left fun k hk => h k hk))
theorem perm_erase_map {f : Nat → Nat} {n : Nat} {l ks : List Nat} (hp : (1 :: l).Perm (ks.map f)) (hn : n ∈ ks) (h1 : f n = 1) : l.Perm ((ks.erase n).map f) := by
  have h := hp.trans ((List.perm_cons_erase hn).map f)
  rw [List.map_cons, h1] at h
  exact h.cons_inv
theorem sorted_pred {l : List Nat} (hs : (1 :: l).Pairwise (· < ·)) : (l.map (· - 1)).Pairwise (· < ·) ∧ (∀ w ∈ l.map (· - 1), 1 ≤ w) := by
  have hl : ∀ w ∈ l, 1 < w := fun w hw => (List.pairwise_cons.1 hs).1 w hw
  refine ⟨List.pairwise_map.2 ((List.pairwise_cons.1 hs).2.imp_of_mem fun ha hb hab => by have := hl _ ha; have := hl _ hb; omega), fun y hy => ?_⟩
  obtain ⟨z, hz, rfl⟩ := List.mem_map.1 hy
  have := hl z hz; omega
theorem Alike.settle (n : Nat) : ∀ {c : Nat} {ks ws : List Nat}, Alike c ks ws → (settleN n c ks).1 = (settleW n c ws).1 ∧ Alike (settleN n c ks).1 (settleN n c ks).2 (settleW n c ws).2 := by
  induction n with
  | zero => intro c ks ws r; exact ⟨rfl, r⟩
  | succ n ih =>
    intro c ks ws r
    have key : next32 c ∈ ks ↔ ws.head? = some 1 := by
      rw [r.mem (next32_lt c), span_one r.cb]
      cases hw : ws with
      | nil => simp
      | cons x l =>
        have so := r.so
        have po := r.po
        rw [hw] at so po
        rw [List.head?_cons, Option.some.injEq]
        constructor
        · intro h
          rcases List.mem_cons.1 h with h | h
          · exact h.symm
          · have := (List.pairwise_cons.1 so).1 1 h
            have := po x (by simp)
            omega
        · rintro rfl; simp
    by_cases hk : next32 c ∈ ks
    · have hh := key.1 hk
      obtain ⟨l, rfl⟩ : ∃ l, ws = 1 :: l := by
        cases ws with
        | nil => cases hh
        | cons x l => rw [List.head?_cons, Option.some.injEq] at hh; exact ⟨l, by rw [hh]⟩
      rw [settleN_yes hk, settleW_yes]
      refine ih ?_
      have hsp := sorted_pred r.so
      refine ⟨map_pred (perm_erase_map r.pm hk (span_one r.cb)) fun k hk => ?_, hsp.1, hsp.2, fun y hy => ?_, fun k hk => r.kb k (List.mem_of_mem_erase hk), next32_lt c⟩
      · have hks := List.mem_of_mem_erase hk
        exact (span_next r.cb (r.kb k hks) (r.po _ ((r.mem (r.kb k hks)).1 hks))).symm
      · obtain ⟨z, hz, rfl⟩ := List.mem_map.1 hy
        have := r.lt z (List.mem_cons_of_mem _ hz); omega
    · have hh : ¬ ws.head? = some 1 := fun q => hk (key.2 q)
      rw [settleN_no hk, settleW_no hh]
      exact ⟨rfl, r⟩
theorem addN_has {c t : Nat} {ks : List Nat} (ds : List Nat) (h : hasN c ks t = true) : addN c ks ds t = (1, c, ks, if ds.length < 16 then ds ++ [t] else ds) := by unfold addN; rw [if_pos h]
theorem addN_far {c t : Nat} {ks : List Nat} (ds : List Nat) (h : ¬ hasN c ks t = true) (h2 : 65535 < spanN c t) : addN c ks ds t = (2, c, ks, ds) := by unfold addN; rw [if_neg h, if_pos h2]
theorem addN_new {c t : Nat} {ks : List Nat} (ds : List Nat) (h : ¬ hasN c ks t = true) (h2 : ¬ 65535 < spanN c t) {X : Nat × List Nat} (hX : settleN (ks.length + 1) c (ks ++ [t]) = X) : addN c ks ds t = (0, X.1, X.2, ds) := by unfold addN; rw [if_neg h, if_neg h2, hX]
theorem addW_has {c t : Nat} {ws : List Nat} (ds : List Nat) (h : hasW c ws t = true) : addW c ws ds t = (1, c, ws, if ds.length < 16 then ds ++ [t] else ds) := by unfold addW; rw [if_pos h]
theorem addW_far {c t : Nat} {ws : List Nat} (ds : List Nat) (h : ¬ hasW c ws t = true) (h2 : 65535 < spanN c t) : addW c ws ds t = (2, c, ws, ds) := by unfold addW; rw [if_neg h, if_pos h2]
theorem addW_new {c t : Nat} {ws : List Nat} (ds : List Nat) (h : ¬ hasW c ws t = true) (h2 : ¬ 65535 < spanN c t) {X : Nat × List Nat} (hX : settleW (ws.length + 1) c (insW ws (spanN c t)) = X) : addW c ws ds t = (0, X.1, X.2, ds) := by unfold addW; rw [if_neg h, if_neg h2, hX]
theorem insW_perm_map {f : Nat → Nat} {t : Nat} {ws ks : List Nat} (p : ws.Perm (ks.map f)) : (insW ws (f t)).Perm ((ks ++ [t]).map f) := by
  rw [List.map_append, List.map_cons, List.map_nil]
  exact (insW_perm _ _).trans ((p.cons _).trans (List.perm_append_singleton _ _).symm)
theorem Alike.ins {c t : Nat} {ks ws : List Nat} (r : Alike c ks ws) (ht : t < 4294967296) (h : ¬ hasW c ws t = true) (h2 : ¬ 65535 < spanN c t) : Alike c (ks ++ [t]) (insW ws (spanN c t)) := by
  have hwn : spanN c t ∉ ws := fun q => h (by unfold hasW; rw [decide_eq_true q, Bool.true_or])
  have hw0 : spanN c t ≠ 0 := fun q => h (by unfold hasW; rw [decide_eq_true q, Bool.true_or, Bool.or_true])
  have hp := insW_perm_map (t := t) r.pm
  refine ⟨hp, insW_sorted r.so hwn, fun y hy => ?_, fun y hy => ?_, fun k hk => ?_, r.cb⟩
  · rcases insW_mem.1 hy with q | q
    · omega
    · exact r.po y q
  · rcases insW_mem.1 hy with q | q
    · omega
    · exact r.lt y q
  · rcases List.mem_append.1 hk with q | q
    · exact r.kb k q
    · rw [List.mem_singleton.1 q]; exact ht
theorem Alike.news {c t : Nat} {ks ws : List Nat} (r : Alike c ks ws) (ht : t < 4294967296) (hH : ¬ hasW c ws t = true) (h2 : ¬ 65535 < spanN c t) : ∃ X Y, settleN (ks.length + 1) c (ks ++ [t]) = X ∧ settleW (ws.length + 1) c (insW ws (spanN c t)) = Y ∧ X.1 = Y.1 ∧ Alike X.1 X.2 Y.2 := by
  have hs := (r.ins ht hH h2).settle (ks.length + 1)
  rw [r.len]
  exact ⟨_, _, rfl, rfl, hs⟩
theorem Alike.add {c t : Nat} {ks ws ds : List Nat} (r : Alike c ks ws) (ht : t < 4294967296) : (addN c ks ds t).1 = (addW c ws ds t).1 ∧ (addN c ks ds t).2.1 = (addW c ws ds t).2.1 ∧ (addN c ks ds t).2.2.2 = (addW c ws ds t).2.2.2 ∧ Alike (addN c ks ds t).2.1 (addN c ks ds t).2.2.1 (addW c ws ds t).2.2.1 := by
  have hh := r.has ht
  by_cases hH : hasW c ws t = true
  · rw [addN_has ds (hh.trans hH), addW_has ds hH]
    exact ⟨rfl, rfl, rfl, r⟩
  · have hN : ¬ hasN c ks t = true := by rw [hh]; exact hH
    by_cases h2 : 65535 < spanN c t
    · rw [addN_far ds hN h2, addW_far ds hH h2]
      exact ⟨rfl, rfl, rfl, r⟩
    · obtain ⟨X, Y, h3, h4, h5, h6⟩ := r.news ht hH h2
      rw [addN_new ds hN h2 h3, addW_new ds hH h2 h4]
      exact ⟨rfl, h5, rfl, h6⟩
theorem settleN_len : ∀ (n c : Nat) (ks : List Nat), (settleN n c ks).2.length ≤ ks.length
  | 0, c, ks => Nat.le_refl _
  | n + 1, c, ks => by
    unfold settleN
    split
    · exact Nat.le_trans (settleN_len n _ _) (List.length_erase_le)
    · exact Nat.le_refl _
theorem addN_len (c : Nat) (ks ds : List Nat) (t : Nat) : (addN c ks ds t).2.2.1.length ≤ ks.length + 1 := by
  by_cases h : hasN c ks t = true
  · rw [addN_has ds h]; exact Nat.le_succ _
  · by_cases h2 : 65535 < spanN c t
    · rw [addN_far ds h h2]; exact Nat.le_succ _
    · have := settleN_len (ks.length + 1) c (ks ++ [t])
      rw [addN_new ds h h2 rfl]
      generalize settleN (ks.length + 1) c (ks ++ [t]) = X at *
      rw [List.length_append] at this
      exact this
theorem addN_ds (c : Nat) (ks ds : List Nat) (t : Nat) (hd : ds.length ≤ 16) : (addN c ks ds t).2.2.2.length ≤ 16 := by
  by_cases h : hasN c ks t = true
  · rw [addN_has ds h]
    show (if ds.length < 16 then ds ++ [t] else ds).length ≤ 16
    split
    · rw [List.length_append]; simp only [List.length_cons, List.length_nil]; omega
    · exact hd
  · by_cases h2 : 65535 < spanN c t
    · rw [addN_far ds h h2]; exact hd
    · rw [addN_new ds h h2 rfl]; exact hd
theorem gfold_take : ∀ (ws : List Nat) (O : List (Nat × Nat)), (∀ w ∈ ws, 1 ≤ w ∧ w < 65536) → (∀ g ∈ O, g.2 < 65536) → gfold ws (O.take 64) = (ws.foldl ustep O).take 64 ∨ 64 < O.length
  | ws, O, hw, hO => by
    by_cases q : 64 < O.length
    · exact .inr q
    · refine .inl ?_
      rw [List.take_of_length_le (by omega)]
      exact gfold_all ws O hw hO (by omega)
where
  gfold_all : ∀ (ws : List Nat) (O : List (Nat × Nat)), (∀ w ∈ ws, 1 ≤ w ∧ w < 65536) → (∀ g ∈ O, g.2 < 65536) → O.length ≤ 64 → gfold ws O = (ws.foldl ustep O).take 64
  | [], O, _, _, hl => by rw [List.foldl_nil, List.take_of_length_le hl]; rfl
  | w :: ws, O, hw, hO, hl => by
    have w0 := hw w (by simp)
    have hws : ∀ w ∈ ws, 1 ≤ w ∧ w < 65536 := fun x hx => hw x (by simp [hx])
    rw [List.foldl_cons]
    rcases List.eq_nil_or_concat O with hn | ⟨init, ⟨s, e⟩, hn⟩
    · subst hn
      show gfold ws [(w, w)] = _
      exact gfold_all ws _ hws (fun g hg => by simp only [List.mem_singleton] at hg; rw [hg]; exact w0.2) (by simp)
    · rw [List.concat_eq_append] at hn
      subst hn
      have he : e < 65536 := hO (s, e) (by simp)
      have hg : ∀ g ∈ init, g.2 < 65536 := fun g hg => hO g (by simp [hg])
      unfold gfold
      rw [gstep_snoc, ustep_snoc]
      simp only
      by_cases hq : e + 1 = w
      · rw [if_pos hq, if_pos (by omega)]
        simp only
        refine gfold_all ws _ hws (fun g hg' => ?_) (by simpa using hl)
        rcases List.mem_append.1 hg' with z | z
        · exact hg g z
        · simp only [List.mem_singleton] at z; rw [z]; exact w0.2
      · rw [if_neg hq, if_neg (by omega)]
        by_cases h64 : init.length + 1 = 64
        · rw [if_pos h64]
          simp only
          have key : ∀ (l : List Nat) (X Y : List (Nat × Nat)), Y ≠ [] → ∃ Y', Y' ≠ [] ∧ l.foldl ustep (X ++ Y) = X ++ Y' := fun l => by
            induction l with
            | nil => exact fun X Y h => ⟨Y, h, rfl⟩
            | cons a l ih =>
              intro X Y h
              rw [List.foldl_cons]
              rcases List.eq_nil_or_concat Y with hY | ⟨yi, ⟨ys, ye⟩, hY⟩
              · exact absurd hY h
              · rw [List.concat_eq_append] at hY
                subst hY
                rw [← List.append_assoc, ustep_snoc]
                split
                · rw [List.append_assoc]; exact ih X _ (by simp)
                · rw [List.append_assoc, List.append_assoc]; exact ih X _ (by simp)
          obtain ⟨Y', -, e2⟩ := key ws (init ++ [(s, e)]) [(w, w)] (by simp)
          rw [e2, List.take_append_of_le_length (by simp; omega), List.take_of_length_le (by simp; omega)]
        · rw [if_neg h64]
          simp only
          refine gfold_all ws _ hws (fun g hg' => ?_) (by simp at hl ⊢; omega)
          rcases List.mem_append.1 hg' with z | z
          · exact hO g z
          · simp only [List.mem_singleton] at z; rw [z]; exact w0.2
theorem gaps_eq {ws : List Nat} (hw : ∀ w ∈ ws, 1 ≤ w ∧ w < 65536) : gfold ws [] = rgaps ws := gfold_take.gfold_all ws [] hw (fun g hg => by cases hg) (by simp)
theorem sorted_unique : ∀ {l k : List Int}, l.Perm k → l.Pairwise (· ≤ ·) → k.Pairwise (· ≤ ·) → l = k
  | [], k, hp, _, _ => (hp.nil_eq)
  | x :: l, k, hp, hl, hk => by
    cases k with
    | nil => exact absurd hp.length_eq (by simp)
    | cons y k =>
      have e : x = y := by
        have h1 : x ∈ y :: k := hp.mem_iff.1 (by simp)
        have h2 : y ∈ x :: l := hp.mem_iff.2 (by simp)
        have a : y ≤ x := by
          rcases List.mem_cons.1 h1 with q | q
          · omega
          · exact (List.pairwise_cons.1 hk).1 x q
        have b : x ≤ y := by
          rcases List.mem_cons.1 h2 with q | q
          · omega
          · exact (List.pairwise_cons.1 hl).1 y q
        omega
      subst e
      rw [sorted_unique hp.cons_inv (List.pairwise_cons.1 hl).2 (List.pairwise_cons.1 hk).2]
theorem Alike.sorted {c : Nat} {ks ws : List Nat} (r : Alike c ks ws) (D : Array Int) (hD : D.toList.Perm ((ks.map (wayN c)).map fun (n : Nat) => (n : Int))) : (sort ltInt D).toList = ws.map (fun (n : Nat) => (n : Int)) := by
  have e : ks.map (wayN c) = ks.map (spanN c) := List.map_congr_left fun k hk => Nat.mod_eq_of_lt (r.lt _ ((r.mem (r.kb k hk)).1 hk))
  rw [e] at hD
  have hp := hD.trans ((r.pm.map fun (n : Nat) => (n : Int)).symm)
  have hs := sortInt D.toList
  rw [Array.toArray_toList] at hs
  rw [hs]
  refine sorted_unique ((List.mergeSort_perm _ _).trans hp) ?_ (List.pairwise_map.2 (r.so.imp fun h => by omega))
  have := List.pairwise_mergeSort (le := fun x y : Int => decide (x ≤ y)) (fun a b c h1 h2 => by simp only [decide_eq_true_eq] at *; omega) (fun a b => by simp only [Bool.or_eq_true, decide_eq_true_eq]; omega) D.toList
  exact this.imp fun h => of_decide_eq_true h
end Go.Proofs.Ytfcfgmhcphmefaa
namespace Go.Proofs.Ytfcfgmhcphmefaa
open Go.Sort
set_option maxRecDepth 100000
attribute [local irreducible] Go GoR GoL
theorem GSet.kept {h h' : AHeap} {sb r cum : Nat} {ks : List Nat} {da : Option Addr} {dc : Nat} {ds : List Nat} {n0 : Nat} {wr : List Nat} (g : GSet h sb r cum ks da dc ds n0) (k : Keeps wr h h') (hn : ∀ j ∈ [sb, r] ++ blk da, j ∉ wr) : GSet h' sb r cum ks da dc ds n0 := { g with sc := k.get g.sc (hn _ (by simp)), mp := g.mp.keeps k (hn _ (by simp)), dv := g.dv.keeps k fun j hj => hn j (by simp [hj]) }
theorem RSet.kept {h h' : AHeap} {rb cum : Nat} {wa da : Option Addr} {wc dc : Nat} {ws ds : List Nat} {n0 : Nat} {wr : List Nat} (g : RSet h rb cum wa wc ws da dc ds n0) (k : Keeps wr h h') (hn : ∀ j ∈ [rb] ++ blk wa ++ blk da, j ∉ wr) : RSet h' rb cum wa wc ws da dc ds n0 := { g with sc := k.get g.sc (hn _ (by simp)), wv := g.wv.keeps k (fun j hj => hn j (by simp [hj])), dv := g.dv.keeps k fun j hj => hn j (by simp [hj]) }
theorem GSet.lts {h : AHeap} {sb r cum : Nat} {ks : List Nat} {da : Option Addr} {dc : Nat} {ds : List Nat} {n0 : Nat} (g : GSet h sb r cum ks da dc ds n0) : ∀ j ∈ [sb, r] ++ blk da, j < h.n := fun j hj => by
  simp only [List.cons_append, List.nil_append, List.mem_cons] at hj
  rcases hj with rfl | rfl | q
  · exact AHeap.lt g.sc
  · exact g.mp.lt
  · exact g.dv.lt j q
theorem GSet.owns {h : AHeap} {sb r cum : Nat} {ks : List Nat} {da : Option Addr} {dc : Nat} {ds : List Nat} {n0 : Nat} (g : GSet h sb r cum ks da dc ds n0) : ∀ j ∈ [sb, r] ++ blk da, n0 ≤ j := fun j hj => by
  simp only [List.cons_append, List.nil_append, List.mem_cons] at hj
  rcases hj with rfl | rfl | q
  · exact g.ow.1
  · exact g.ow.2.1
  · exact g.ow.2.2 j q
theorem RSet.lts {h : AHeap} {rb cum : Nat} {wa da : Option Addr} {wc dc : Nat} {ws ds : List Nat} {n0 : Nat} (g : RSet h rb cum wa wc ws da dc ds n0) : ∀ j ∈ [rb] ++ blk wa ++ blk da, j < h.n := fun j hj => by
  simp only [List.cons_append, List.nil_append, List.mem_cons, List.mem_append] at hj
  rcases hj with rfl | q | q
  · exact AHeap.lt g.sc
  · exact g.wv.lt j q
  · exact g.dv.lt j q
theorem RSet.owns {h : AHeap} {rb cum : Nat} {wa da : Option Addr} {wc dc : Nat} {ws ds : List Nat} {n0 : Nat} (g : RSet h rb cum wa wc ws da dc ds n0) : ∀ j ∈ [rb] ++ blk wa ++ blk da, n0 ≤ j := fun j hj => by
  simp only [List.cons_append, List.nil_append, List.mem_cons, List.mem_append] at hj
  rcases hj with rfl | q | q
  · exact g.ow.1
  · exact g.ow.2.1 j q
  · exact g.ow.2.2 j q
theorem apart_step {prot : List Nat} {sb r n : Nat} {da da' : Option Addr} (hp : ∀ j ∈ prot, j < n) (h : ∀ j ∈ prot, j ∉ [sb, r] ++ blk da) (hn : ∀ i ∈ blk da', i ∈ blk da ∨ n ≤ i) : ∀ j ∈ prot, j ∉ [sb, r] ++ blk da' := fun j hj hm => by
  have a := h j hj
  have b := hp j hj
  simp only [List.cons_append, List.nil_append, List.mem_cons, not_or] at a hm
  rcases hm with q | q | q
  · exact a.1 q
  · exact a.2.1 q
  · rcases hn j q with z | z
    · exact a.2.2 z
    · omega
theorem ggaps_spec (sb r cum : Nat) (ks : List Nat) (da : Option Addr) (dc : Nat) (ds : List Nat) (n0 : Nat) (ws : List Nat) (A : Alike cum ks ws) (hn : ks.length ≤ 1000000) (h : AHeap) (G : GSet h sb r cum ks da dc ds n0) : CallS Try.prog [] 18 [.pointer (some ⟨sb, 0, none⟩)] h fun v h' => ∃ a, v = .slice a (rgaps ws).length (rgaps ws).length ∧ Sv h' 49 2 a (rgaps ws).length (rgaps ws).length (gcs (rgaps ws)) ∧ Own h.n a := by
  obtain ⟨es, ck, g, e, st1, st2⟩ := G.mp
  have dlt := G.dv.lt
  have G' : GSt h sb r cum es ck ks da ds.length dc := ⟨G.sc, g, by have e' : es.toList.map (fun e => (e.key, e.val)) = kvs .u32 (dn32 ks) := e; rw [e']; simp [kvs, dn32], st1, st2, G.kb, G.cb, by
    cases da with
    | none =>
      obtain ⟨h0, h1⟩ : ds.length = 0 ∧ dc = 0 := by
        have hz := G.dv
        generalize u32s' ds = cs at hz
        generalize ds.length = len at hz ⊢
        cases hz
        exact ⟨rfl, rfl⟩
      rw [h0, h1]; rfl
    | some a =>
      obtain ⟨b, o, x⟩ := a
      show Nat.blt b h.n = true
      have := dlt b (by simp [blk])
      simpa [Nat.blt_eq] using this⟩
  have k := gaps_spec sb r cum es ck ks da ds.length dc hn h G' G.mp.lt ws A.lt A.sorted
  rw [gaps_eq fun w hw => ⟨A.po w hw, A.lt w hw⟩] at k
  exact k
theorem add_specE (sb r cum : Nat) (ks : List Nat) (da : Option Addr) (dc : Nat) (ds : List Nat) (n0 t : Nat) (ht : t < 4294967296) (hds : ds.length ≤ 16) (h : AHeap) (hn0 : n0 ≤ h.n) (G : GSet h sb r cum ks da dc ds n0) {code c' : Nat} {ks' ds' : List Nat} (hR : addN cum ks ds t = (code, c', ks', ds')) : CallS Try.prog ([sb, r] ++ blk da) 10 [.pointer (some ⟨sb, 0, none⟩), .int .u32 t] h fun v h' => v = .int .u8 (code : Nat) ∧ ∃ da' dc', GSet h' sb r c' ks' da' dc' ds' n0 ∧ ∀ i ∈ blk da', i ∈ blk da ∨ h.n ≤ i := by
  have k := add_spec sb r cum ks da dc ds n0 t ht hds h hn0 G
  rw [hR] at k
  exact k
theorem radd_specE (rb cum : Nat) (wa da : Option Addr) (wc dc : Nat) (ws ds : List Nat) (n0 t : Nat) (ht : t < 4294967296) (hds : ds.length ≤ 16) (hl : ws.length ≤ 65535) (hp : ∀ w ∈ ws, 1 ≤ w) (hs : ws.Pairwise (· < ·)) (h : AHeap) (hn0 : n0 ≤ h.n) (G : RSet h rb cum wa wc ws da dc ds n0) {code c' : Nat} {ws' ds' : List Nat} (hR : addW cum ws ds t = (code, c', ws', ds')) : CallS Try.prog ([rb] ++ blk da) 11 [.pointer (some ⟨rb, 0, none⟩), .int .u32 t] h fun v h' => v = .int .u8 (code : Nat) ∧ ∃ wa' wc' da' dc', RSet h' rb c' wa' wc' ws' da' dc' ds' n0 ∧ (∀ i ∈ blk da', i ∈ blk da ∨ h.n ≤ i) ∧ ∀ i ∈ blk wa', i ∈ blk wa ∨ h.n ≤ i := by
  have k := radd_spec rb cum wa da wc dc ws ds n0 t ht hds hl hp hs h hn0 G
  rw [hR] at k
  exact k
theorem aEq_ptrNN {P : Program} {h : AHeap} {t e : TypeId} (hu : P.underlying t = some (.pointer e)) : aEq P h t (.pointer none) (.pointer none) = some (true, []) := by
  unfold aEq
  rw [hu]
  rfl
set_option maxHeartbeats 4000000 in
theorem addNil (t : Nat) (h : AHeap) : CallS Try.prog [] 10 [.pointer none, .int .u32 t] h fun v h' => v = .int .u8 (2 : Nat) ∧ h' = h := by
  (refine CallS.of2 Try.func10 rfl Try.ntmps10 Try.results10 rfl ?_)
  (refine Go.run (g:=?_))
  refine GoR.eqRef rfl rfl rfl rfl (.inl rfl) rfl rfl (aEq_ptrNN setU) ?_
  (refine Go.run (g:=?_))
  (first|refine Go.finT (by first|exact .inr rfl|exact .inl rfl) rfl ?_|refine Go.fin1 (by first|exact .inr rfl|exact .inl rfl) rfl (hq:=?_))
  exact ⟨rfl, rfl⟩
set_option maxHeartbeats 4000000 in
theorem cumNil (h : AHeap) : CallS Try.prog [] 16 [.pointer none] h fun v h' => v = .int .u32 (0 : Nat) ∧ h' = h := by
  (refine CallS.of1 Try.func16 rfl Try.ntmps16 Try.results16 rfl ?_)
  (refine Go.run (g:=?_))
  refine GoR.eqRef rfl rfl rfl rfl (.inl rfl) rfl rfl (aEq_ptrNN setU) ?_
  (refine Go.run (g:=?_))
  (first|refine Go.finT (by first|exact .inr rfl|exact .inl rfl) rfl ?_|refine Go.fin1 (by first|exact .inr rfl|exact .inl rfl) rfl (hq:=?_))
  exact ⟨rfl, rfl⟩
set_option maxHeartbeats 4000000 in
theorem gapsNil (h : AHeap) : CallS Try.prog [] 18 [.pointer none] h fun v h' => v = .slice none 0 0 ∧ h' = h := by
  (refine CallS.of1 Try.func18 rfl Try.ntmps18 Try.results18 rfl ?_)
  (refine Go.run (g:=?_))
  refine GoR.eqRef rfl rfl rfl rfl (.inl rfl) rfl rfl (aEq_ptrNN setU) ?_
  (refine Go.run (g:=?_))
  (first|refine Go.finT (by first|exact .inr rfl|exact .inl rfl) rfl ?_|refine Go.fin1 (by first|exact .inr rfl|exact .inl rfl) rfl (hq:=?_))
  exact ⟨rfl, rfl⟩
set_option maxHeartbeats 4000000 in
theorem dupsNil (h : AHeap) : CallS Try.prog [] 13 [.pointer none] h fun v h' => v = .slice none 0 0 ∧ h' = h := by
  (refine CallS.of1 Try.func13 rfl Try.ntmps13 Try.results13 rfl ?_)
  (refine Go.run (g:=?_))
  refine GoR.eqRef rfl rfl rfl rfl (.inl rfl) rfl rfl (aEq_ptrNN setU) ?_
  (refine Go.run (g:=?_))
  (first|refine Go.finT (by first|exact .inr rfl|exact .inl rfl) rfl ?_|refine Go.fin1 (by first|exact .inr rfl|exact .inl rfl) rfl (hq:=?_))
  exact ⟨rfl, rfl⟩
set_option maxHeartbeats 4000000 in
theorem lenNil (h : AHeap) : CallS Try.prog [] 20 [.pointer none] h fun v h' => v = .int .i64 (0 : Nat) ∧ h' = h := by
  (refine CallS.of1 Try.func20 rfl Try.ntmps20 Try.results20 rfl ?_)
  (refine Go.run (g:=?_))
  refine GoR.eqRef rfl rfl rfl rfl (.inl rfl) rfl rfl (aEq_ptrNN setU) ?_
  (refine Go.run (g:=?_))
  (first|refine Go.finT (by first|exact .inr rfl|exact .inl rfl) rfl ?_|refine Go.fin1 (by first|exact .inr rfl|exact .inl rfl) rfl (hq:=?_))
  exact ⟨rfl, rfl⟩
set_option maxHeartbeats 4000000 in
theorem hasNil (t : Nat) (h : AHeap) : CallS Try.prog [] 21 [.pointer none, .int .u32 t] h fun v h' => v = .bool false ∧ h' = h := by
  (refine CallS.of2 Try.func21 rfl Try.ntmps21 Try.results21 rfl ?_)
  (refine Go.run (g:=?_))
  refine GoR.eqRef rfl rfl rfl rfl (.inl rfl) rfl rfl (aEq_ptrNN setU) ?_
  (refine Go.run (g:=?_))
  (first|refine Go.finT (by first|exact .inr rfl|exact .inl rfl) rfl ?_|refine Go.fin1 (by first|exact .inr rfl|exact .inl rfl) rfl (hq:=?_))
  exact ⟨rfl, rfl⟩
set_option maxHeartbeats 4000000 in
theorem nextNil (t : Nat) (h : AHeap) : CallS Try.prog [] 23 [.pointer none, .int .u32 t] h fun v h' => v = .bool false ∧ h' = h := by
  (refine CallS.of2 Try.func23 rfl Try.ntmps23 Try.results23 rfl ?_)
  (refine Go.run (g:=?_))
  refine GoR.eqRef rfl rfl rfl rfl (.inr rfl) rfl rfl (aEq_ptrNN setU) ?_
  (refine Go.run (g:=?_))
  (first|refine Go.finT (by first|exact .inr rfl|exact .inl rfl) rfl ?_|refine Go.fin1 (by first|exact .inr rfl|exact .inl rfl) rfl (hq:=?_))
  exact ⟨rfl, rfl⟩
set_option maxHeartbeats 4000000 in
theorem copyNil (h : AHeap) : CallS Try.prog [] 15 [.pointer none] h fun v h' => v = .pointer none ∧ h' = h := by
  (refine CallS.of1 Try.func15 rfl Try.ntmps15 Try.results15 rfl ?_)
  (refine Go.run (g:=?_))
  refine GoR.eqRef rfl rfl rfl rfl (.inl rfl) rfl rfl (aEq_ptrNN setU) ?_
  (refine Go.run (g:=?_))
  (first|refine Go.finT (by first|exact .inr rfl|exact .inl rfl) rfl ?_|refine Go.fin1 (by first|exact .inr rfl|exact .inl rfl) rfl (hq:=?_))
  exact ⟨rfl, rfl⟩
end Go.Proofs.Ytfcfgmhcphmefaa
namespace Go.Proofs.Ytfcfgmhcphmefaa
open Go.Sort
set_option maxRecDepth 100000
attribute [local irreducible] Go GoR GoL
theorem alikeA : Alike 10 [12, 13, 15] [2, 3, 5] := ⟨by decide +kernel, by decide, by decide, by decide, by decide, by decide⟩
theorem alikeB : Alike 13 [15] [2] := ⟨by decide +kernel, by decide, by decide, by decide, by decide, by decide⟩
set_option maxHeartbeats 64000000 in
theorem known08 (h : AHeap) : CallS Try.prog [] 8 [] h fun v h' => v = .bool true := by
  (refine CallS.of0 Try.func8 rfl Try.ntmps8 Try.results8 rfl ?_)
  (refine Go.run (g:=?_))
  refine GoR.call rfl rfl rfl rfl rfl rfl rfl (((gnew_spec 10 (by decide) _).argA).mono ?_)
  rintro _ h1 ⟨sb, r, rfl, G1⟩ s1
  have m1 := s1.1
  (refine Go.run (g:=?_))
  refine GoR.callW rfl rfl rfl rfl rfl rfl rfl (((add_specE sb r 10 [] none 0 [] h.n 12 (by decide) (by decide) _ m1 G1 (code := 0) (c' := 10) (ks' := [12]) (ds' := []) (by decide +kernel)).argA).mono ?_)
  rintro _ h2 ⟨rfl, da2, dc2, G2, -⟩ k2
  refine ⟨fun i hi => .inr (G1.owns i hi), ?_⟩
  have m2 := k2.1
  clear s1 k2
  (refine Go.run (g:=?_))
  refine GoR.callW rfl rfl rfl rfl rfl rfl rfl (((add_specE sb r 10 [12] da2 dc2 [] h.n 13 (by decide) (by decide) _ (by omega) G2 (code := 0) (c' := 10) (ks' := [12, 13]) (ds' := []) (by decide +kernel)).argA).mono ?_)
  rintro _ h3 ⟨rfl, da3, dc3, G3, -⟩ k3
  refine ⟨fun i hi => .inr (G2.owns i hi), ?_⟩
  have m3 := k3.1
  clear k3
  (refine Go.run (g:=?_))
  refine GoR.callW rfl rfl rfl rfl rfl rfl rfl (((add_specE sb r 10 [12, 13] da3 dc3 [] h.n 15 (by decide) (by decide) _ (by omega) G3 (code := 0) (c' := 10) (ks' := [12, 13, 15]) (ds' := []) (by decide +kernel)).argA).mono ?_)
  rintro _ h4 ⟨rfl, da4, dc4, G4, -⟩ k4
  refine ⟨fun i hi => .inr (G3.owns i hi), ?_⟩
  have m4 := k4.1
  clear k4
  (refine Go.run (g:=?_))
  refine GoR.call rfl rfl rfl rfl rfl rfl rfl (((ggaps_spec sb r 10 [12, 13, 15] da4 dc4 [] h.n [2, 3, 5] alikeA (by decide) _ G4).argA).mono ?_)
  rintro _ h5 ⟨a5, rfl, S5, O5⟩ s5
  have G5 := G4.same s5
  have m5 := s5.1
  (refine Go.run (g:=?_))
  refine GoR.buildO (c := [.int .u16 (2 : Nat), .int .u16 (3 : Nat), .int .u16 (5 : Nat), .int .u16 (5 : Nat)]) rfl rfl rfl rfl rfl (by decide) (by rfl) (by rfl) ?_
  intro b6 h6 S6 O6 s6 n6
  have G6 := G5.same s6
  have m6 := s6.1
  (refine Go.run (g:=?_))
  refine GoR.call rfl rfl rfl rfl rfl rfl rfl (((sameGaps_spec a5 b6 _ _ (rgaps [2, 3, 5]) [(2, 3), (5, 5)] (by decide) (by decide) _ (S5.same s6) S6).argA).mono ?_)
  rintro _ h7 ⟨rfl, rfl⟩ -
  rw [decide_eq_true (show rgaps [2, 3, 5] = [(2, 3), (5, 5)] by decide)]
  clear S5 S6 s5 s6 G5 G4 G3 G2 G1
  (refine Go.run (g:=?_))
  refine GoR.call rfl rfl rfl rfl rfl rfl rfl (((cum_spec sb r 10 [12, 13, 15] da4 dc4 [] h.n _ G6).argA).mono ?_)
  rintro _ h8 ⟨rfl, rfl⟩ -
  (refine Go.run (g:=?_))
  refine GoR.callW rfl rfl rfl rfl rfl rfl rfl (((add_specE sb r 10 [12, 13, 15] da4 dc4 [] h.n 11 (by decide) (by decide) _ (by omega) G6 (code := 0) (c' := 13) (ks' := [15]) (ds' := []) (by decide +kernel)).argA).mono ?_)
  rintro _ h9 ⟨rfl, da9, dc9, G9, -⟩ k9
  refine ⟨fun i hi => .inr (G6.owns i hi), ?_⟩
  have m9 := k9.1
  clear k9
  (refine Go.run (g:=?_))
  refine GoR.call rfl rfl rfl rfl rfl rfl rfl (((cum_spec sb r 13 [15] da9 dc9 [] h.n _ G9).argA).mono ?_)
  rintro _ h10 ⟨rfl, rfl⟩ -
  (refine Go.run (g:=?_))
  refine GoR.call rfl rfl rfl rfl rfl rfl rfl (((ggaps_spec sb r 13 [15] da9 dc9 [] h.n [2] alikeB (by decide) _ G9).argA).mono ?_)
  rintro _ h11 ⟨a11, rfl, S11, O11⟩ s11
  have G11 := G9.same s11
  have m11 := s11.1
  (refine Go.run (g:=?_))
  refine GoR.buildO (c := [.int .u16 (2 : Nat), .int .u16 (2 : Nat)]) rfl rfl rfl rfl rfl (by decide) (by rfl) (by rfl) ?_
  intro b12 h12 S12 O12 s12 n12
  have G12 := G11.same s12
  have m12 := s12.1
  (refine Go.run (g:=?_))
  refine GoR.call rfl rfl rfl rfl rfl rfl rfl (((sameGaps_spec a11 b12 _ _ (rgaps [2]) [(2, 2)] (by decide) (by decide) _ (S11.same s12) S12).argA).mono ?_)
  rintro _ h13 ⟨rfl, rfl⟩ -
  rw [decide_eq_true (show rgaps [2] = [(2, 2)] by decide)]
  clear S11 S12 s11 s12 G11 G9 G6
  (refine Go.run (g:=?_))
  refine GoR.callW rfl rfl rfl rfl rfl rfl rfl (((add_specE sb r 13 [15] da9 dc9 [] h.n 12 (by decide) (by decide) _ (by omega) G12 (code := 1) (c' := 13) (ks' := [15]) (ds' := [12]) (by decide +kernel)).argA).mono ?_)
  rintro _ h14 ⟨rfl, da14, dc14, G14, -⟩ k14
  refine ⟨fun i hi => .inr (G12.owns i hi), ?_⟩
  have m14 := k14.1
  clear k14
  (refine Go.run (g:=?_))
  refine GoR.callW rfl rfl rfl rfl rfl rfl rfl (((add_specE sb r 13 [15] da14 dc14 [12] h.n 15 (by decide) (by decide) _ (by omega) G14 (code := 1) (c' := 13) (ks' := [15]) (ds' := [12, 15]) (by decide +kernel)).argA).mono ?_)
  rintro _ h15 ⟨rfl, da15, dc15, G15, -⟩ k15
  refine ⟨fun i hi => .inr (G14.owns i hi), ?_⟩
  have m15 := k15.1
  clear k15
  (refine Go.run (g:=?_))
  refine GoR.callW rfl rfl rfl rfl rfl rfl rfl (((gdups_spec sb r 13 [15] da15 dc15 [12, 15] h.n _ G15).argA).mono ?_)
  rintro _ h16 ⟨rfl, G16, S16⟩ k16
  refine ⟨fun i hi => .inr (G15.owns i (by simp at hi; simp [hi])), ?_⟩
  have m16 := k16.1
  clear k16
  (refine Go.run (g:=?_))
  refine GoR.buildO (c := [.int .u32 (12 : Nat), .int .u32 (15 : Nat)]) rfl rfl rfl rfl rfl (by decide) (by rfl) (by rfl) ?_
  intro b17 h17 S17 O17 s17 n17
  have G17 := G16.same s17
  have m17 := s17.1
  (refine Go.run (g:=?_))
  refine GoR.call rfl rfl rfl rfl rfl rfl rfl (((sameTsns_spec da15 b17 _ _ [12, 15] [12, 15] (by decide) (by decide) _ (S16.same s17) S17).argA).mono ?_)
  rintro _ h18 ⟨rfl, rfl⟩ -
  rw [decide_eq_true rfl]
  clear S16 S17 s17 G16 G15 G14 G12
  (refine Go.run (g:=?_))
  refine GoR.callW rfl rfl rfl rfl rfl rfl rfl (((gdups_spec sb r 13 [15] none 0 [] h.n _ G17).argA).mono ?_)
  rintro _ h19 ⟨rfl, G19, -⟩ k19
  refine ⟨fun i hi => .inr (G17.owns i (by simp at hi; simp [hi])), ?_⟩
  have m19 := k19.1
  clear k19 G17
  (refine Go.run (g:=?_))
  refine GoR.callW rfl rfl rfl rfl rfl rfl rfl (((add_specE sb r 13 [15] none 0 [] h.n 65549 (by decide) (by decide) _ (by omega) G19 (code := 2) (c' := 13) (ks' := [15]) (ds' := []) (by decide +kernel)).argA).mono ?_)
  rintro _ h20 ⟨rfl, da20, dc20, G20, -⟩ k20
  refine ⟨fun i hi => .inr (G19.owns i hi), ?_⟩
  clear k20 G19
  (refine Go.run (g:=?_))
  refine GoR.call rfl rfl rfl rfl rfl rfl rfl (((has_spec sb r 13 [15] da20 dc20 [] h.n 15 (by decide) _ G20).argA).mono ?_)
  rintro _ h21 rfl s21
  have G21 := G20.same s21
  rw [show hasN 13 [15] 15 = true by decide +kernel]
  clear G20 s21
  (refine Go.run (g:=?_))
  refine GoR.call rfl rfl rfl rfl rfl rfl rfl (((has_spec sb r 13 [15] da20 dc20 [] h.n 14 (by decide) _ G21).argA).mono ?_)
  rintro _ h22 rfl s22
  have G22 := G21.same s22
  rw [show hasN 13 [15] 14 = false by decide +kernel]
  clear G21 s22
  (refine Go.run (g:=?_))
  refine GoR.call rfl rfl rfl rfl rfl rfl rfl (((gnext_spec sb r 13 [15] da20 dc20 [] h.n 14 (by decide) _ G22).argA).mono ?_)
  rintro _ h23 ⟨rfl, rfl⟩ -
  rw [decide_eq_true (show 14 = next32 13 by decide +kernel)]
  (refine Go.run (g:=?_))
  refine GoR.call rfl rfl rfl rfl rfl rfl rfl (((glen_spec sb r 13 [15] da20 dc20 [] h.n _ G22).argA).mono ?_)
  rintro _ h24 ⟨rfl, rfl⟩ -
  (refine Go.run (g:=?_))
  refine GoR.call rfl rfl rfl rfl rfl rfl rfl (((addNil 1 _).argA).mono ?_)
  rintro _ h25 ⟨rfl, rfl⟩ -
  (refine Go.run (g:=?_))
  refine GoR.call rfl rfl rfl rfl rfl rfl rfl (((cumNil _).argA).mono ?_)
  rintro _ h26 ⟨rfl, rfl⟩ -
  (refine Go.run (g:=?_))
  refine GoR.call rfl rfl rfl rfl rfl rfl rfl (((gapsNil _).argA).mono ?_)
  rintro _ h27 ⟨rfl, rfl⟩ -
  (refine Go.run (g:=?_))
  refine GoR.call rfl rfl rfl rfl rfl rfl rfl (((dupsNil _).argA).mono ?_)
  rintro _ h28 ⟨rfl, rfl⟩ -
  (refine Go.run (g:=?_))
  refine GoR.call rfl rfl rfl rfl rfl rfl rfl (((lenNil _).argA).mono ?_)
  rintro _ h29 ⟨rfl, rfl⟩ -
  (refine Go.run (g:=?_))
  refine GoR.call rfl rfl rfl rfl rfl rfl rfl (((hasNil 0 _).argA).mono ?_)
  rintro _ h30 ⟨rfl, rfl⟩ -
  (refine Go.run (g:=?_))
  refine GoR.call rfl rfl rfl rfl rfl rfl rfl (((nextNil 1 _).argA).mono ?_)
  rintro _ h31 ⟨rfl, rfl⟩ -
  (refine Go.run (g:=?_))
  refine GoR.call rfl rfl rfl rfl rfl rfl rfl (((copyNil _).argA).mono ?_)
  rintro _ h32 ⟨rfl, rfl⟩ -
  (refine Go.run (g:=?_))
  refine GoR.eqRef rfl rfl rfl rfl (.inl rfl) rfl rfl (aEq_ptrNN setU) ?_
  (refine Go.run (g:=?_))
  (first|refine Go.finT (by first|exact .inr rfl|exact .inl rfl) rfl ?_|refine Go.fin1 (by first|exact .inr rfl|exact .inl rfl) rfl (hq:=?_))
  rfl
end Go.Proofs.Ytfcfgmhcphmefaa
namespace Go.Proofs.Ytfcfgmhcphmefaa
open Go.Sort
set_option maxRecDepth 100000
attribute [local irreducible] Go GoR GoL
abbrev dcs (l : List (Int × Nat)) : List Value := (l.map fun x => [Value.int .i64 x.1, .int .u32 (x.2 : Nat)]).flatten
theorem dcs_len (l : List (Int × Nat)) : (dcs l).length = l.length * 2 := by
  induction l with
  | nil => rfl
  | cons x l ih => simp only [dcs, List.map_cons, List.flatten_cons, List.length_append, List.length_cons, List.length_nil] at ih ⊢; omega
theorem dcs_get : ∀ {l : List (Int × Nat)} {i : Nat} (hi : i < l.length), ((dcs l).drop (i * 2)).take 2 = [.int .i64 l[i].1, .int .u32 (l[i].2 : Nat)]
  | x :: l, 0, _ => rfl
  | x :: l, i + 1, hi => by
    have := dcs_get (l := l) (i := i) (by simpa using hi)
    rw [show (i + 1) * 2 = i * 2 + 1 + 1 by omega]
    exact this
def up32 (c k : Nat) : Nat := (c + k) % 4294967296
theorem up32_lt (c k : Nat) : up32 c k < 4294967296 := Nat.mod_lt _ (by decide)
theorem add32k (c k : Nat) : iBin .add .u32 (c : Int) (k : Nat) = some (.int .u32 ((up32 c k : Nat) : Int)) := by
  have q : ((up32 c k : Nat) : Int) = ((c : Int) + (k : Int)) % 4294967296 := by unfold up32; omega
  simp [iBin, IntKind.wrap, IntKind.bits, IntKind.signed, q]
structure P8 where
  i : Nat
  c : Nat
  ks : List Nat
  ws : List Nat
  ds : List Nat
  sb : Nat
  r : Nat
  da : Option Addr
  dc : Nat
  rb : Nat
  wa : Option Addr
  wc : Nat
  ea : Option Addr
  ec : Nat
  H : AHeap
structure P8.ok (x : P8) (h : AHeap) : Prop where
  s : GSet x.H x.sb x.r x.c x.ks x.da x.dc x.ds h.n
  t : RSet x.H x.rb x.c x.wa x.wc x.ws x.ea x.ec x.ds h.n
  al : Alike x.c x.ks x.ws
  kl : x.ks.length ≤ x.i
  dl : x.ds.length ≤ 16
  old : Same h x.H
  ap : ∀ j ∈ [x.rb] ++ blk x.wa ++ blk x.ea, j ∉ [x.sb, x.r] ++ blk x.da
theorem bothAdd {c t : Nat} {ks ws ds : List Nat} (al : Alike c ks ws) (ht : t < 4294967296) (hd : ds.length ≤ 16) : ∃ code c' ks' ws' ds', addN c ks ds t = (code, c', ks', ds') ∧ addW c ws ds t = (code, c', ws', ds') ∧ Alike c' ks' ws' ∧ ks'.length ≤ ks.length + 1 ∧ ds'.length ≤ 16 := by
  have h := al.add (ds := ds) ht
  have l1 := addN_len c ks ds t
  have l2 := addN_ds c ks ds t hd
  generalize addN c ks ds t = X at *
  generalize addW c ws ds t = Y at *
  obtain ⟨x1, x2, x3, x4⟩ := X
  obtain ⟨y1, y2, y3, y4⟩ := Y
  obtain ⟨e1, e2, e3, a⟩ := h
  simp only at e1 e2 e3 a l1 l2
  subst e1 e2 e3
  exact ⟨_, _, _, _, _, rfl, rfl, a, l1, l2⟩
theorem apart_step2 {rb n : Nat} {wa wa' ea ea' : Option Addr} {g : List Nat} (hg : ∀ j ∈ g, j < n) (h : ∀ j ∈ [rb] ++ blk wa ++ blk ea, j ∉ g) (h1 : ∀ i ∈ blk ea', i ∈ blk ea ∨ n ≤ i) (h2 : ∀ i ∈ blk wa', i ∈ blk wa ∨ n ≤ i) : ∀ j ∈ [rb] ++ blk wa' ++ blk ea', j ∉ g := fun j hj hm => by
  have l := hg j hm
  simp only [List.cons_append, List.nil_append, List.mem_cons, List.mem_append] at hj
  rcases hj with q | q | q
  · exact h j (by simp [q]) hm
  · rcases h2 j q with z | z
    · exact h j (by simp [z]) hm
    · omega
  · rcases h1 j q with z | z
    · exact h j (by simp [z]) hm
    · omega
theorem rgaps_le (ws : List Nat) : (rgaps ws).length ≤ 64 := by unfold rgaps; rw [List.length_take]; omega
theorem oldAdd (sb r c : Nat) (ks : List Nat) (da : Option Addr) (dc : Nat) (ds : List Nat) (n0 t : Nat) (ht : t < 4294967296) (hds : ds.length ≤ 16) (h : AHeap) (hn0 : n0 ≤ h.n) (G : GSet h sb r c ks da dc ds n0) (prot : List Nat) (hp : ∀ j ∈ prot, j < h.n) (ha : ∀ j ∈ prot, j ∉ [sb, r] ++ blk da) : CallS Try.prog ([sb, r] ++ blk da) 10 [.pointer (some ⟨sb, 0, none⟩), .int .u32 t] h fun v h' => ∃ code, v = .int .u8 (code : Nat) ∧ ∃ c' ks' da' dc' ds', GSet h' sb r c' ks' da' dc' ds' n0 ∧ ds'.length ≤ 16 ∧ (∀ j ∈ prot, j ∉ [sb, r] ++ blk da') ∧ (∀ j ∈ [sb, r] ++ blk da, n0 ≤ j) :=
  (add_spec sb r c ks da dc ds n0 t ht hds h hn0 G).mono fun v h' ⟨e, da', dc', g, hb⟩ => ⟨_, e, _, _, _, _, _, g, addN_ds c ks ds t hds, apart_step hp ha hb, G.owns⟩
set_option maxHeartbeats 64000000 in
theorem gapsPlays_spec (c : Nat) (hc : c < 4294967296) (l : List (Int × Nat)) (a : Option Addr) (cap : Nat) (ask : Nat) (hask : ask < 4294967296) (h : AHeap) (hz : Rv Try.prog h 2 a l.length cap (dcs l)) (hlb : ∀ x ∈ l, x.2 < 4294967296) : CallS Try.prog [] 3 [.int .u32 c, .slice a l.length cap, .int .u32 ask] h fun v h' => v = .bool true := by
  have hkn := known08 h
  (refine CallS.of3 Try.func3 rfl Try.ntmps3 Try.results3 rfl ?_)
  (refine Go.run (g:=?_))
  refine GoR.call rfl rfl rfl rfl rfl rfl rfl (((hkn).argA).mono ?_)
  rintro _ h1 rfl s1
  have m1 := s1.1
  rcases Nat.lt_or_ge 400 l.length with q | q
  · (refine Go.run (g:=?_))
    (first|refine Go.finT (by first|exact .inr rfl|exact .inl rfl) rfl ?_|refine Go.fin1 (by first|exact .inr rfl|exact .inl rfl) rfl (hq:=?_))
    rfl
  (refine Go.run (g:=?_))
  refine GoR.call rfl rfl rfl rfl rfl rfl rfl (((gnew_spec c hc _).argA).mono ?_)
  rintro _ h2 ⟨sb, r, rfl, G2⟩ s2
  have m2 := s2.1
  (refine Go.run (g:=?_))
  refine Go.name ?_
  intro h3 e3
  have s3 : Same h2 h3 := by subst e3; exact (Same.refl h2).push _
  have g3 : h3.get h2.n = some (.cells [.int .u32 c, .slice none 0 0, .slice none 0 0] 31) := by subst e3; exact AHeap.get_push_same _ _
  clear e3
  have R3 : RSet h3 h2.n c none 0 [] none 0 [] h.n := ⟨g3, Sv.nil, Sv.nil, (fun w q => by cases q), (fun w q => by cases q), hc, ⟨by simp [blk], by simp [blk], by simp [blk]⟩, ⟨by omega, Own.nil _, Own.nil _⟩⟩
  have G2' : GSet h2 sb r c [] none 0 [] h.n := { G2 with ow := ⟨by have := G2.ow.1; omega, by have := G2.ow.2.1; omega, Own.nil _⟩ }
  have lt2 := G2'.lts
  have ok0 : P8.ok ⟨0, c, [], [], [], sb, r, none, 0, h2.n, none, 0, none, 0, h3⟩ h := ⟨G2'.same s3, R3, Alike.start hc, Nat.le_refl _, Nat.zero_le _, (s1.trans s2).trans s3, fun j hj hm => by
    simp [blk] at hj
    have := lt2 j hm
    omega⟩
  clear G2 G2' g3 R3 lt2 s1 s2 s3 hkn
  refine Go.loop (α := P8) (fun x => [(24, .int .i64 x.i), (23, .int .i64 l.length), (22, .slice a l.length cap), (7, .pointer (some ⟨x.sb, 0, none⟩)), (8, .pointer (some ⟨x.rb, 0, none⟩)), (2, .int .u32 ask)]) (fun _ => []) (fun x => x.H) (fun x => x.i ≤ l.length ∧ x.ok h) (fun x => l.length - x.i) ⟨0, c, [], [], [], sb, r, none, 0, h2.n, none, 0, none, 0, h3⟩ ⟨Nat.zero_le _, ok0⟩ ⟨rfl, rfl, rfl, rfl, rfl, rfl, trivial⟩ rfl rfl ?_
  clear ok0
  rintro ⟨i, c, ks, ws, ds, sb, r, da, dc, rb, wa, wc, ea, ec, H⟩ ⟨hi, ok⟩
  simp only at hi ok ⊢
  obtain ⟨G, R, al, kl, dl, old, ap⟩ := ok
  simp only at G R al kl dl old ap
  have hHn := old.1
  rcases Nat.lt_or_ge i l.length with i0 | i0
  case inr =>
    have hie : i = l.length := by omega
    subst hie
    (refine Go.run (g:=?_))
    refine GoR.callW rfl rfl rfl rfl rfl rfl rfl (((gdups_spec sb r c ks da dc ds h.n _ G).argA).mono ?_)
    rintro _ h4 ⟨rfl, G4, D4⟩ k4
    refine ⟨fun j hj => .inr (G.owns j (by simp at hj; simp [hj])), ?_⟩
    have R4 := R.kept k4 (fun j hj hm => ap j hj (by simp at hm; simp [hm]))
    have lt4 := G4.lts
    (refine Go.run (g:=?_))
    refine GoR.callW rfl rfl rfl rfl rfl rfl rfl (((rtake_spec rb c wa ea wc ec ws ds h.n _ R4).argA).mono ?_)
    rintro _ h5 ⟨rfl, R5, E5⟩ k5
    refine ⟨fun j hj => .inr (R4.owns j (by simp at hj; simp [hj])), ?_⟩
    have D5 := D4.keeps k5 (fun j hj hm => by
      simp only [List.mem_singleton] at hm
      subst hm
      exact ap j (by simp) (by simp [hj]))
    (refine Go.run (g:=?_))
    refine GoR.call rfl rfl rfl rfl rfl rfl rfl (((sameTsns_spec da ea dc ec ds ds (by omega) (by omega) _ D5 E5).argA).mono ?_)
    rintro _ h6 ⟨rfl, rfl⟩ -
    rw [decide_eq_true rfl]
    (refine Go.run (g:=?_))
    (first|refine Go.finT (by first|exact .inr rfl|exact .inl rfl) rfl ?_|refine Go.fin1 (by first|exact .inr rfl|exact .inl rfl) rfl (hq:=?_))
    rfl
  have hz1 := hz.same old
  have c0 := dcs_get i0
  have hbe : i * 2 + 2 ≤ (dcs l).length := by rw [dcs_len]; omega
  have htb := hlb _ (List.getElem_mem i0)
  generalize l[i].1 = kind at *
  generalize l[i].2 = t at *
  have glt := G.lts
  have rlt := R.lts
  (refine Go.run (g:=?_))
  refine Go.name ?_
  intro H4 e4
  have s4 : Same H H4 := by subst e4; exact ((Same.refl H).push _).put (Nat.le_refl _) _
  have g4 : H4.get H.n = some (.cells [.int .i64 kind, .int .u32 (t : Nat)] 33) := by subst e4; exact AHeap.get_put_same _ (by simp) _
  have n4 : H4.n = H.n + 1 := by subst e4; rfl
  clear e4
  have G4 := G.same s4
  have R4 := R.same s4
  have old4 := old.trans s4
  clear G R old hz hz1
  refine Go.join2 (α := P8) (fun x => [(24, .int .i64 i), (23, .int .i64 l.length), (22, .slice a l.length cap), (7, .pointer (some ⟨x.sb, 0, none⟩)), (8, .pointer (some ⟨x.rb, 0, none⟩)), (2, .int .u32 ask), (10, .pointer (some ⟨H.n, 0, none⟩))]) (fun _ => []) (fun x => x.H) (fun x => x.i = i + 1 ∧ x.ok h ∧ x.H.get H.n = some (.cells [.int .i64 kind, .int .u32 (t : Nat)] 33)) ?_ ?_
  · by_cases k0 : kind = 0
    · subst k0
      obtain ⟨code, c', ks', ws', ds', hA, hB, al', kl', dl'⟩ := bothAdd al htb dl
      have wl := al.len
      (repeat (first|refine GoR.end ?_|(refine GoR.gd rfl ?_;first|refine GoR.wanted' rfl rfl rfl rfl (g:=?_)|refine GoR.unwanted' rfl rfl rfl rfl (hd:=rfl) (hN:=rfl) (g:=?_)|refine GoR.unwantedU rfl rfl rfl rfl rfl rfl ?_)|(refine GoR.kk 0 rfl ?_;first|refine GoR.move rfl rfl rfl rfl rfl ?_|refine GoR.assign rfl rfl rfl rfl rfl ?_)|(refine GoR.kk 1 rfl ?_;first|refine GoR.load' rfl rfl rfl rfl rfl (g:=?_)|refine GoR.loadA' rfl rfl rfl rfl rfl (hv:=rfl) (g:=?_)|refine GoR.loadV' rfl rfl rfl rfl rfl (g:=?_)|refine GoR.loadVN' rfl rfl rfl rfl rfl (g:=?_))|(refine GoR.kk 2 rfl ?_;first|refine GoR.store' rfl rfl rfl rfl rfl (hl:=rfl) (h1:=rfl) (h3:=rfl) (g:=?_))|(refine GoR.kk 3 rfl ?_;first|refine GoR.fieldAddr rfl rfl rfl rfl rfl ?_|refine GoR.indexN' rfl rfl rfl rfl rfl rfl (g:=?_)|refine GoR.indexNs' rfl rfl rfl rfl rfl rfl (g:=?_)|refine GoR.indexV' rfl rfl rfl rfl rfl rfl (g:=?_)|refine GoR.indexA' rfl rfl rfl rfl rfl rfl (g:=?_)|refine GoR.fieldV' rfl rfl rfl rfl rfl (g:=?_))|(refine GoR.kk 4 rfl ?_;first|refine GoR.eq rfl rfl rfl rfl rfl rfl ?_|refine GoR.ne rfl rfl rfl rfl rfl rfl ?_|refine GoR.lt rfl rfl rfl rfl rfl rfl ?_|refine GoR.le rfl rfl rfl rfl rfl rfl ?_|refine GoR.gt rfl rfl rfl rfl rfl rfl ?_|refine GoR.ge rfl rfl rfl rfl rfl rfl ?_|refine GoR.addN' rfl rfl rfl rfl rfl rfl (g:=?_)|refine GoR.subN' rfl rfl rfl rfl rfl rfl (g:=?_)|refine GoR.add' rfl rfl rfl rfl rfl rfl (g:=?_)|refine GoR.sub' rfl rfl rfl rfl rfl rfl (g:=?_)|refine GoR.addM' rfl rfl rfl rfl rfl rfl (g:=?_)|refine GoR.subM' rfl rfl rfl rfl rfl rfl (g:=?_)|refine GoR.mulM' rfl rfl rfl rfl rfl rfl (g:=?_)|refine GoR.shrN rfl rfl rfl rfl rfl rfl rfl ?_|refine GoR.structEq rfl rfl rfl rfl rfl rfl (by rfl) (by rfl) ?_|refine GoR.structNe rfl rfl rfl rfl rfl rfl (by rfl) (by rfl) ?_|refine GoR.strEq rfl rfl rfl rfl rfl rfl ?_|refine GoR.strNe rfl rfl rfl rfl rfl rfl ?_|refine GoR.remN' rfl rfl rfl rfl rfl rfl (g:=?_)|refine GoR.quoN' rfl rfl rfl rfl rfl rfl (g:=?_)|refine GoR.shlN' rfl rfl rfl rfl rfl rfl rfl (g:=?_)|refine GoR.orN' rfl rfl rfl rfl rfl rfl (g:=?_))|(refine GoR.kk 5 rfl ?_;first|refine GoR.len rfl rfl rfl rfl rfl ?_|refine GoR.lenStr rfl rfl rfl rfl rfl ?_|refine GoR.capB rfl rfl rfl rfl rfl ?_)|(refine GoR.kk 7 rfl ?_;first|refine GoR.pickE' rfl rfl rfl rfl rfl (hx:=rfl) (hy:=rfl) (g:=?_)|refine GoR.pickN' rfl rfl rfl rfl rfl (hx:=rfl) (hy:=rfl) (g:=?_)|refine GoR.pickB rfl rfl rfl rfl rfl rfl rfl ?_)|(refine GoR.kk 8 rfl ?_;first|refine GoR.boxA rfl rfl rfl rfl rfl ?_|refine GoR.boxS rfl rfl rfl rfl rfl rfl ?_|refine GoR.alloc rfl rfl rfl rfl ?_)|(refine GoR.kk 9 rfl ?_;first|refine GoR.strV' rfl rfl rfl rfl rfl (g:=?_)|refine GoR.conv_u8 rfl rfl rfl rfl rfl ?_|refine GoR.convW' rfl rfl rfl rfl rfl (g:=?_)|refine GoR.conv_u16 rfl rfl rfl rfl rfl ?_|refine GoR.conv_u32 rfl rfl rfl rfl rfl ?_)|(refine GoR.kk 10 rfl ?_;first|refine GoR.build' rfl rfl rfl rfl rfl rfl (g:=?_))|(refine GoR.kk 11 rfl ?_;first|refine GoR.extract rfl rfl rfl rfl rfl rfl ?_|refine GoR.not rfl rfl rfl rfl rfl ?_|refine GoR.nilCheck rfl rfl rfl rfl rfl ?_|refine GoR.nilCheckF rfl rfl rfl rfl rfl ?_|refine GoR.makeFunc rfl rfl rfl rfl rfl rfl ?_)|(refine Go.kk 0 rfl ?_;refine Go.seq ?_)|(refine Go.kk 1 rfl ?_;refine Go.region (by kernel_rfl) rfl ?_)|(refine Go.kk 3 rfl ?_;first|refine Go.cond_t' rfl (g:=?_)|refine Go.cond_f' rfl (g:=?_))|(refine Go.kk 4 rfl ?_;refine Go.block ?_)|(refine Go.kk 5 rfl ?_;first|refine Go.skip ?_|refine Go.ret ?_|refine Go.exit ?_|refine Go.scope ?_)|refine Go.leave_normal ?_|refine Go.leave_same ?_|refine Go.leave_ret ?_|refine Go.ret_code ?_|refine Go.exit_code ?_|refine Go.leave_other rfl ?_|refine Go.sc_normal ?_|refine Go.sc_ret ?_|refine Go.sc_exit ?_|refine Go.exit_back ?_|refine Go.ret_back ?_))
      refine Go.kk 2 rfl ?_
      refine Go.loud (by kernel_rfl) rfl ?_
      (refine Go.runL (g:=?_))
      refine GoL.call rfl rfl rfl rfl rfl rfl rfl (((add_specE sb r c ks da dc ds h.n t htb dl _ (by omega) G4 hA).argA).mono ?_)
      rintro _ h5 ⟨rfl, da5, dc5, G5, b5⟩ k5
      refine ⟨fun j hj => .inr (G4.owns j hj), ?_⟩
      have m5 := k5.1
      have R5 := R4.kept k5 ap
      have g5 := k5.get g4 (fun q => by have := glt _ q; omega)
      have old5 := old4.own k5 G4.owns
      have ap5 := apart_step R4.lts ap b5
      (refine Go.runL (g:=?_))
      refine GoL.call rfl rfl rfl rfl rfl rfl rfl (((radd_specE rb c wa ea wc ec ws ds h.n t htb dl (by omega) al.po al.so _ (by omega) R5 hB).argA).mono ?_)
      rintro _ h6 ⟨rfl, wa6, wc6, ea6, ec6, R6, b6, b6'⟩ k6
      refine ⟨fun j hj => .inr (R5.owns j (by simp only [List.cons_append, List.nil_append, List.mem_cons, List.mem_append] at hj ⊢; rcases hj with q | q; exact .inl q; exact .inr (.inr q))), ?_⟩
      have sub2 : ∀ j ∈ [rb] ++ blk ea, j ∈ [rb] ++ blk wa ++ blk ea := fun j hj => by simp only [List.cons_append, List.nil_append, List.mem_cons, List.mem_append] at hj ⊢; rcases hj with q | q; exact .inl q; exact .inr (.inr q)
      have G6 := G5.kept k6 (fun j hj hm => ap5 j (sub2 j hm) hj)
      have g6 := k6.get g5 (fun q => by have := rlt _ (sub2 _ q); omega)
      have old6 := old5.own k6 (fun j hj => R5.owns j (sub2 j hj))
      have ap6 := apart_step2 G5.lts ap5 b6 b6'
      have hdis : ∀ b ∈ [sb, r] ++ blk da, b ≠ H.n := fun b hb => by have := glt b hb; omega
      have hdis2 : ∀ b ∈ [rb] ++ blk ea, b ≠ H.n := fun b hb => by have := rlt b (sub2 b hb); omega
      (refine Go.runL (g:=?_))
      refine GoL.end_ (hl := by (simp only [List.nil_append, List.cons_append]); repeat (first | exact loudP.nil | refine loudP.none ?_ | refine loudP.new (fun _ hb => absurd hb List.not_mem_nil) ?_ | refine loudP.row (by repeat (first | exact loudRowP.nil | refine loudRowP.none ?_ | refine loudRowP.bef (by decide +kernel) ?_ | refine loudRowP.apart (by first | exact .inl rfl | exact .inr (by simp)) rfl (fun i hi => by first | (have hx := hdis _ hi; first | (simp; fail_if_success focus skip) | (simp; omega)) | (have hx := hdis2 _ hi; first | (simp; fail_if_success focus skip) | (simp; omega))) ?_)) ?_)) ?_
      clear hdis hdis2
      (refine Go.run (g:=?_))
      exact Go.joined ⟨i + 1, c', ks', ws', ds', sb, r, da5, dc5, rb, wa6, wc6, ea6, ec6, h6⟩ ⟨rfl, ⟨G6, R6, al', by simp only; omega, dl', old6, ap6⟩, g6⟩ ⟨rfl, rfl, rfl, rfl, rfl, rfl, rfl, trivial⟩ rfl rfl
    by_cases k1 : kind = 1
    · subst k1
      (refine Go.run (g:=?_))
      refine GoR.callW rfl rfl rfl rfl rfl rfl rfl (((gdups_spec sb r c ks da dc ds h.n _ G4).argA).mono ?_)
      rintro _ h5 ⟨rfl, G5, D5⟩ k5
      refine ⟨fun j hj => .inr (G4.owns j (by simp at hj; simp [hj])), ?_⟩
      have m5 := k5.1
      have R5 := R4.kept k5 (fun j hj hm => ap j hj (by simp at hm; simp [hm]))
      have g5 := k5.get g4 (fun q => by have := glt H.n (by simp at q; simp [q]); omega)
      have old5 := old4.own k5 (fun j hj => G4.owns j (by simp at hj; simp [hj]))
      (refine Go.run (g:=?_))
      refine GoR.callW rfl rfl rfl rfl rfl rfl rfl (((rtake_spec rb c wa ea wc ec ws ds h.n _ R5).argA).mono ?_)
      rintro _ h6 ⟨rfl, R6, E6⟩ k6
      refine ⟨fun j hj => .inr (R5.owns j (by simp at hj; simp [hj])), ?_⟩
      have hrb : rb ∉ [sb, r] ++ blk da := ap rb (by simp)
      have D6 := D5.keeps k6 (fun j hj hm => by
        simp only [List.mem_singleton] at hm
        subst hm
        exact hrb (by simp [hj]))
      have G6 := G5.kept k6 (fun j hj hm => by
        simp only [List.mem_singleton] at hm
        subst hm
        simp only [blk, List.append_nil] at hj
        exact hrb (List.mem_append_left _ hj))
      have g6 := k6.get g5 (fun q => by have := rlt H.n (by simp at q; simp [q]); omega)
      have old6 := old5.own k6 (fun j hj => R5.owns j (by simp at hj; simp [hj]))
      (refine Go.run (g:=?_))
      refine GoR.call rfl rfl rfl rfl rfl rfl rfl (((sameTsns_spec da ea dc ec ds ds (by omega) (by omega) _ D6 E6).argA).mono ?_)
      rintro _ h7 ⟨rfl, rfl⟩ -
      rw [decide_eq_true rfl]
      (refine Go.run (g:=?_))
      exact Go.joined ⟨i + 1, c, ks, ws, [], sb, r, none, 0, rb, wa, wc, none, 0, h7⟩ ⟨rfl, ⟨G6, R6, al, by simp only; omega, Nat.zero_le _, old6, fun j hj hm => by
        simp only [blk, List.append_nil] at hj hm
        exact ap j (by simp only [List.mem_append] at hj ⊢; exact .inl hj) (List.mem_append_left _ hm)⟩, g6⟩ ⟨rfl, rfl, rfl, rfl, rfl, rfl, rfl, trivial⟩ rfl rfl
    by_cases k2 : kind = 2
    · subst k2
      (refine Go.run (g:=?_))
      refine GoR.call rfl rfl rfl rfl rfl rfl rfl (((gcopy_spec sb r c ks da dc ds h.n dl _ G4).argA).mono ?_)
      rintro _ h5 ⟨sb', r', da', dc', rfl, N5⟩ s5
      have m5 := s5.1
      have G5 := G4.same s5
      have nlt := N5.lts
      have now := N5.owns
      obtain ⟨prot, hprot⟩ : ∃ p, p = ([sb', r'] ++ blk da') ++ ([rb] ++ blk wa ++ blk ea) ++ [H.n] := ⟨_, rfl⟩
      have me1 : ∀ j ∈ [sb', r'] ++ blk da', j ∈ prot := fun j hj => by rw [hprot]; exact List.mem_append_left _ (List.mem_append_left _ hj)
      have me2 : ∀ j ∈ [rb] ++ blk wa ++ blk ea, j ∈ prot := fun j hj => by rw [hprot]; exact List.mem_append_left _ (List.mem_append_right _ hj)
      have me3 : H.n ∈ prot := by rw [hprot]; simp
      have hp5 : ∀ j ∈ prot, j < h5.n := fun j hj => by
        rw [hprot] at hj
        rcases List.mem_append.1 hj with hj | hj
        · rcases List.mem_append.1 hj with hj | hj
          · exact nlt j hj
          · have := rlt j hj; omega
        · simp only [List.mem_singleton] at hj; omega
      have ha5 : ∀ j ∈ prot, j ∉ [sb, r] ++ blk da := fun j hj hm => by
        have hg := glt j hm
        rw [hprot] at hj
        rcases List.mem_append.1 hj with hj | hj
        · rcases List.mem_append.1 hj with hj | hj
          · have := now j hj; omega
          · exact ap j hj hm
        · simp only [List.mem_singleton] at hj; omega
      clear hprot
      have step : ∀ {X Y : AHeap} {wr : List Nat}, (GSet X sb' r' c ks da' dc' ds H4.n ∧ RSet X rb c wa wc ws ea ec ds h.n ∧ X.get H.n = some (.cells [.int .i64 2, .int .u32 (t : Nat)] 33) ∧ Same h X) → Keeps wr X Y → (∀ j ∈ prot, j ∉ wr) → (∀ j ∈ wr, h.n ≤ j) → (GSet Y sb' r' c ks da' dc' ds H4.n ∧ RSet Y rb c wa wc ws ea ec ds h.n ∧ Y.get H.n = some (.cells [.int .i64 2, .int .u32 (t : Nat)] 33) ∧ Same h Y) := fun ⟨x1, x2, x3, x4⟩ k p o => ⟨x1.kept k fun j hj => p j (me1 j hj), x2.kept k fun j hj => p j (me2 j hj), k.get x3 (p _ me3), x4.own k o⟩
      have P5 : GSet h5 sb' r' c ks da' dc' ds H4.n ∧ RSet h5 rb c wa wc ws ea ec ds h.n ∧ h5.get H.n = some (.cells [.int .i64 2, .int .u32 (t : Nat)] 33) ∧ Same h h5 := ⟨N5, R4.same s5, s5.get g4, old4.trans s5⟩
      have wl := al.len
      clear s5 N5 R4 g4 old4 G4
      (refine Go.run (g:=?_))
      refine GoR.eqRef rfl rfl rfl rfl (.inl rfl) rfl rfl (aEq_ptrNil setU _) ?_
      (refine Go.run (g:=?_))
      refine GoR.call rfl rfl rfl rfl rfl rfl rfl (((cum_spec sb r c ks da dc ds h.n _ G5).argA).mono ?_)
      rintro _ h6 ⟨rfl, rfl⟩ -
      (refine Go.run (g:=?_))
      refine GoR.bin rfl rfl rfl rfl rfl rfl (add32k c 1) ?_
      (refine Go.run (g:=?_))
      refine GoR.callW rfl rfl rfl rfl rfl rfl rfl (((oldAdd sb r c ks da dc ds h.n (up32 c 1) (up32_lt _ _) dl _ (by omega) G5 prot hp5 ha5).argA).mono ?_)
      rintro _ h7 ⟨code7, rfl, c7, ks7, da7, dc7, ds7, G7, dl7, ha7, -⟩ k7
      refine ⟨fun j hj => .inr (G5.owns j hj), ?_⟩
      have P7 := step P5 k7 ha5 G5.owns
      have m7 := k7.1
      have hp7 : ∀ j ∈ prot, j < h7.n := fun j hj => by have := hp5 j hj; omega
      clear k7 G5 P5
      (refine Go.run (g:=?_))
      refine GoR.call rfl rfl rfl rfl rfl rfl rfl (((cum_spec sb r c7 ks7 da7 dc7 ds7 h.n _ G7).argA).mono ?_)
      rintro _ h8 ⟨rfl, rfl⟩ -
      (refine Go.run (g:=?_))
      refine GoR.bin rfl rfl rfl rfl rfl rfl (add32k c7 3) ?_
      (refine Go.run (g:=?_))
      refine GoR.callW rfl rfl rfl rfl rfl rfl rfl (((oldAdd sb r c7 ks7 da7 dc7 ds7 h.n (up32 c7 3) (up32_lt _ _) dl7 _ (by omega) G7 prot hp7 ha7).argA).mono ?_)
      rintro _ h9 ⟨code9, rfl, c9, ks9, da9, dc9, ds9, G9, dl9, ha9, -⟩ k9
      refine ⟨fun j hj => .inr (G7.owns j hj), ?_⟩
      have P9 := step P7 k9 ha7 G7.owns
      have m9 := k9.1
      have hp9 : ∀ j ∈ prot, j < h9.n := fun j hj => by have := hp7 j hj; omega
      clear k9 G7 P7
      (refine Go.run (g:=?_))
      refine GoR.call rfl rfl rfl rfl rfl rfl rfl (((cum_spec sb r c9 ks9 da9 dc9 ds9 h.n _ G9).argA).mono ?_)
      rintro _ h10 ⟨rfl, rfl⟩ -
      (refine Go.run (g:=?_))
      refine GoR.callW rfl rfl rfl rfl rfl rfl rfl (((oldAdd sb r c9 ks9 da9 dc9 ds9 h.n c9 G9.cb dl9 _ (by omega) G9 prot hp9 ha9).argA).mono ?_)
      rintro _ h11 ⟨code11, rfl, c11, ks11, da11, dc11, ds11, G11, dl11, ha11, -⟩ k11
      refine ⟨fun j hj => .inr (G9.owns j hj), ?_⟩
      have P11 := step P9 k11 ha9 G9.owns
      clear k11 G9 P9
      (refine Go.run (g:=?_))
      refine GoR.callW rfl rfl rfl rfl rfl rfl rfl (((gdups_spec sb r c11 ks11 da11 dc11 ds11 h.n _ G11).argA).mono ?_)
      rintro _ h12 ⟨rfl, -, -⟩ k12
      refine ⟨fun j hj => .inr (G11.owns j (by simp at hj; simp [hj])), ?_⟩
      obtain ⟨GN, RN, gN, oldN⟩ := step P11 k12 (fun j hj hm => ha11 j hj (by simp at hm; simp [hm])) (fun j hj => G11.owns j (by simp at hj; simp [hj]))
      clear k12 G11 P11
      (refine Go.run (g:=?_))
      have hle : h.n ≤ H4.n := by omega
      have GN' : GSet h12 sb' r' c ks da' dc' ds h.n := { GN with ow := ⟨Nat.le_trans hle GN.ow.1, Nat.le_trans hle GN.ow.2.1, fun j hj => Nat.le_trans hle (GN.ow.2.2 j hj)⟩ }
      exact Go.joined ⟨i + 1, c, ks, ws, ds, sb', r', da', dc', rb, wa, wc, ea, ec, h12⟩ ⟨rfl, ⟨GN', RN, al, by simp only; omega, dl, oldN, fun j hj hm => by have := rlt j hj; have := now j hm; omega⟩, gN⟩ ⟨rfl, rfl, rfl, rfl, rfl, rfl, rfl, trivial⟩ rfl rfl
    (refine Go.run (g:=?_))
    exact Go.joined ⟨i + 1, c, ks, ws, ds, sb, r, da, dc, rb, wa, wc, ea, ec, H4⟩ ⟨rfl, ⟨G4, R4, al, by simp only; omega, dl, old4, ap⟩, g4⟩ ⟨rfl, rfl, rfl, rfl, rfl, rfl, rfl, trivial⟩ rfl rfl
  clear G4 R4 al ap old4 g4 kl dl glt rlt s4
  rintro ⟨i', c, ks, ws, ds, sb, r, da, dc, rb, wa, wc, ea, ec, H5⟩ ⟨hi', ok5, g5⟩
  simp only at hi' ok5 g5 ⊢
  subst hi'
  have ok5' := ok5
  obtain ⟨G, R, al, kl, dl, old, ap⟩ := ok5
  simp only at G R al kl dl old ap
  have hlen := al.len
  have hgl := rgaps_le ws
  (refine Go.run (g:=?_))
  refine GoR.call rfl rfl rfl rfl rfl rfl rfl (((cum_spec sb r c ks da dc ds h.n _ G).argA).mono ?_)
  rintro _ h6 ⟨rfl, rfl⟩ -
  have gr6 := R.sc
  (refine Go.run (g:=?_))
  refine GoR.call rfl rfl rfl rfl rfl rfl rfl (((ggaps_spec sb r c ks da dc ds h.n ws al (by omega) _ G).argA).mono ?_)
  rintro _ h7 ⟨a7, rfl, S7, -⟩ s7
  have G7 := G.same s7
  have R7 := R.same s7
  have g7 := s7.get g5
  have old7 := old.trans s7
  clear gr6
  (refine Go.run (g:=?_))
  refine GoR.call rfl rfl rfl rfl rfl rfl rfl (((rgaps_spec rb c wa ea wc ec ws ds h.n (by omega) _ R7).argA).mono ?_)
  rintro _ h8 ⟨a8, c8, rfl, S8, -⟩ s8
  (refine Go.run (g:=?_))
  refine GoR.call rfl rfl rfl rfl rfl rfl rfl (((sameGaps_spec a7 a8 _ _ (rgaps ws) (rgaps ws) (by omega) (by omega) _ (S7.same s8) S8).argA).mono ?_)
  rintro _ h9 ⟨rfl, rfl⟩ -
  rw [decide_eq_true rfl]
  have G8 := G7.same s8
  have R8 := R7.same s8
  have g8 := s8.get g7
  have old8 := old7.trans s8
  clear S7 S8 G R G7 R7 g5 g7 s7 s8 old old7
  (refine Go.run (g:=?_))
  refine GoR.call rfl rfl rfl rfl rfl rfl rfl (((glen_spec sb r c ks da dc ds h.n _ G8).argA).mono ?_)
  rintro _ h10 ⟨rfl, rfl⟩ -
  have gr10 := R8.sc
  (refine Go.run (g:=?_))
  refine GoR.call rfl rfl rfl rfl rfl rfl rfl (((has_spec sb r c ks da dc ds h.n t htb _ G8).argA).mono ?_)
  rintro _ h11 rfl s11
  have G11 := G8.same s11
  have R11 := R8.same s11
  have g11 := s11.get g8
  have old11 := old8.trans s11
  rw [al.has htb]
  clear gr10 G8 R8 g8 old8 s11
  (refine Go.run (g:=?_))
  refine GoR.call rfl rfl rfl rfl rfl rfl rfl (((rhas_spec rb c wa ea wc ec ws ds h.n t htb (by omega) _ R11).argA).mono ?_)
  rintro _ h12 rfl s12
  have G12 := G11.same s12
  have R12 := R11.same s12
  have old12 := old11.trans s12
  clear G11 R11 g11 old11 s12
  generalize hasW c ws t = b at *
  (refine Go.run (g:=?_))
  refine GoR.boolNe rfl rfl rfl rfl rfl rfl (by kernel_rfl) ?_
  rw [show (!(b == b)) = false by simp]
  (refine Go.run (g:=?_))
  refine GoR.call rfl rfl rfl rfl rfl rfl rfl (((has_spec sb r c ks da dc ds h.n ask hask _ G12).argA).mono ?_)
  rintro _ h13 rfl s13
  have G13 := G12.same s13
  have R13 := R12.same s13
  have old13 := old12.trans s13
  rw [al.has hask]
  clear G12 R12 old12 s13
  (refine Go.run (g:=?_))
  refine GoR.call rfl rfl rfl rfl rfl rfl rfl (((rhas_spec rb c wa ea wc ec ws ds h.n ask hask (by omega) _ R13).argA).mono ?_)
  rintro _ h14 rfl s14
  have G14 := G13.same s14
  have R14 := R13.same s14
  have old14 := old13.trans s14
  clear G13 R13 old13 s14
  generalize hasW c ws ask = b2 at *
  (refine Go.run (g:=?_))
  refine GoR.boolNe rfl rfl rfl rfl rfl rfl (by kernel_rfl) ?_
  rw [show (!(b2 == b2)) = false by simp]
  (refine Go.run (g:=?_))
  refine GoR.call rfl rfl rfl rfl rfl rfl rfl (((gnext_spec sb r c ks da dc ds h.n ask hask _ G14).argA).mono ?_)
  rintro _ h15 ⟨rfl, rfl⟩ -
  have gr15 := R14.sc
  (refine Go.run (g:=?_))
  refine GoR.bin rfl rfl rfl rfl rfl rfl (add32 c) ?_
  (refine Go.run (g:=?_))
  have hbb : decide (ask = next32 c) = decide ((ask : Int) = (next32 c : Nat)) := decide_eq_decide.2 ⟨fun e => by omega, fun e => by omega⟩
  have hbn : (!(decide (ask = next32 c) == decide ((ask : Int) = (next32 c : Nat)))) = false := by rw [hbb, beq_self_eq_true]; rfl
  refine GoR.boolNe rfl rfl rfl rfl rfl rfl (by kernel_rfl) ?_
  rw [hbn]
  (refine Go.run (g:=?_))
  exact Go.again ⟨i + 1, c, ks, ws, ds, sb, r, da, dc, rb, wa, wc, ea, ec, _⟩ ⟨i0, G14, R14, al, kl, dl, old14, ap⟩ (by simp only; omega) ⟨rfl, rfl, rfl, rfl, rfl, rfl, trivial⟩ rfl rfl
end Go.Proofs.Ytfcfgmhcphmefaa
namespace Go.Proofs.Ytfcfgmhcphmefaa
set_option maxRecDepth 100000
open Go.ChangeShapes Go.WideShapes Go.ChangeAt Go.RowKit
theorem tInt8 : Try.prog.underlying 3 = some (.int .i64) := by kernel_rfl
theorem tU32 : Try.prog.underlying 22 = some (.int .u32) := by kernel_rfl
theorem tDos : Try.prog.underlying 23 = some (.slice 33) := by kernel_rfl
theorem plainDos : plainB Try.prog 4 23 = true := by kernel_rfl
theorem cells_of8 {α : Type} {f : α → List Value} {sz : Nat} : ∀ (len : Nat) (c : List Value), c.length = len * sz → (∀ i, i < len → ∃ x, (c.drop (i * sz)).take sz = f x) → ∃ l : List α, l.length = len ∧ c = (l.map f).flatten
  | 0, c, hl, _ => ⟨[], rfl, by simpa using hl⟩
  | n + 1, c, hl, each => by
    obtain ⟨x, e⟩ := each 0 (by omega)
    rw [Nat.zero_mul, List.drop_zero] at e
    obtain ⟨l, i1, i2⟩ := cells_of8 (f := f) (sz := sz) n (c.drop sz) (by rw [List.length_drop, hl, Nat.add_mul]; omega) fun i hi => by
      have := each (i + 1) (by omega)
      rwa [Nat.add_mul, Nat.one_mul, Nat.add_comm, ← List.drop_drop] at this
    exact ⟨x :: l, by simp [i1], by rw [List.map_cons, List.flatten_cons, ← e, ← i2, List.take_append_drop]⟩
abbrev N32 := {n : Nat // n < 4294967296}
theorem n32_of {n : Int} (w : (Lit.int .u32 n).wf = true) : ∃ k : N32, n = (k.1 : Nat) := by
  simp [Lit.wf, IntKind.wrap, IntKind.bits, IntKind.signed, IntKind.min, IntKind.max] at w
  exact ⟨⟨n.toNat, by omega⟩, by simp only; omega⟩
theorem do_of {h : AHeap} {H : Type} {cs : List Value} {d : DataW H} (r : ARd Try.prog h 33 cs d) : ∃ x : Int × N32, cs = [.int .i64 x.1, .int .u32 (x.2.1 : Nat)] := by
  obtain ⟨hl, hf⟩ := r.field Try.underlying33
  rw [show Try.prog.cellsOf 33 = 2 from by kernel_rfl] at hl
  match cs, hl with
  | [c0, c1], _ =>
    obtain ⟨d0, r0⟩ := hf 0 3 0 1 rfl (by kernel_rfl)
    obtain ⟨d1, r1⟩ := hf 1 22 1 1 rfl (by kernel_rfl)
    obtain ⟨n, e0, -⟩ := r0.int_inv tInt8
    obtain ⟨k, e1, w⟩ := r1.int_inv tU32
    obtain ⟨k', rfl⟩ := n32_of w
    simp at e0 e1
    subst e0 e1
    exact ⟨(n, k'), rfl⟩
section
variable {H : Type} {enc : TypeId × Value → H} {W : World} {m : Mp} {h : AHeap} {base : Nat} {v : Value} {d : DataW H} {ps : List MemPlace}
theorem imp_dos (o : Value.okWide Try.prog W .any base 23 v) (ht : DataW.Trod enc Try.prog W 0 (fun _ => true) true 23 v d ps) (I : Im Try.prog W m h) :
    ∃ m' h', Im Try.prog W m' h' ∧ m.le m' ∧ Same h h' ∧ ∃ (a : Option Addr) (cap : Nat) (l : List (Int × Nat)), VRel m' (.slice a l.length cap) v ∧ Rv Try.prog h' 2 a l.length cap (dcs l) ∧ ∀ x ∈ l, x.2 < 4294967296 := by
  obtain ⟨a0, l0, c0, rfl⟩ := okWide_slice tDos o
  obtain ⟨m', h', cs, I', hm, hs, hA, hR, hl⟩ := imp_val plainDos ht I
  obtain ⟨x, rfl, hv⟩ := vrel_one hA (by rw [hl]; kernel_rfl) rfl
  obtain ⟨a, len, cap, c, e, hz, -, hel⟩ := hR.slice_inv tDos
  cases e
  rw [show Try.prog.cellsOf 33 = 2 from by kernel_rfl] at hz hel
  obtain ⟨l, rfl, rfl⟩ := cells_of8 (f := fun x : Int × N32 => [.int .i64 x.1, .int .u32 (x.2.1 : Nat)]) len c hz.length fun i hi => let ⟨d', r⟩ := hel i hi; do_of r
  refine ⟨m', h', I', hm, hs, a, cap, l.map fun x => (x.1, x.2.1), by rw [List.length_map]; exact hv, ?_, fun x hx => ?_⟩
  · rw [List.length_map]
    show Rv _ _ _ _ _ _ (((l.map fun x => (x.1, x.2.1)).map fun x : Int × Nat => [Value.int .i64 x.1, .int .u32 (x.2 : Nat)]).flatten)
    rw [List.map_map]
    exact hz
  · obtain ⟨y, -, rfl⟩ := List.mem_map.1 hx
    exact y.2.2
end
end Go.Proofs.Ytfcfgmhcphmefaa
namespace Go.Proofs.Ytfcfgmhcphmefaa
open Go.ChangeShapes Go.WideShapes Go.ChangeAt Go.RowKit
set_option maxRecDepth 100000
theorem gapsPlaysWalk {H : Type} {enc : TypeId × Value → H} {base : Nat} {d1 : DataW H} {p1 : List MemPlace} (a0 : Int) (v1 : Value) (a2 : Int) (W : World) (w0 : (Lit.int .u32 a0).wf = true) (o1 : Value.okWide Try.prog W .any base 23 v1) (h1 : DataW.Trod enc Try.prog W 0 (fun _ => true) true 23 v1 d1 p1) (w2 : (Lit.int .u32 a2).wf = true) : Calls Try.prog 3 #[.int .u32 a0, v1, .int .u32 a2] W fun e w' => e = .returned (.bool true) ∧ Below W.heap.size W w' := by
  obtain ⟨m, h, I, _, _, a, cap, l, hv, hz, hb⟩ := imp_dos o1 h1 (Im.empty Try.prog W)
  obtain ⟨c, rfl⟩ := n32_of w0
  obtain ⟨ask, rfl⟩ := n32_of w2
  refine calls_imp noGlobals I rfl (gapsPlays_spec c.1 c.2 l a cap ask.1 ask.2 h hz hb) ?_
  exact (((ARel.single (.int _ _)).push hv).push (.int _ _))
end Go.Proofs.Ytfcfgmhcphmefaa