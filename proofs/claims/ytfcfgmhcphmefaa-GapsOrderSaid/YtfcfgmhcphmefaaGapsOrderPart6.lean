/- What the law leans on, part 6. No conditions. -/
import Derived.Sort.AssemblyPlain
import Derived.ProofKit
import Derived.OpenShut
import Derived.ChangeOld
import Derived.Test.YtfcfgmhcphmefaaGapsOrderPart5
set_option linter.unusedVariables false
set_option linter.unusedSimpArgs false
namespace Go.Proofs.Ytfcfgmhcphmefaa
open Go.Sort
set_option maxRecDepth 100000
attribute [local irreducible] Go GoR GoL
def spanN (a b : Nat) : Nat := (b + 4294967296 - a) % 4294967296
theorem sub32 (a b : Nat) (ha : a < 4294967296) (hb : b < 4294967296) : iBin .sub .u32 (b : Int) (a : Int) = some (.int .u32 ((spanN a b : Nat) : Int)) := by
  have e : ((spanN a b : Nat) : Int) = ((b : Int) - (a : Int)) % 4294967296 := by unfold spanN; omega
  simp [iBin, IntKind.wrap, IntKind.bits, IntKind.signed, e]
theorem span_lt (a b : Nat) : spanN a b < 4294967296 := Nat.mod_lt _ (by decide)
set_option maxHeartbeats 4000000 in
theorem span_spec (a b : Nat) (ha : a < 4294967296) (hb : b < 4294967296) (h : AHeap) : CallS Try.prog [] 38 [.int .u32 a, .int .u32 b] h fun v h' => v = .int .u32 (spanN a b : Nat) ∧ h' = h := by
  have hs := sub32 a b ha hb
  generalize spanN a b = s at *
  (refine CallS.of2 Try.func38 rfl Try.ntmps38 Try.results38 rfl ?_)
  (iterate 8 (first|refine GoR.end ?_|(refine GoR.gd rfl ?_;first|refine GoR.wanted' rfl rfl rfl rfl (g:=?_)|refine GoR.unwanted' rfl rfl rfl rfl (hd:=rfl) (hN:=rfl) (g:=?_)|refine GoR.unwantedU rfl rfl rfl rfl rfl rfl ?_)|(refine GoR.kk 0 rfl ?_;first|refine GoR.move rfl rfl rfl rfl rfl ?_|refine GoR.assign rfl rfl rfl rfl rfl ?_)|(refine GoR.kk 1 rfl ?_;first|refine GoR.load' rfl rfl rfl rfl rfl (g:=?_)|refine GoR.loadA' rfl rfl rfl rfl rfl (hv:=rfl) (g:=?_)|refine GoR.loadV' rfl rfl rfl rfl rfl (g:=?_)|refine GoR.loadVN' rfl rfl rfl rfl rfl (g:=?_))|(refine GoR.kk 2 rfl ?_;first|refine GoR.store' rfl rfl rfl rfl rfl (hl:=rfl) (h1:=rfl) (h3:=rfl) (g:=?_))|(refine GoR.kk 3 rfl ?_;first|refine GoR.fieldAddr rfl rfl rfl rfl rfl ?_|refine GoR.indexN' rfl rfl rfl rfl rfl rfl (g:=?_)|refine GoR.indexNs' rfl rfl rfl rfl rfl rfl (g:=?_)|refine GoR.indexV' rfl rfl rfl rfl rfl rfl (g:=?_)|refine GoR.indexA' rfl rfl rfl rfl rfl rfl (g:=?_)|refine GoR.fieldV' rfl rfl rfl rfl rfl (g:=?_))|(refine GoR.kk 4 rfl ?_;first|refine GoR.eq rfl rfl rfl rfl rfl rfl ?_|refine GoR.ne rfl rfl rfl rfl rfl rfl ?_|refine GoR.lt rfl rfl rfl rfl rfl rfl ?_|refine GoR.le rfl rfl rfl rfl rfl rfl ?_|refine GoR.gt rfl rfl rfl rfl rfl rfl ?_|refine GoR.ge rfl rfl rfl rfl rfl rfl ?_|refine GoR.addN' rfl rfl rfl rfl rfl rfl (g:=?_)|refine GoR.subN' rfl rfl rfl rfl rfl rfl (g:=?_)|refine GoR.add' rfl rfl rfl rfl rfl rfl (g:=?_)|refine GoR.sub' rfl rfl rfl rfl rfl rfl (g:=?_)|refine GoR.addM' rfl rfl rfl rfl rfl rfl (g:=?_)|refine GoR.subM' rfl rfl rfl rfl rfl rfl (g:=?_)|refine GoR.mulM' rfl rfl rfl rfl rfl rfl (g:=?_)|refine GoR.shrN rfl rfl rfl rfl rfl rfl rfl ?_|refine GoR.structEq rfl rfl rfl rfl rfl rfl (by rfl) (by rfl) ?_|refine GoR.structNe rfl rfl rfl rfl rfl rfl (by rfl) (by rfl) ?_|refine GoR.strEq rfl rfl rfl rfl rfl rfl ?_|refine GoR.strNe rfl rfl rfl rfl rfl rfl ?_|refine GoR.remN' rfl rfl rfl rfl rfl rfl (g:=?_)|refine GoR.quoN' rfl rfl rfl rfl rfl rfl (g:=?_)|refine GoR.shlN' rfl rfl rfl rfl rfl rfl rfl (g:=?_)|refine GoR.orN' rfl rfl rfl rfl rfl rfl (g:=?_))|(refine GoR.kk 5 rfl ?_;first|refine GoR.len rfl rfl rfl rfl rfl ?_|refine GoR.lenStr rfl rfl rfl rfl rfl ?_|refine GoR.capB rfl rfl rfl rfl rfl ?_)|(refine GoR.kk 7 rfl ?_;first|refine GoR.pickE' rfl rfl rfl rfl rfl (hx:=rfl) (hy:=rfl) (g:=?_)|refine GoR.pickN' rfl rfl rfl rfl rfl (hx:=rfl) (hy:=rfl) (g:=?_)|refine GoR.pickB rfl rfl rfl rfl rfl rfl rfl ?_)|(refine GoR.kk 8 rfl ?_;first|refine GoR.boxA rfl rfl rfl rfl rfl ?_|refine GoR.boxS rfl rfl rfl rfl rfl rfl ?_|refine GoR.alloc rfl rfl rfl rfl ?_)|(refine GoR.kk 9 rfl ?_;first|refine GoR.strV' rfl rfl rfl rfl rfl (g:=?_)|refine GoR.conv_u8 rfl rfl rfl rfl rfl ?_|refine GoR.convW' rfl rfl rfl rfl rfl (g:=?_)|refine GoR.conv_u16 rfl rfl rfl rfl rfl ?_|refine GoR.conv_u32 rfl rfl rfl rfl rfl ?_)|(refine GoR.kk 10 rfl ?_;first|refine GoR.build' rfl rfl rfl rfl rfl rfl (g:=?_))|(refine GoR.kk 11 rfl ?_;first|refine GoR.extract rfl rfl rfl rfl rfl rfl ?_|refine GoR.not rfl rfl rfl rfl rfl ?_|refine GoR.nilCheck rfl rfl rfl rfl rfl ?_|refine GoR.nilCheckF rfl rfl rfl rfl rfl ?_|refine GoR.makeFunc rfl rfl rfl rfl rfl rfl ?_)|(refine Go.kk 0 rfl ?_;refine Go.seq ?_)|(refine Go.kk 1 rfl ?_;refine Go.region (by kernel_rfl) rfl ?_)|(refine Go.kk 2 rfl ?_;refine Go.drawnQ rfl (by kernel_rfl) rfl ?_)|(refine Go.kk 3 rfl ?_;first|refine Go.cond_t' rfl (g:=?_)|refine Go.cond_f' rfl (g:=?_))|(refine Go.kk 4 rfl ?_;refine Go.block ?_)|(refine Go.kk 5 rfl ?_;first|refine Go.skip ?_|refine Go.ret ?_|refine Go.exit ?_|refine Go.scope ?_)|refine Go.leave_normal ?_|refine Go.leave_same ?_|refine Go.leave_ret ?_|refine Go.ret_code ?_|refine Go.exit_code ?_|refine Go.leave_other rfl ?_|refine Go.sc_normal ?_|refine Go.sc_ret ?_|refine Go.sc_exit ?_|refine Go.exit_back ?_|refine Go.ret_back ?_))
  refine GoR.bin rfl rfl rfl rfl rfl rfl hs ?_
  (refine Go.run (g:=?_))
  (first|refine Go.finT (by first|exact .inr rfl|exact .inl rfl) rfl ?_|refine Go.fin1 (by first|exact .inr rfl|exact .inl rfl) rfl (hq:=?_))
  exact ⟨rfl, rfl⟩
def wayN (cum k : Nat) : Nat := spanN cum k % 65536
def gstep (out : List (Nat × Nat)) (w : Nat) : Option (List (Nat × Nat)) :=
  match out.getLast? with
  | some (s, e) => if (e + 1) % 65536 = w then some (out.dropLast ++ [(s, w)]) else if out.length = 64 then none else some (out ++ [(w, w)])
  | none => some (out ++ [(w, w)])
def gfold : List Nat → List (Nat × Nat) → List (Nat × Nat)
  | [], out => out
  | w :: l, out => match gstep out w with
    | some o => gfold l o
    | none => out
abbrev gcs (l : List (Nat × Nat)) : List Value := (l.map fun x => [Value.int .u16 x.1, .int .u16 x.2]).flatten
theorem gcs_len (l : List (Nat × Nat)) : (gcs l).length = l.length * 2 := by
  induction l with
  | nil => rfl
  | cons x l ih => simp only [gcs, List.map_cons, List.flatten_cons, List.length_append, List.length_cons, List.length_nil] at ih ⊢; omega
theorem gcs_snoc (l : List (Nat × Nat)) (x : Nat × Nat) : gcs (l ++ [x]) = gcs l ++ [.int .u16 x.1, .int .u16 x.2] := by simp [gcs]
theorem gcs_last (l : List (Nat × Nat)) (x : Nat × Nat) : (gcs (l ++ [x]))[l.length * 2 + 1]? = some (.int .u16 x.2) := by
  rw [gcs_snoc, List.getElem?_append_right (by rw [gcs_len]; omega), gcs_len, Nat.add_sub_cancel_left]; rfl
theorem gcs_setLast (l : List (Nat × Nat)) (x : Nat × Nat) (w : Nat) : (gcs (l ++ [x])).set (l.length * 2 + 1) (.int .u16 w) = gcs (l ++ [(x.1, w)]) := by
  rw [gcs_snoc, gcs_snoc, List.set_append_right _ _ (by rw [gcs_len]; omega), gcs_len, Nat.add_sub_cancel_left]; rfl
theorem gstep_nil (w : Nat) : gstep [] w = some [(w, w)] := rfl
theorem gstep_snoc (l : List (Nat × Nat)) (x : Nat × Nat) (w : Nat) : gstep (l ++ [x]) w = if (x.2 + 1) % 65536 = w then some (l ++ [(x.1, w)]) else if l.length + 1 = 64 then none else some (l ++ [x] ++ [(w, w)]) := by
  unfold gstep
  simp
theorem add16 (e : Nat) (he : e < 65536) : iBin .add .u16 (e : Int) ((1 : Nat) : Int) = some (.int .u16 (((e + 1) % 65536 : Nat) : Int)) := by
  have q : (((e + 1) % 65536 : Nat) : Int) = ((e : Int) + 1) % 65536 := by omega
  simp [iBin, IntKind.wrap, IntKind.bits, IntKind.signed]
structure GSt (h : AHeap) (sb r : Nat) (cum : Nat) (es : Array MapEntry) (ck : Nat) (ks : List Nat) (da : Option Addr) (dl dc : Nat) : Prop where
  sc : h.get sb = some (.cells [.int .u32 cum, .map (some r), .slice da dl dc] 83)
  mp : h.get r = some (.map es ck)
  ky : es.toList.map (fun e => (e.key, e.val)) = ks.map fun (k : Nat) => (Value.int .u32 (k : Int), Value.agg #[])
  bo : ∀ e ∈ es.toList, e.born < ck
  nd : (es.toList.map (·.born)).Nodup
  kb : ∀ k ∈ ks, k < 4294967296
  cb : cum < 4294967296
  dw : low h.n (.slice da dl dc) = true
def keyN (e : MapEntry) : Nat := match e.key with
  | .int _ n => n.toNat
  | _ => 0
theorem GSt.entry {h : AHeap} {sb r cum ck : Nat} {es : Array MapEntry} {ks : List Nat} {da : Option Addr} {dl dc : Nat} (g : GSt h sb r cum es ck ks da dl dc) {e : MapEntry} (he : e ∈ es.toList) : e.key = .int .u32 (keyN e : Nat) ∧ e.val = .agg #[] ∧ keyN e < 4294967296 := by
  have h1 : (e.key, e.val) ∈ es.toList.map (fun e => (e.key, e.val)) := List.mem_map_of_mem he
  rw [g.ky] at h1
  obtain ⟨k, hk, e1⟩ := List.mem_map.1 h1
  simp only [Prod.mk.injEq] at e1
  have hkn : keyN e = k := by unfold keyN; rw [← e1.1]; rfl
  exact ⟨by rw [hkn]; exact e1.1.symm, e1.2.symm, by have := g.kb k hk; rw [← hkn] at this; exact this⟩
theorem GSt.keys {h : AHeap} {sb r cum ck : Nat} {es : Array MapEntry} {ks : List Nat} {da : Option Addr} {dl dc : Nat} (g : GSt h sb r cum es ck ks da dl dc) : es.toList.map keyN = ks := by
  have h1 := congrArg (List.map fun x : Value × Value => match x.1 with | .int _ n => n.toNat | _ => 0) g.ky
  rw [List.map_map, List.map_map] at h1
  have e2 : ks.map ((fun x : Value × Value => match x.1 with | .int _ n => n.toNat | _ => 0) ∘ fun (k : Nat) => (Value.int .u32 (k : Int), Value.agg #[])) = ks := by
    rw [show ((fun x : Value × Value => match x.1 with | .int _ n => n.toNat | _ => 0) ∘ fun k : Nat => (Value.int .u32 (k : Int), Value.agg #[])) = id from funext fun k => rfl]
    simp
  rw [e2] at h1
  exact h1
theorem aEq_ptrNil {P : Program} {h : AHeap} {t e : TypeId} (hu : P.underlying t = some (.pointer e)) (a : Addr) : aEq P h t (.pointer (some a)) (.pointer none) = some (false, []) := by
  unfold aEq
  rw [hu]
theorem setU : Try.prog.underlying 25 = some (.pointer 83) := by kernel_rfl
theorem aheadU : Try.prog.underlying 81 = some (.map 22 85) := by kernel_rfl
def remE (es : List MapEntry) (seen : List Nat) : Nat := es.countP fun e => !seen.contains e.born
theorem remE_lt {seen : List Nat} {e : MapEntry} (hs : e.born ∉ seen) : ∀ {es : List MapEntry}, e ∈ es → remE es (seen ++ [e.born]) < remE es seen
  | x :: l, he => by
    have mono : ∀ l : List MapEntry, remE l (seen ++ [e.born]) ≤ remE l seen := fun l => by
      unfold remE
      refine List.countP_mono_left fun y _ hy => ?_
      simp only [Bool.not_eq_true', List.contains_eq_mem, decide_eq_false_iff_not, List.mem_append, not_or] at hy ⊢
      exact hy.1
    unfold remE at mono ⊢
    rw [List.countP_cons, List.countP_cons]
    rcases List.mem_cons.1 he with rfl | he
    · have h1 : (!(seen ++ [e.born]).contains e.born) = false := by simp
      have h2 : (!seen.contains e.born) = true := by simpa using hs
      rw [h1, h2]
      have := mono l
      simp only [Bool.false_eq_true, if_false, if_true]
      omega
    · have ih := remE_lt hs he
      unfold remE at ih
      have h3 : (if (!(seen ++ [e.born]).contains x.born) = true then 1 else 0) ≤ (if (!seen.contains x.born) = true then 1 else 0) := by
        split
        · rename_i hy
          rw [if_pos]
          · exact Nat.le_refl _
          · simp only [Bool.not_eq_true', List.contains_eq_mem, decide_eq_false_iff_not, List.mem_append, not_or] at hy ⊢
            exact hy.1
        · exact Nat.zero_le _
      omega
theorem nodup_of_map {α β : Type} (f : α → β) : ∀ {l : List α}, (l.map f).Nodup → l.Nodup
  | [], _ => .nil
  | x :: l, h => by
    rw [List.map_cons, List.nodup_cons] at h
    exact List.nodup_cons.2 ⟨fun hx => h.1 (List.mem_map_of_mem hx), nodup_of_map f h.2⟩
theorem inj_of_map {α β : Type} (f : α → β) : ∀ {l : List α}, (l.map f).Nodup → ∀ x ∈ l, ∀ y ∈ l, f x = f y → x = y
  | z :: l, h, x, hx, y, hy, e => by
    rw [List.map_cons, List.nodup_cons] at h
    rcases List.mem_cons.1 hx with h1 | h1
    · rcases List.mem_cons.1 hy with h2 | h2
      · rw [h1, h2]
      · exact absurd (by rw [← h1, e]; exact List.mem_map_of_mem h2) h.1
    · rcases List.mem_cons.1 hy with h2 | h2
      · exact absurd (by rw [← h2, ← e]; exact List.mem_map_of_mem h1) h.1
      · exact inj_of_map f h.2 x h1 y h2 e
abbrev wcs (cum : Nat) (L : List MapEntry) : List Value := L.map fun e => Value.int .u16 (wayN cum (keyN e) : Nat)
theorem dOf (w : MapEntry → Nat) (L : List MapEntry) : ∃ D : Array Int, D.toList = (L.map w).map (fun (n : Nat) => (n : Int)) ∧ D.size = L.length ∧ ksU D = L.map fun e => Value.int .u16 (w e : Nat) :=
  ⟨((L.map w).map fun (n : Nat) => (n : Int)).toArray, by simp, by simp, by simp [ksU]⟩
theorem permOf (f : MapEntry → Nat) (g : Nat → Nat) {L : List MapEntry} {ks : List Nat} (hp : (L.map f).Perm ks) : ((L.map fun e => g (f e)).map fun (n : Nat) => (n : Int)).Perm ((ks.map g).map fun (n : Nat) => (n : Int)) := by
  have := hp.map g
  rw [List.map_map] at this
  exact this.map _
set_option maxHeartbeats 32000000 in
theorem gaps_spec (sb r cum : Nat) (es : Array MapEntry) (ck : Nat) (ks : List Nat) (da : Option Addr) (dl dc : Nat) (hn : ks.length ≤ 1000000) (h : AHeap) (G : GSt h sb r cum es ck ks da dl dc) (hr : r < h.n) (S : List Nat) (hSb : ∀ w ∈ S, w < 65536) (hS : ∀ D : Array Int, D.toList.Perm ((ks.map (wayN cum)).map fun (n : Nat) => (n : Int)) → (sort ltInt D).toList = S.map (fun (n : Nat) => (n : Int))) :
    CallS Try.prog [] 18 [.pointer (some ⟨sb, 0, none⟩)] h fun v h' => ∃ a, v = .slice a (gfold S []).length (gfold S []).length ∧ Sv h' 49 2 a (gfold S []).length (gfold S []).length (gcs (gfold S [])) ∧ Own h.n a := by
  have hsb := AHeap.lt G.sc
  refine CallS.ofOpen (ov := [(0, .pointer (some ⟨sb, 0, none⟩))]) noGlobals [sb, r] Try.func18 rfl Try.ntmps18 Try.results18 rfl rfl (by kernel_rfl) ?_ ?_ ?_ ?_ ?_
  · intro x hx
    obtain ⟨y, hy, hxy⟩ := List.mem_flatten.1 hx
    obtain ⟨g, hg, rfl⟩ := List.mem_map.1 hy
    simp only [List.mem_cons, List.not_mem_nil, or_false] at hxy
    rcases hxy with rfl | rfl <;> rfl
  · exact gcs_len _
  · intro i hi o ho
    simp only [List.mem_cons, List.not_mem_nil, or_false] at hi
    rcases hi with rfl | rfl
    · rw [G.sc] at ho
      cases ho
      intro x hx
      simp only [List.mem_cons, List.not_mem_nil, or_false] at hx
      rcases hx with rfl | rfl | rfl
      · rfl
      · show Nat.blt r h.n = true
        simpa [Nat.blt_eq] using hr
      · exact G.dw
    · rw [G.mp] at ho
      cases ho
      intro e he
      obtain ⟨h1, h2, -⟩ := G.entry he
      rw [h1, h2]
      exact ⟨rfl, rfl⟩
  · intro x hx
    simp only [List.mem_singleton] at hx
    subst hx
    show Nat.blt sb h.n = true
    simpa [Nat.blt_eq] using hsb
  intro H hHn hH
  have gs : H.get sb = some (.cells [.int .u32 cum, .map (some r), .slice da dl dc] 83) := by rw [hH sb (by simp)]; exact G.sc
  have gm : H.get r = some (.map es ck) := by rw [hH r (by simp)]; exact G.mp
  refine GoD.seq ?_
  refine GoD.seg ?_
  (refine Go.run (g:=?_))
  refine GoD.back ?_
  refine GoD.seq ?_
  refine GoD.seg ?_
  (refine Go.run (g:=?_))
  refine GoR.eqRef rfl rfl rfl rfl (.inl rfl) rfl rfl (aEq_ptrNil setU _) ?_
  (refine Go.run (g:=?_))
  refine GoD.back ?_
  refine GoD.seq ?_
  refine GoD.seg ?_
  (refine Go.run (g:=?_))
  refine GoD.back ?_
  refine GoD.seq ?_
  refine GoD.seq ?_
  refine GoD.seg ?_
  (refine Go.run (g:=?_))
  refine GoR.range rfl rfl rfl rfl rfl aheadU gm ?_
  (refine Go.run (g:=?_))
  refine GoD.back ?_
  refine GoD.block ?_
  have gs1 : (H.push (.mit (some r) ck [])).get sb = _ := get_push_lt gs
  have gm1 : (H.push (.mit (some r) ck [])).get r = _ := get_push_lt gm
  have gi1 : (H.push (.mit (some r) ck [])).get H.n = some (.mit (some r) ck []) := AHeap.get_push_same H _
  have n1 : (H.push (.mit (some r) ck [])).n = H.n + 1 := rfl
  generalize H.push (.mit (some r) ck []) = H1 at *
  refine GoD.loop (α := List MapEntry × Option Addr × Nat × AHeap) (fun x => [(15, .pointer (some ⟨H.n, 0, none⟩)), (3, .slice x.2.1 x.1.length x.2.2.1), (0, .pointer (some ⟨sb, 0, none⟩))]) (fun _ => []) (fun x => x.2.2.2) (fun x => (∀ e ∈ x.1, e ∈ es.toList) ∧ (x.1.map (·.born)).Nodup ∧ x.1.length + remE es.toList (x.1.map (·.born)) ≤ ks.length ∧ x.2.2.2.get H.n = some (.mit (some r) ck (x.1.map (·.born))) ∧ x.2.2.2.get sb = some (.cells [.int .u32 cum, .map (some r), .slice da dl dc] 83) ∧ x.2.2.2.get r = some (.map es ck) ∧ H.n + 1 ≤ x.2.2.2.n ∧ Own (H.n + 1) x.2.1 ∧ Sv x.2.2.2 46 1 x.2.1 x.1.length x.2.2.1 (wcs cum x.1)) (fun x => remE es.toList (x.1.map (·.born))) ([], none, 0, H1) ?_ ?_ rfl rfl ?_
  · exact ⟨(fun e he => by cases he), List.nodup_nil, (by have h1 := List.countP_le_length (p := fun e : MapEntry => !([] : List Nat).contains e.born) (l := es.toList); have h2 := congrArg List.length G.keys; rw [List.length_map] at h2; simp only [List.length_nil, List.map_nil, remE]; omega), gi1, gs1, gm1, (by simp only; omega), Own.nil _, Sv.nil⟩
  · exact ⟨rfl, rfl, rfl, trivial⟩
  clear gs gm gs1 gm1 gi1
  rintro ⟨L, a, cap, H2⟩ ⟨hLe, hLn, hLl, gi, gs, gm, hn2, own, sv⟩
  simp only at hLe hLn hLl gi gs gm hn2 own sv ⊢
  refine GoD.seq ?_
  refine GoD.next (by kernel_rfl) rfl rfl rfl rfl rfl rfl rfl rfl rfl gi gm G.bo (.inr (by omega)) ?_ ?_
  · intro hall
    refine GoD.seg ?_
    (refine Go.run (g:=?_))
    refine GoD.back ?_
    refine GoD.skip_back (by intro q; cases q) ?_
    refine GoD.leave ?_
    rw [show Exit.leave 0 (.exit 0) = .normal from rfl]
    have hp : (L.map keyN).Perm ks := by
      rw [← G.keys]
      refine List.Perm.map _ ((List.perm_ext_iff_of_nodup (nodup_of_map _ hLn) (nodup_of_map _ G.nd)).2 fun e => ⟨fun q => hLe e q, fun q => ?_⟩)
      obtain ⟨e', h1, h2⟩ := List.mem_map.1 (hall e q)
      rw [← inj_of_map _ G.nd e' (hLe e' h1) e q h2]; exact h1
    obtain ⟨D, hDt, hDs, hks⟩ := dOf (fun e => wayN cum (keyN e)) L
    have hpp := permOf keyN (wayN cum) hp
    rw [← hDt] at hpp
    have hsort := hS D hpp
    clear hpp hDt
    have sp := sortU_spec a cap D (by omega) H2 (by unfold KvU; rw [hks, hDs]; exact sv)
    rw [hDs] at sp
    generalize sort ltInt D = E at *
    refine GoD.seg ?_
    (refine Go.run (g:=?_))
    refine GoR.callW rfl rfl rfl rfl rfl rfl rfl (((sp).argA).mono ?_)
    rintro _ H5 ⟨rfl, hDl, sv5⟩ k5
    refine ⟨fun i hi => .inr (by have := own i hi; omega), ?_⟩
    have hks2 : ksU E = S.map fun (n : Nat) => Value.int .u16 (n : Int) := by
      show E.toList.map _ = _
      rw [hsort]; simp
    have hSl : S.length = L.length := by
      have := congrArg List.length hsort
      rw [List.length_map, Array.length_toList, hDl] at this
      exact this.symm
    rw [hks2, ← hSl] at sv5
    rw [← hSl]
    clear sp hks hks2 hsort hDl hp sv gi gs gm
    have hba : ∀ j ∈ blk a, j < H5.n := sv5.lt
    have hSl6 : S.length ≤ 1000000 := by rw [hSl]; omega
    have m5 := k5.1
    clear k5 own
    (refine Go.run (g:=?_))
    refine Go.loop (α := Nat × List (Nat × Nat) × Option Addr × Nat × AHeap) (fun x => [(34, .int .i64 x.1), (33, .int .i64 S.length), (32, .slice a S.length cap), (5, .slice x.2.2.1 x.2.1.length x.2.2.2.1)]) (fun _ => []) (fun x => x.2.2.2.2) (fun x => x.1 ≤ S.length ∧ (x.2.1.length = 0 → x.2.2.1 = none) ∧ x.2.1.length ≤ x.1 ∧ (∀ g ∈ x.2.1, g.2 < 65536) ∧ H5.n ≤ x.2.2.2.2.n ∧ Own H5.n x.2.2.1 ∧ Sv x.2.2.2.2 46 1 a S.length cap (S.map fun (n : Nat) => Value.int .u16 (n : Int)) ∧ Sv x.2.2.2.2 49 2 x.2.2.1 x.2.1.length x.2.2.2.1 (gcs x.2.1) ∧ gfold (S.drop x.1) x.2.1 = gfold S []) (fun x => S.length - x.1) (0, [], none, 0, H5) ?_ ?_ rfl rfl ?_
    · exact ⟨Nat.zero_le _, fun _ => rfl, Nat.le_refl _, (fun g hg => by cases hg), Nat.le_refl _, Own.nil _, sv5, Sv.nil, rfl⟩
    · exact ⟨rfl, rfl, rfl, rfl, trivial⟩
    clear sv5
    rintro ⟨i, O, oa, oc, H6⟩ ⟨hi, hO0, hOl, hOb, n6, oown, sv6, so6, eq⟩
    simp only at hi hO0 hOl hOb n6 oown sv6 so6 eq ⊢
    rcases Nat.lt_or_ge i S.length with i0 | i0
    case inr =>
      rw [List.drop_eq_nil_of_le i0] at eq
      have eq : O = gfold S [] := eq
      (refine Go.run (g:=?_))
      refine GoD.back ?_
      rw [← eq]
      exact GoD.finS (.inr rfl) (.tmp rfl .nil) rfl so6 (fun j hj => by have := oown j hj; omega) hO0
    have cw : (S.map fun (n : Nat) => Value.int .u16 (n : Int))[i]? = some (.int .u16 (S[i] : Nat)) := by rw [List.getElem?_map, List.getElem?_eq_getElem i0]; rfl
    have wb := hSb S[i] (List.getElem_mem i0)
    rw [List.drop_eq_getElem_cons i0] at eq
    generalize S[i] = w at *
    have gnext : ∀ (O' : List (Nat × Nat)), gstep O w = some O' → gfold (S.drop (i + 1)) O' = gfold S [] := fun O' hg => by rw [← eq]; show _ = (match gstep O w with | some o => gfold (S.drop (i + 1)) o | none => O); rw [hg]
    rcases List.eq_nil_or_concat O with hO | ⟨init, ⟨st, e⟩, hO⟩
    · subst hO
      have gn := gnext _ (gstep_nil w)
      have l0 : ([] : List (Nat × Nat)).length = 0 := rfl
      rw [l0] at so6 hOl ⊢
      (refine Go.run (g:=?_))
      refine GoR.buildRo (c := [.int .u16 (w : Nat), .int .u16 (w : Nat)]) rfl rfl rfl rfl rfl (by decide) (by rfl) (by rfl) ?_
      intro b8 h8 hb8 rb8 ob8 s8 n8
      have m8 := s8.1
      refine GoR.appendV rfl rfl rfl rfl rfl rfl (so6.same s8) hb8 (fun j hj => .inr (by have := oown j hj; omega)) (by omega) (by omega) (by rfl) ?_
      intro b9 c9 h9 hs9 k9 o9
      have m9 := k9.1
      have sv9 := (sv6.same s8).keeps k9 (fun j hj hm => by have := hba j hj; have := oown j hm; omega)
      (refine Go.run (g:=?_))
      refine Go.again (i + 1, [(w, w)], b9, c9, h9) ⟨by simp only; omega, fun q => by simp at q, by simp, (fun g hg => by simp only [List.mem_singleton] at hg; rw [hg]; exact wb), by simp only; omega, fun j hj => ?_, sv9, hs9, gn⟩ (by simp only; omega) ⟨rfl, rfl, rfl, rfl, trivial⟩ rfl rfl
      rcases o9 j hj with q | q
      · exact oown j q
      · omega
    · rw [List.concat_eq_append] at hO
      subst hO
      have hl : (init ++ [(st, e)]).length = init.length + 1 := by simp
      have eb : e < 65536 := hOb (st, e) (by simp)
      have hstep := gstep_snoc init (st, e) w
      have cl : (gcs (init ++ [(st, e)]))[(init.length + 1 - 1) * 2 + 1]? = some (.int .u16 (e : Nat)) := by rw [Nat.add_sub_cancel]; exact gcs_last init (st, e)
      have gl := gcs_len (init ++ [(st, e)])
      rw [hl] at so6 hOl gl ⊢
      have hkv : (init.length + 1 - 1) * 2 < (gcs (init ++ [(st, e)])).length := by rw [gl]; omega
      (refine Go.run (g:=?_))
      refine GoR.bin rfl rfl rfl rfl rfl rfl (add16 e eb) ?_
      generalize hq : (e + 1) % 65536 = q at *
      by_cases hw : q = w
      · rw [if_pos hw] at hstep
        have gn := gnext _ hstep
        subst hw
        (refine Go.run (g:=?_))
        refine GoR.store1' rfl rfl rfl rfl rfl rfl (hS := so6) (hw := fun j hj => .inr (by have := oown j hj; omega)) (g:=?_)
        intro h7 so7 k7 n7
        rw [Nat.add_sub_cancel, gcs_setLast] at so7
        have sv7 := sv6.keeps k7 (fun j hj hm => by have := hba j hj; have := oown j hm; omega)
        (refine Go.run (g:=?_))
        refine Go.again (i + 1, init ++ [(st, q)], oa, oc, h7) ⟨by simp only; omega, fun z => by simp at z, by simp only [List.length_append, List.length_cons, List.length_nil]; omega, fun g hg => ?_, by have := k7.1; simp only; omega, oown, sv7, by simpa using so7, gn⟩ (by simp only; omega) ⟨rfl, rfl, rfl, ?_, trivial⟩ rfl rfl
        · rcases List.mem_append.1 hg with z | z
          · exact hOb g (by simp [z])
          · simp only [List.mem_singleton] at z; rw [z]; exact wb
        · simp only [List.length_append, List.length_cons, List.length_nil]; rfl
      · rw [if_neg hw] at hstep
        by_cases h64 : init.length + 1 = 64
        · rw [if_pos h64] at hstep
          have eq : init ++ [(st, e)] = gfold S [] := by rw [← eq]; show _ = (match gstep (init ++ [(st, e)]) w with | some o => gfold (S.drop (i + 1)) o | none => init ++ [(st, e)]); rw [hstep]
          (refine Go.run (g:=?_))
          refine GoD.back ?_
          rw [← eq, hl]
          exact GoD.finS (.inr rfl) (.tmp rfl .nil) rfl so6 (fun j hj => by have := oown j hj; omega) (fun z => by omega)
        · rw [if_neg h64] at hstep
          have gn := gnext _ hstep
          (refine Go.run (g:=?_))
          refine GoR.buildRo (c := [.int .u16 (w : Nat), .int .u16 (w : Nat)]) rfl rfl rfl rfl rfl (by decide) (by rfl) (by rfl) ?_
          intro b8 h8 hb8 rb8 ob8 s8 n8
          have m8 := s8.1
          refine GoR.appendV rfl rfl rfl rfl rfl rfl (so6.same s8) hb8 (fun j hj => .inr (by have := oown j hj; omega)) (by omega) (by omega) (by rfl) ?_
          intro b9 c9 h9 hs9 k9 o9
          have m9 := k9.1
          have sv9 := (sv6.same s8).keeps k9 (fun j hj hm => by have := hba j hj; have := oown j hm; omega)
          (refine Go.run (g:=?_))
          refine Go.again (i + 1, init ++ [(st, e)] ++ [(w, w)], b9, c9, h9) ⟨by simp only; omega, fun z => by simp at z, by simp only [List.length_append, List.length_cons, List.length_nil]; omega, fun g hg => ?_, by simp only; omega, fun j hj => ?_, sv9, ?_, gn⟩ (by simp only; omega) ⟨rfl, rfl, rfl, ?_, trivial⟩ rfl rfl
          · rcases List.mem_append.1 hg with z | z
            · exact hOb g z
            · simp only [List.mem_singleton] at z; rw [z]; exact wb
          · rcases o9 j hj with z | z
            · exact oown j z
            · omega
          · simp only [List.length_append, List.length_cons, List.length_nil]
            rw [gcs_snoc]
            exact hs9
          · simp only [List.length_append, List.length_cons, List.length_nil]; rfl
  · intro e he hne
    refine GoD.seg ?_
    (refine Go.run (g:=?_))
    refine GoR.name ?_
    intro H3 e3
    have gi3 : H3.get H.n = some (.mit (some r) ck (L.map (·.born) ++ [e.born])) := by subst e3; exact AHeap.get_put_same _ (by omega) _
    have k3 : Keeps [H.n] H2 H3 := by subst e3; exact (Keeps.rf _ _).pt (.inl (by simp)) _
    have n3 : H3.n = H2.n := by subst e3; rfl
    clear e3
    have gs3 := k3.get gs (by simp; omega)
    have gm3 := k3.get gm (by simp; omega)
    have sv3 := sv.keeps k3 (fun i hi hm => by simp only [List.mem_singleton] at hm; have := own i hi; omega)
    refine GoR.entry rfl rfl rfl rfl rfl gi3 gm3 he G.nd ?_
    obtain ⟨ke, kv, kl⟩ := G.entry he
    rw [ke, kv]
    have hsp := span_spec cum (keyN e) G.cb kl
    have hwl : wayN cum (keyN e) < 65536 := Nat.mod_lt _ (by decide)
    have hwd : spanN cum (keyN e) % 65536 = wayN cum (keyN e) := rfl
    generalize spanN cum (keyN e) = sp at *
    (refine Go.run (g:=?_))
    refine GoR.call rfl rfl rfl rfl rfl rfl rfl (((hsp _).argA).mono ?_)
    rintro _ H4 ⟨rfl, rfl⟩ -
    (refine Go.run (g:=?_))
    rw [hwd]
    refine GoR.buildRo (c := [.int .u16 (wayN cum (keyN e) : Nat)]) rfl rfl rfl rfl rfl (by decide) (by rfl) (by rfl) ?_
    intro b8 h8 hb8 rb8 ob8 s8 n8
    have m8 := s8.1
    refine GoR.appendV rfl rfl rfl rfl rfl rfl (sv3.same s8) hb8 (fun i hi => .inr (by have := own i hi; omega)) (by omega) (by omega) (by rfl) ?_
    intro b9 c9 h9 hs9 k9 o9
    have m9 := k9.1
    have nob : ∀ j, j < H.n + 1 → j ∉ blk a := fun j hj hm => by have := own j hm; omega
    (refine Go.run (g:=?_))
    refine GoD.back ?_
    refine GoD.again (L ++ [e], b9, c9, h9) ⟨fun x hx => ?_, ?_, ?_, ?_, ?_, ?_, by simp only; omega, fun j hj => ?_, ?_⟩ ?_ ⟨rfl, ?_, rfl, trivial⟩ rfl rfl
    · rcases List.mem_append.1 hx with q | q
      · exact hLe x q
      · simp only [List.mem_singleton] at q; rw [q]; exact he
    · simp only [List.map_append, List.map_cons, List.map_nil]
      rw [List.nodup_append]
      refine ⟨hLn, List.nodup_cons.2 ⟨List.not_mem_nil, List.nodup_nil⟩, fun x hx y hy => ?_⟩
      simp only [List.mem_singleton] at hy
      rw [hy]; exact fun q => hne (by rw [← q]; exact hx)
    · have := remE_lt hne he
      simp only [List.length_append, List.length_cons, List.length_nil, List.map_append, List.map_cons, List.map_nil]
      omega
    · simp only [List.map_append, List.map_cons, List.map_nil]
      exact k9.get (s8.get gi3) (nob _ (by omega))
    · exact k9.get (s8.get gs3) (nob _ (by omega))
    · exact k9.get (s8.get gm3) (nob _ (by omega))
    · rcases o9 j hj with q | q
      · exact own j q
      · omega
    · simp only [wcs, List.map_append, List.map_cons, List.map_nil, List.length_append, List.length_cons, List.length_nil]
      exact hs9
    · have := remE_lt hne he
      simp only [List.map_append, List.map_cons, List.map_nil]
      omega
    · simp only [List.length_append, List.length_cons, List.length_nil]
      rfl
end Go.Proofs.Ytfcfgmhcphmefaa
namespace Go.Proofs.Ytfcfgmhcphmefaa
open Go.Sort
set_option maxRecDepth 100000
attribute [local irreducible] Go GoR GoL
def bef32 (a b : Nat) : Bool := decide (0 < spanN a b) && decide (spanN a b < 2147483648)
set_option maxHeartbeats 8000000 in
theorem before_spec (a b : Nat) (ha : a < 4294967296) (hb : b < 4294967296) (h : AHeap) : CallS Try.prog [] 43 [.int .u32 a, .int .u32 b] h fun v h' => v = .bool (bef32 a b) ∧ h' = h := by
  have hs := sub32 a b ha hb
  have hl := span_lt a b
  unfold bef32
  generalize spanN a b = s at *
  (refine CallS.of2 Try.func43 rfl Try.ntmps43 Try.results43 rfl ?_)
  (iterate 8 (first|refine GoR.end ?_|(refine GoR.gd rfl ?_;first|refine GoR.wanted' rfl rfl rfl rfl (g:=?_)|refine GoR.unwanted' rfl rfl rfl rfl (hd:=rfl) (hN:=rfl) (g:=?_)|refine GoR.unwantedU rfl rfl rfl rfl rfl rfl ?_)|(refine GoR.kk 0 rfl ?_;first|refine GoR.move rfl rfl rfl rfl rfl ?_|refine GoR.assign rfl rfl rfl rfl rfl ?_)|(refine GoR.kk 1 rfl ?_;first|refine GoR.load' rfl rfl rfl rfl rfl (g:=?_)|refine GoR.loadA' rfl rfl rfl rfl rfl (hv:=rfl) (g:=?_)|refine GoR.loadV' rfl rfl rfl rfl rfl (g:=?_)|refine GoR.loadVN' rfl rfl rfl rfl rfl (g:=?_))|(refine GoR.kk 2 rfl ?_;first|refine GoR.store' rfl rfl rfl rfl rfl (hl:=rfl) (h1:=rfl) (h3:=rfl) (g:=?_))|(refine GoR.kk 3 rfl ?_;first|refine GoR.fieldAddr rfl rfl rfl rfl rfl ?_|refine GoR.indexN' rfl rfl rfl rfl rfl rfl (g:=?_)|refine GoR.indexNs' rfl rfl rfl rfl rfl rfl (g:=?_)|refine GoR.indexV' rfl rfl rfl rfl rfl rfl (g:=?_)|refine GoR.indexA' rfl rfl rfl rfl rfl rfl (g:=?_)|refine GoR.fieldV' rfl rfl rfl rfl rfl (g:=?_))|(refine GoR.kk 4 rfl ?_;first|refine GoR.eq rfl rfl rfl rfl rfl rfl ?_|refine GoR.ne rfl rfl rfl rfl rfl rfl ?_|refine GoR.lt rfl rfl rfl rfl rfl rfl ?_|refine GoR.le rfl rfl rfl rfl rfl rfl ?_|refine GoR.gt rfl rfl rfl rfl rfl rfl ?_|refine GoR.ge rfl rfl rfl rfl rfl rfl ?_|refine GoR.addN' rfl rfl rfl rfl rfl rfl (g:=?_)|refine GoR.subN' rfl rfl rfl rfl rfl rfl (g:=?_)|refine GoR.add' rfl rfl rfl rfl rfl rfl (g:=?_)|refine GoR.sub' rfl rfl rfl rfl rfl rfl (g:=?_)|refine GoR.addM' rfl rfl rfl rfl rfl rfl (g:=?_)|refine GoR.subM' rfl rfl rfl rfl rfl rfl (g:=?_)|refine GoR.mulM' rfl rfl rfl rfl rfl rfl (g:=?_)|refine GoR.shrN rfl rfl rfl rfl rfl rfl rfl ?_|refine GoR.structEq rfl rfl rfl rfl rfl rfl (by rfl) (by rfl) ?_|refine GoR.structNe rfl rfl rfl rfl rfl rfl (by rfl) (by rfl) ?_|refine GoR.strEq rfl rfl rfl rfl rfl rfl ?_|refine GoR.strNe rfl rfl rfl rfl rfl rfl ?_|refine GoR.remN' rfl rfl rfl rfl rfl rfl (g:=?_)|refine GoR.quoN' rfl rfl rfl rfl rfl rfl (g:=?_)|refine GoR.shlN' rfl rfl rfl rfl rfl rfl rfl (g:=?_)|refine GoR.orN' rfl rfl rfl rfl rfl rfl (g:=?_))|(refine GoR.kk 5 rfl ?_;first|refine GoR.len rfl rfl rfl rfl rfl ?_|refine GoR.lenStr rfl rfl rfl rfl rfl ?_|refine GoR.capB rfl rfl rfl rfl rfl ?_)|(refine GoR.kk 7 rfl ?_;first|refine GoR.pickE' rfl rfl rfl rfl rfl (hx:=rfl) (hy:=rfl) (g:=?_)|refine GoR.pickN' rfl rfl rfl rfl rfl (hx:=rfl) (hy:=rfl) (g:=?_)|refine GoR.pickB rfl rfl rfl rfl rfl rfl rfl ?_)|(refine GoR.kk 8 rfl ?_;first|refine GoR.boxA rfl rfl rfl rfl rfl ?_|refine GoR.boxS rfl rfl rfl rfl rfl rfl ?_|refine GoR.alloc rfl rfl rfl rfl ?_)|(refine GoR.kk 9 rfl ?_;first|refine GoR.strV' rfl rfl rfl rfl rfl (g:=?_)|refine GoR.conv_u8 rfl rfl rfl rfl rfl ?_|refine GoR.convW' rfl rfl rfl rfl rfl (g:=?_)|refine GoR.conv_u16 rfl rfl rfl rfl rfl ?_|refine GoR.conv_u32 rfl rfl rfl rfl rfl ?_)|(refine GoR.kk 10 rfl ?_;first|refine GoR.build' rfl rfl rfl rfl rfl rfl (g:=?_))|(refine GoR.kk 11 rfl ?_;first|refine GoR.extract rfl rfl rfl rfl rfl rfl ?_|refine GoR.not rfl rfl rfl rfl rfl ?_|refine GoR.nilCheck rfl rfl rfl rfl rfl ?_|refine GoR.nilCheckF rfl rfl rfl rfl rfl ?_|refine GoR.makeFunc rfl rfl rfl rfl rfl rfl ?_)|(refine Go.kk 0 rfl ?_;refine Go.seq ?_)|(refine Go.kk 1 rfl ?_;refine Go.region (by kernel_rfl) rfl ?_)|(refine Go.kk 2 rfl ?_;refine Go.drawnQ rfl (by kernel_rfl) rfl ?_)|(refine Go.kk 3 rfl ?_;first|refine Go.cond_t' rfl (g:=?_)|refine Go.cond_f' rfl (g:=?_))|(refine Go.kk 4 rfl ?_;refine Go.block ?_)|(refine Go.kk 5 rfl ?_;first|refine Go.skip ?_|refine Go.ret ?_|refine Go.exit ?_|refine Go.scope ?_)|refine Go.leave_normal ?_|refine Go.leave_same ?_|refine Go.leave_ret ?_|refine Go.ret_code ?_|refine Go.exit_code ?_|refine Go.leave_other rfl ?_|refine Go.sc_normal ?_|refine Go.sc_ret ?_|refine Go.sc_exit ?_|refine Go.exit_back ?_|refine Go.ret_back ?_))
  refine GoR.bin rfl rfl rfl rfl rfl rfl hs ?_
  rcases Nat.lt_or_ge 0 s with s0 | s0
  case inr =>
    obtain rfl : s = 0 := by omega
    (refine Go.run (g:=?_))
    (first|refine Go.finT (by first|exact .inr rfl|exact .inl rfl) rfl ?_|refine Go.fin1 (by first|exact .inr rfl|exact .inl rfl) rfl (hq:=?_))
    exact ⟨rfl, rfl⟩
  (refine Go.run (g:=?_))
  refine GoR.com (v := .int .u32 (4294967295 : Nat)) rfl rfl rfl rfl rfl (by kernel_rfl) ?_
  (refine Go.run (g:=?_))
  (first|refine Go.finT (by first|exact .inr rfl|exact .inl rfl) rfl ?_|refine Go.fin1 (by first|exact .inr rfl|exact .inl rfl) rfl (hq:=?_))
  refine ⟨?_, rfl⟩
  simp only [retV]
  rw [decide_eq_true s0, Bool.true_and]
  exact congrArg Value.bool (decide_eq_decide.2 (by omega))
instance miAhead : MI Try.prog 81 .u32 (.agg #[]) := ⟨22, 85, by kernel_rfl, by kernel_rfl, by kernel_rfl, rfl, fun em n => by kernel_rfl⟩
def dn32 (ks : List Nat) : List (Int × Value) := ks.map fun (k : Nat) => ((k : Int), Value.agg #[])
theorem al_dn32 (ks : List Nat) (n : Nat) : al (dn32 ks) n = if n ∈ ks then some (.agg #[]) else none := by
  induction ks with
  | nil => rfl
  | cons k ks ih =>
    show (if (k : Int) = n then some (Value.agg #[]) else al (dn32 ks) n) = _
    rw [ih]
    by_cases h : k = n
    · subst h; simp
    · rw [if_neg (by omega)]; simp [Ne.symm h]
theorem aset_dn32 (ks : List Nat) (n : Nat) (h : n ∉ ks) : aset (dn32 ks) n (.agg #[]) = dn32 (ks ++ [n]) := by
  induction ks with
  | nil => rfl
  | cons k ks ih =>
    simp only [List.mem_cons, not_or] at h
    show (if (k : Int) = n then _ else _) = _
    rw [if_neg (by omega)]
    show ((k : Int), Value.agg #[]) :: aset (dn32 ks) n (.agg #[]) = _
    rw [ih h.2]; rfl
theorem adel_dn32 (ks : List Nat) (n : Nat) : adel (dn32 ks) n = dn32 (ks.erase n) := by
  induction ks with
  | nil => rfl
  | cons k ks ih =>
    show (if (k : Int) = n then dn32 ks else ((k : Int), Value.agg #[]) :: adel (dn32 ks) n) = _
    by_cases h : k = n
    · subst h; simp
    · rw [if_neg (by omega), ih, List.erase_cons_tail (by simpa using h)]; rfl
abbrev u32s' (ds : List Nat) : List Value := ds.map fun (n : Nat) => Value.int .u32 (n : Int)
structure GSet (h : AHeap) (sb r cum : Nat) (ks : List Nat) (da : Option Addr) (dc : Nat) (ds : List Nat) (n0 : Nat) : Prop where
  sc : h.get sb = some (.cells [.int .u32 cum, .map (some r), .slice da ds.length dc] 83)
  mp : SMap h r .u32 (dn32 ks)
  dv : Sv h 22 1 da ds.length dc (u32s' ds)
  kb : ∀ k ∈ ks, k < 4294967296
  db : ∀ k ∈ ds, k < 4294967296
  cb : cum < 4294967296
  ap : sb ≠ r ∧ sb ∉ blk da ∧ r ∉ blk da
  ow : n0 ≤ sb ∧ n0 ≤ r ∧ Own n0 da
theorem GSet.same {h h' : AHeap} {sb r cum : Nat} {ks : List Nat} {da : Option Addr} {dc : Nat} {ds : List Nat} {n0 : Nat} (g : GSet h sb r cum ks da dc ds n0) (s : Same h h') : GSet h' sb r cum ks da dc ds n0 := { g with sc := s.get g.sc, mp := g.mp.same s, dv := g.dv.same s }
def hasN (cum : Nat) (ks : List Nat) (t : Nat) : Bool := decide (t ∈ ks) || (decide (t = cum) || bef32 t cum)
set_option maxHeartbeats 8000000 in
theorem has_spec (sb r cum : Nat) (ks : List Nat) (da : Option Addr) (dc : Nat) (ds : List Nat) (n0 t : Nat) (ht : t < 4294967296) (h : AHeap) (G : GSet h sb r cum ks da dc ds n0) : CallS Try.prog [] 21 [.pointer (some ⟨sb, 0, none⟩), .int .u32 t] h fun v h' => v = .bool (hasN cum ks t) := by
  have gs := G.sc
  have gm := G.mp.imap
  have hlt := AHeap.lt gs
  unfold hasN
  (refine CallS.of2 Try.func21 rfl Try.ntmps21 Try.results21 rfl ?_)
  (refine Go.run (g:=?_))
  refine GoR.eqRef rfl rfl rfl rfl (.inl rfl) rfl rfl (aEq_ptrNil setU _) ?_
  (refine Go.run (g:=?_))
  refine GoR.lookup2 rfl rfl rfl rfl rfl rfl gm ?_
  rw [al_dn32]
  have hbs := before_spec t cum ht G.cb
  by_cases hk : t ∈ ks
  · rw [if_pos hk, decide_eq_true hk, Bool.true_or]
    simp only [Option.getD_some, Option.isSome_some]
    (refine Go.run (g:=?_))
    (first|refine Go.finT (by first|exact .inr rfl|exact .inl rfl) rfl ?_|refine Go.fin1 (by first|exact .inr rfl|exact .inl rfl) rfl (hq:=?_))
    rfl
  · rw [if_neg hk, decide_eq_false hk, Bool.false_or]
    simp only [Option.getD_none, Option.isSome_none]
    by_cases hc : t = cum
    · rw [decide_eq_true hc, Bool.true_or]
      (refine Go.run (g:=?_))
      (first|refine Go.finT (by first|exact .inr rfl|exact .inl rfl) rfl ?_|refine Go.fin1 (by first|exact .inr rfl|exact .inl rfl) rfl (hq:=?_))
      rfl
    · rw [decide_eq_false hc, Bool.false_or]
      (refine Go.run (g:=?_))
      refine GoR.call rfl rfl rfl rfl rfl rfl rfl (((hbs _).argA).mono ?_)
      rintro _ H2 ⟨rfl, rfl⟩ -
      (refine Go.run (g:=?_))
      (first|refine Go.finT (by first|exact .inr rfl|exact .inl rfl) rfl ?_|refine Go.fin1 (by first|exact .inr rfl|exact .inl rfl) rfl (hq:=?_))
      simp [retV]
set_option maxHeartbeats 4000000 in
theorem cum_spec (sb r cum : Nat) (ks : List Nat) (da : Option Addr) (dc : Nat) (ds : List Nat) (n0 : Nat) (h : AHeap) (G : GSet h sb r cum ks da dc ds n0) : CallS Try.prog [] 16 [.pointer (some ⟨sb, 0, none⟩)] h fun v h' => v = .int .u32 (cum : Nat) ∧ h' = h := by
  have gs := G.sc
  (refine CallS.of1 Try.func16 rfl Try.ntmps16 Try.results16 rfl ?_)
  (refine Go.run (g:=?_))
  refine GoR.eqRef rfl rfl rfl rfl (.inl rfl) rfl rfl (aEq_ptrNil setU _) ?_
  (refine Go.run (g:=?_))
  (first|refine Go.finT (by first|exact .inr rfl|exact .inl rfl) rfl ?_|refine Go.fin1 (by first|exact .inr rfl|exact .inl rfl) rfl (hq:=?_))
  exact ⟨rfl, rfl⟩
set_option maxHeartbeats 4000000 in
theorem glen_spec (sb r cum : Nat) (ks : List Nat) (da : Option Addr) (dc : Nat) (ds : List Nat) (n0 : Nat) (h : AHeap) (G : GSet h sb r cum ks da dc ds n0) : CallS Try.prog [] 20 [.pointer (some ⟨sb, 0, none⟩)] h fun v h' => v = .int .i64 (ks.length : Nat) ∧ h' = h := by
  have gs := G.sc
  (refine CallS.of1 Try.func20 rfl Try.ntmps20 Try.results20 rfl ?_)
  (refine Go.run (g:=?_))
  refine GoR.eqRef rfl rfl rfl rfl (.inl rfl) rfl rfl (aEq_ptrNil setU _) ?_
  (refine Go.run (g:=?_))
  refine GoR.lenMapS rfl rfl rfl rfl rfl G.mp.imap ?_
  (refine Go.run (g:=?_))
  (first|refine Go.finT (by first|exact .inr rfl|exact .inl rfl) rfl ?_|refine Go.fin1 (by first|exact .inr rfl|exact .inl rfl) rfl (hq:=?_))
  exact ⟨by simp [retV, dn32], rfl⟩
end Go.Proofs.Ytfcfgmhcphmefaa
namespace Go.Proofs.Ytfcfgmhcphmefaa
open Go.Sort
set_option maxRecDepth 100000
attribute [local irreducible] Go GoR GoL
def next32 (c : Nat) : Nat := (c + 1) % 4294967296
def settleN : Nat → Nat → List Nat → Nat × List Nat
  | 0, c, ks => (c, ks)
  | n + 1, c, ks => if next32 c ∈ ks then settleN n (next32 c) (ks.erase (next32 c)) else (c, ks)
def addN (cum : Nat) (ks ds : List Nat) (t : Nat) : Nat × Nat × List Nat × List Nat :=
  if hasN cum ks t = true then (1, cum, ks, if ds.length < 16 then ds ++ [t] else ds)
  else if 65535 < spanN cum t then (2, cum, ks, ds)
  else (0, (settleN (ks.length + 1) cum (ks ++ [t])).1, (settleN (ks.length + 1) cum (ks ++ [t])).2, ds)
theorem add32 (c : Nat) : iBin .add .u32 (c : Int) ((1 : Nat) : Int) = some (.int .u32 ((next32 c : Nat) : Int)) := by
  have q : ((next32 c : Nat) : Int) = ((c : Int) + 1) % 4294967296 := by unfold next32; omega
  simp [iBin, IntKind.wrap, IntKind.bits, IntKind.signed, q]
theorem next32_lt (c : Nat) : next32 c < 4294967296 := Nat.mod_lt _ (by decide)
set_option maxHeartbeats 32000000 in
theorem add_spec (sb r cum : Nat) (ks : List Nat) (da : Option Addr) (dc : Nat) (ds : List Nat) (n0 t : Nat) (ht : t < 4294967296) (hds : ds.length ≤ 16) (h : AHeap) (hn0 : n0 ≤ h.n) (G : GSet h sb r cum ks da dc ds n0) : CallS Try.prog ([sb, r] ++ blk da) 10 [.pointer (some ⟨sb, 0, none⟩), .int .u32 t] h fun v h' => v = .int .u8 ((addN cum ks ds t).1 : Nat) ∧ ∃ da' dc', GSet h' sb r (addN cum ks ds t).2.1 (addN cum ks ds t).2.2.1 da' dc' (addN cum ks ds t).2.2.2 n0 ∧ ∀ i ∈ blk da', i ∈ blk da ∨ h.n ≤ i := by
  have gs := G.sc
  have hlt := AHeap.lt gs
  have hsp := span_spec cum t G.cb ht
  have hhs := has_spec sb r cum ks da dc ds n0 t ht h G
  (refine CallS.of2 Try.func10 rfl Try.ntmps10 Try.results10 rfl ?_)
  (refine Go.run (g:=?_))
  refine GoR.eqRef rfl rfl rfl rfl (.inl rfl) rfl rfl (aEq_ptrNil setU _) ?_
  (refine Go.run (g:=?_))
  refine GoR.call rfl rfl rfl rfl rfl rfl rfl (((hhs).argA).mono ?_)
  rintro _ h2 rfl s2
  have G2 := G.same s2
  have gs2 := G2.sc
  have m2 := s2.1
  cases hH : hasN cum ks t with
  | true =>
    rcases Nat.lt_or_ge ds.length 16 with l0 | l0
    · have hA : addN cum ks ds t = (1, cum, ks, ds ++ [t]) := by unfold addN; rw [if_pos hH, if_pos l0]
      rw [hA]
      (refine Go.run (g:=?_))
      refine GoR.buildRo (c := [.int .u32 (t : Nat)]) rfl rfl rfl rfl rfl (by decide) (by rfl) (by rfl) ?_
      intro b8 h8 hb8 rb8 ob8 s8 n8
      have m8 := s8.1
      refine GoR.appendV rfl rfl rfl rfl rfl rfl (G2.dv.same s8) hb8 (fun j hj => .inl (by simp [hj])) (by omega) (by omega) (by rfl) ?_
      intro b9 c9 h9 hs9 k9 o9
      have m9 := k9.1
      have gs9 := k9.get (s8.get gs2) G.ap.2.1
      have gm9 := (G2.mp.same s8).keeps k9 G.ap.2.2
      have n9 : ∀ j, j < h.n → j ∉ blk da → j ∉ blk b9 := fun j hj hn hm => by rcases o9 j hm with q | q; exact hn q; omega
      have sr := G.mp.lt
      (refine Go.run (g:=?_))
      refine Go.name ?_
      intro h10 e10
      have k10 : Keeps [sb] h9 h10 := by subst e10; exact (Keeps.rf _ _).pt (.inl (by simp)) _
      have gs10 : h10.get sb = some (.cells [.int .u32 cum, .map (some r), .slice b9 (ds.length + 1) c9] 83) := by subst e10; exact get_put_self gs9
      clear e10
      (first|refine Go.finT (by first|exact .inr rfl|exact .inl rfl) rfl ?_|refine Go.fin1 (by first|exact .inr rfl|exact .inl rfl) rfl (hq:=?_))
      refine ⟨rfl, b9, c9, ⟨?_, gm9.keeps k10 (by simp; exact Ne.symm G.ap.1), ?_, G.kb, fun k hk => ?_, G.cb, ⟨G.ap.1, n9 _ hlt G.ap.2.1, n9 _ sr G.ap.2.2⟩, ⟨G.ow.1, G.ow.2.1, fun j hj => ?_⟩⟩, fun i hi => ?_⟩
      · rw [List.length_append]; exact gs10
      · have := hs9.keeps k10 (fun j hj hm => by simp only [List.mem_singleton] at hm; subst hm; exact n9 _ hlt G.ap.2.1 hj)
        rw [List.length_append]
        simpa [u32s'] using this
      · rcases List.mem_append.1 hk with q | q
        · exact G.db k q
        · simp only [List.mem_singleton] at q; omega
      · rcases o9 j hj with q | q
        · exact G.ow.2.2 j q
        · omega
      · rcases o9 i hi with q | q
        · exact .inl q
        · exact .inr (by omega)
    · have hA : addN cum ks ds t = (1, cum, ks, ds) := by unfold addN; rw [if_pos hH, if_neg (by omega)]
      rw [hA]
      (refine Go.run (g:=?_))
      (first|refine Go.finT (by first|exact .inr rfl|exact .inl rfl) rfl ?_|refine Go.fin1 (by first|exact .inr rfl|exact .inl rfl) rfl (hq:=?_))
      exact ⟨rfl, da, dc, G2, fun i hi => .inl hi⟩
  | false =>
    have hH' : ¬ hasN cum ks t = true := by rw [hH]; decide
    (refine Go.run (g:=?_))
    refine GoR.call rfl rfl rfl rfl rfl rfl rfl (((hsp _).argA).mono ?_)
    rintro _ h3 ⟨rfl, rfl⟩ -
    rcases Nat.lt_or_ge 65535 (spanN cum t) with w0 | w0
    · have hA : addN cum ks ds t = (2, cum, ks, ds) := by unfold addN; rw [if_neg hH', if_pos w0]
      rw [hA]
      (refine Go.run (g:=?_))
      (first|refine Go.finT (by first|exact .inr rfl|exact .inl rfl) rfl ?_|refine Go.fin1 (by first|exact .inr rfl|exact .inl rfl) rfl (hq:=?_))
      exact ⟨rfl, da, dc, G2, fun i hi => .inl hi⟩
    · have hA : addN cum ks ds t = (0, (settleN (ks.length + 1) cum (ks ++ [t])).1, (settleN (ks.length + 1) cum (ks ++ [t])).2, ds) := by unfold addN; rw [if_neg hH', if_neg (by omega)]
      rw [hA]
      have hni : t ∉ ks := fun q => by unfold hasN at hH; rw [decide_eq_true q, Bool.true_or] at hH; cases hH
      (refine Go.run (g:=?_))
      refine GoR.mapUpdateS (.inl rfl) rfl rfl rfl rfl rfl G2.mp (.inl (by simp)) ?_
      intro h4 M4 k4 n4
      rw [aset_dn32 ks t hni] at M4
      have gs4 := k4.get gs2 (by simp; exact G.ap.1)
      have G4 : GSet h4 sb r cum (ks ++ [t]) da dc ds n0 := ⟨gs4, M4, G2.dv.keeps k4 (fun j hj hm => by simp only [List.mem_singleton] at hm; subst hm; exact G.ap.2.2 hj), fun k hk => by
        rcases List.mem_append.1 hk with q | q
        · exact G.kb k q
        · simp only [List.mem_singleton] at q; omega, G.db, G.cb, G.ap, G.ow⟩
      have n4' : h.n ≤ h4.n := by omega
      clear G2 gs2 M4 gs4 k4 n4 hhs hsp
      (refine Go.run (g:=?_))
      obtain ⟨T, hT⟩ : ∃ T, T = settleN (ks.length + 1) cum (ks ++ [t]) := ⟨_, rfl⟩
      rw [← hT]
      refine Go.loop (α := Nat × Nat × List Nat × AHeap) (fun _ => [(0, .pointer (some ⟨sb, 0, none⟩))]) (fun _ => []) (fun x => x.2.2.2) (fun x => x.2.2.1.length ≤ x.1 ∧ settleN x.1 x.2.1 x.2.2.1 = T ∧ h.n ≤ x.2.2.2.n ∧ GSet x.2.2.2 sb r x.2.1 x.2.2.1 da dc ds n0) (fun x => x.2.2.1.length) (ks.length + 1, cum, ks ++ [t], h4) ?_ ?_ rfl rfl ?_
      · exact ⟨by simp, hT.symm, n4', G4⟩
      · exact ⟨rfl, trivial⟩
      clear G4 hT n4'
      rintro ⟨f, c, ks', H⟩ ⟨hf, hset, hHn, G5⟩
      simp only at hf hset hHn G5 ⊢
      have gs5 := G5.sc
      have hnb := next32_lt c
      have ha := add32 c
      generalize hnc : next32 c = nc at *
      (repeat (first|refine GoR.end ?_|(refine GoR.gd rfl ?_;first|refine GoR.wanted' rfl rfl rfl rfl (g:=?_)|refine GoR.unwanted' rfl rfl rfl rfl (hd:=rfl) (hN:=rfl) (g:=?_)|refine GoR.unwantedU rfl rfl rfl rfl rfl rfl ?_)|(refine GoR.kk 0 rfl ?_;first|refine GoR.move rfl rfl rfl rfl rfl ?_|refine GoR.assign rfl rfl rfl rfl rfl ?_)|(refine GoR.kk 1 rfl ?_;first|refine GoR.load' rfl rfl rfl rfl rfl (g:=?_)|refine GoR.loadA' rfl rfl rfl rfl rfl (hv:=rfl) (g:=?_)|refine GoR.loadV' rfl rfl rfl rfl rfl (g:=?_)|refine GoR.loadVN' rfl rfl rfl rfl rfl (g:=?_))|(refine GoR.kk 2 rfl ?_;first|refine GoR.store' rfl rfl rfl rfl rfl (hl:=rfl) (h1:=rfl) (h3:=rfl) (g:=?_))|(refine GoR.kk 3 rfl ?_;first|refine GoR.fieldAddr rfl rfl rfl rfl rfl ?_|refine GoR.indexN' rfl rfl rfl rfl rfl rfl (g:=?_)|refine GoR.indexNs' rfl rfl rfl rfl rfl rfl (g:=?_)|refine GoR.indexV' rfl rfl rfl rfl rfl rfl (g:=?_)|refine GoR.indexA' rfl rfl rfl rfl rfl rfl (g:=?_)|refine GoR.fieldV' rfl rfl rfl rfl rfl (g:=?_))|(refine GoR.kk 4 rfl ?_;first|refine GoR.eq rfl rfl rfl rfl rfl rfl ?_|refine GoR.ne rfl rfl rfl rfl rfl rfl ?_|refine GoR.lt rfl rfl rfl rfl rfl rfl ?_|refine GoR.le rfl rfl rfl rfl rfl rfl ?_|refine GoR.gt rfl rfl rfl rfl rfl rfl ?_|refine GoR.ge rfl rfl rfl rfl rfl rfl ?_|refine GoR.addN' rfl rfl rfl rfl rfl rfl (g:=?_)|refine GoR.subN' rfl rfl rfl rfl rfl rfl (g:=?_)|refine GoR.add' rfl rfl rfl rfl rfl rfl (g:=?_)|refine GoR.sub' rfl rfl rfl rfl rfl rfl (g:=?_)|refine GoR.addM' rfl rfl rfl rfl rfl rfl (g:=?_)|refine GoR.subM' rfl rfl rfl rfl rfl rfl (g:=?_)|refine GoR.mulM' rfl rfl rfl rfl rfl rfl (g:=?_)|refine GoR.shrN rfl rfl rfl rfl rfl rfl rfl ?_|refine GoR.structEq rfl rfl rfl rfl rfl rfl (by rfl) (by rfl) ?_|refine GoR.structNe rfl rfl rfl rfl rfl rfl (by rfl) (by rfl) ?_|refine GoR.strEq rfl rfl rfl rfl rfl rfl ?_|refine GoR.strNe rfl rfl rfl rfl rfl rfl ?_|refine GoR.remN' rfl rfl rfl rfl rfl rfl (g:=?_)|refine GoR.quoN' rfl rfl rfl rfl rfl rfl (g:=?_)|refine GoR.shlN' rfl rfl rfl rfl rfl rfl rfl (g:=?_)|refine GoR.orN' rfl rfl rfl rfl rfl rfl (g:=?_))|(refine GoR.kk 5 rfl ?_;first|refine GoR.len rfl rfl rfl rfl rfl ?_|refine GoR.lenStr rfl rfl rfl rfl rfl ?_|refine GoR.capB rfl rfl rfl rfl rfl ?_)|(refine GoR.kk 7 rfl ?_;first|refine GoR.pickE' rfl rfl rfl rfl rfl (hx:=rfl) (hy:=rfl) (g:=?_)|refine GoR.pickN' rfl rfl rfl rfl rfl (hx:=rfl) (hy:=rfl) (g:=?_)|refine GoR.pickB rfl rfl rfl rfl rfl rfl rfl ?_)|(refine GoR.kk 8 rfl ?_;first|refine GoR.boxA rfl rfl rfl rfl rfl ?_|refine GoR.boxS rfl rfl rfl rfl rfl rfl ?_|refine GoR.alloc rfl rfl rfl rfl ?_)|(refine GoR.kk 9 rfl ?_;first|refine GoR.strV' rfl rfl rfl rfl rfl (g:=?_)|refine GoR.conv_u8 rfl rfl rfl rfl rfl ?_|refine GoR.convW' rfl rfl rfl rfl rfl (g:=?_)|refine GoR.conv_u16 rfl rfl rfl rfl rfl ?_|refine GoR.conv_u32 rfl rfl rfl rfl rfl ?_)|(refine GoR.kk 10 rfl ?_;first|refine GoR.build' rfl rfl rfl rfl rfl rfl (g:=?_))|(refine GoR.kk 11 rfl ?_;first|refine GoR.extract rfl rfl rfl rfl rfl rfl ?_|refine GoR.not rfl rfl rfl rfl rfl ?_|refine GoR.nilCheck rfl rfl rfl rfl rfl ?_|refine GoR.nilCheckF rfl rfl rfl rfl rfl ?_|refine GoR.makeFunc rfl rfl rfl rfl rfl rfl ?_)|(refine Go.kk 0 rfl ?_;refine Go.seq ?_)|(refine Go.kk 1 rfl ?_;refine Go.region (by kernel_rfl) rfl ?_)|(refine Go.kk 3 rfl ?_;first|refine Go.cond_t' rfl (g:=?_)|refine Go.cond_f' rfl (g:=?_))|(refine Go.kk 4 rfl ?_;refine Go.block ?_)|(refine Go.kk 5 rfl ?_;first|refine Go.skip ?_|refine Go.ret ?_|refine Go.exit ?_|refine Go.scope ?_)|refine Go.leave_normal ?_|refine Go.leave_same ?_|refine Go.leave_ret ?_|refine Go.ret_code ?_|refine Go.exit_code ?_|refine Go.leave_other rfl ?_|refine Go.sc_normal ?_|refine Go.sc_ret ?_|refine Go.sc_exit ?_|refine Go.exit_back ?_|refine Go.ret_back ?_))
      refine Go.loud (by kernel_rfl) rfl ?_
      (refine Go.runL (g:=?_))
      refine GoL.bin rfl rfl rfl rfl rfl rfl ha ?_
      (refine Go.runL (g:=?_))
      refine GoL.lookup2 rfl rfl rfl rfl rfl rfl G5.mp.imap ?_
      rw [al_dn32]
      have sr5 := G5.mp.lt
      have sl5 := AHeap.lt gs5
      have stop : nc ∉ ks' → T = (c, ks') := fun hk => by
        rw [← hset]
        cases f with
        | zero => rfl
        | succ f => unfold settleN; rw [hnc, if_neg hk]
      by_cases hk : nc ∈ ks'
      · rw [if_pos hk]
        simp only [Option.getD_some, Option.isSome_some]
        (refine Go.runL (g:=?_))
        refine GoL.store' rfl rfl rfl rfl rfl (hl:=rfl) (h1:=rfl) (h3:=rfl) (g:=?_)
        (refine Go.runL (g:=?_))
        (refine GoL.end_ (hl := by (simp only [List.nil_append, List.cons_append, AHeap.n_push, AHeap.n_put]); repeat (first | exact loudP.nil | refine loudP.none ?_ | refine loudP.new (fun _ hb => absurd hb List.not_mem_nil) ?_ | refine loudP.row (by repeat (first | exact loudRowP.nil | refine loudRowP.none ?_ | refine loudRowP.bef (by decide +kernel) ?_ | refine loudRowP.apart (by first | exact .inl rfl | exact .inr (by simp)) rfl (fun i hi => by simp only [List.mem_cons, List.not_mem_nil, or_false] at hi; subst hi; first | (simp; fail_if_success focus skip) | (simp; omega)) ?_)) ?_)) ?_)
        refine Go.name ?_
        intro H2 e2
        have s2' : Same H H2 := by subst e2; exact ((Same.refl H).push _).put (Nat.le_refl _) _
        clear e2
        have G6 := G5.same s2'
        have gs6 := G6.sc
        have m6 := s2'.1
        (refine Go.run (g:=?_))
        refine GoR.bin rfl rfl rfl rfl rfl rfl ha ?_
        (refine Go.run (g:=?_))
        have gm6 := G6.mp
        refine Go.name ?_
        intro h7 e7
        have k7 : Keeps [sb] H2 h7 := by subst e7; exact (Keeps.rf _ _).pt (.inl (by simp)) _
        have gs7 : h7.get sb = some (.cells [.int .u32 nc, .map (some r), .slice da ds.length dc] 83) := by subst e7; exact get_put_self gs6
        have n7 : h7.n = H2.n := by subst e7; rfl
        have M7 := gm6.keeps k7 (by simp; exact Ne.symm G6.ap.1)
        clear e7
        have V7 := G6.dv.keeps k7 (fun j hj hm => by simp only [List.mem_singleton] at hm; subst hm; exact G6.ap.2.1 hj)
        refine Go.loud (by kernel_rfl) rfl ?_
        (refine Go.runL (g:=?_))
        refine GoL.deleteS rfl rfl rfl rfl rfl M7 (.inl (by simp)) ?_
        intro h8 M8 k8 n8
        (refine Go.runL (g:=?_))
        (refine GoL.end_ (hl := by (simp only [List.nil_append, List.cons_append, AHeap.n_push, AHeap.n_put]); repeat (first | exact loudP.nil | refine loudP.none ?_ | refine loudP.new (fun _ hb => absurd hb List.not_mem_nil) ?_ | refine loudP.row (by repeat (first | exact loudRowP.nil | refine loudRowP.none ?_ | refine loudRowP.bef (by decide +kernel) ?_ | refine loudRowP.apart (by first | exact .inl rfl | exact .inr (by simp)) rfl (fun i hi => by simp only [List.mem_cons, List.not_mem_nil, or_false] at hi; subst hi; first | (simp; fail_if_success focus skip) | (simp; omega)) ?_)) ?_)) ?_)
        rw [adel_dn32] at M8
        have gs8 := k8.get gs7 (by simp; exact G6.ap.1)
        have V8 := V7.keeps k8 (fun j hj hm => by simp only [List.mem_singleton] at hm; subst hm; exact G6.ap.2.2 hj)
        have le : (ks'.erase nc).length + 1 = ks'.length := by
          have := List.length_erase_of_mem hk
          have := List.length_pos_of_mem hk
          omega
        (refine Go.run (g:=?_))
        obtain ⟨f', rfl⟩ : ∃ f', f = f' + 1 := ⟨f - 1, by omega⟩
        have hset' : settleN f' nc (ks'.erase nc) = T := by
          rw [← hset]
          conv => rhs; unfold settleN
          rw [hnc, if_pos hk]
        refine Go.again (f', nc, ks'.erase nc, h8) ⟨by simp only; omega, hset', by simp only; omega, gs8, M8, V8, fun k hk => G6.kb k (List.mem_of_mem_erase hk), G6.db, hnb, G6.ap, G6.ow⟩ (by simp only; omega) ⟨rfl, trivial⟩ rfl rfl
      · rw [if_neg hk]
        simp only [Option.getD_none, Option.isSome_none]
        (refine Go.runL (g:=?_))
        refine GoL.store' rfl rfl rfl rfl rfl (hl:=rfl) (h1:=rfl) (h3:=rfl) (g:=?_)
        (refine Go.runL (g:=?_))
        (refine GoL.end_ (hl := by (simp only [List.nil_append, List.cons_append, AHeap.n_push, AHeap.n_put]); repeat (first | exact loudP.nil | refine loudP.none ?_ | refine loudP.new (fun _ hb => absurd hb List.not_mem_nil) ?_ | refine loudP.row (by repeat (first | exact loudRowP.nil | refine loudRowP.none ?_ | refine loudRowP.bef (by decide +kernel) ?_ | refine loudRowP.apart (by first | exact .inl rfl | exact .inr (by simp)) rfl (fun i hi => by simp only [List.mem_cons, List.not_mem_nil, or_false] at hi; subst hi; first | (simp; fail_if_success focus skip) | (simp; omega)) ?_)) ?_)) ?_)
        refine Go.name ?_
        intro H2 e2
        have s2' : Same H H2 := by subst e2; exact ((Same.refl H).push _).put (Nat.le_refl _) _
        clear e2
        have G6 := G5.same s2'
        (refine Go.run (g:=?_))
        (first|refine Go.finT (by first|exact .inr rfl|exact .inl rfl) rfl ?_|refine Go.fin1 (by first|exact .inr rfl|exact .inl rfl) rfl (hq:=?_))
        rw [stop hk]
        exact ⟨rfl, da, dc, G6, fun i hi => .inl hi⟩
end Go.Proofs.Ytfcfgmhcphmefaa
namespace Go.Proofs.Ytfcfgmhcphmefaa
open Go.Sort
set_option maxRecDepth 100000
attribute [local irreducible] Go GoR GoL
section
variable {P : Program} {h : AHeap} {o : Oper} {ov : Ov} {W : Nat → Prop} {q : Bool} {N : Nat} {ops : Array Oper} {os : List Oper} {k : List It} {df : List Nat} {Q : PQ} {d : Nat} {b₀ : Bool}
theorem GoR.makeMapS {t : TypeId} (ho : o.op = .makeMap t none) (hd : o.dst = some d) (hN : dOk d N = true) (hgd : o.guard = none) (g : ∀ h', (∀ K, SMap h' h.n K []) → Same h h' → h'.n = h.n + 1 → GoR P W q N ops b₀ os k ((d, .map (some h.n)) :: ov) df h' Q) : GoR P W q N ops b₀ (o :: os) k ov df h Q := GoR.step (r := ⟨.map (some h.n), h.push (.map #[] 0), [], [], false, false⟩) hgd hd hN (S.makeMap ho) (.inr rfl) (fun i hi => by cases hi) (g _ (fun K => ⟨_, _, AHeap.get_push_same _ _, rfl, by simp [stampsOk]⟩) ((Same.refl h).push _) rfl)
end
set_option maxHeartbeats 4000000 in
theorem gnew_spec (cum : Nat) (hc : cum < 4294967296) (h : AHeap) : CallS Try.prog [] 9 [.int .u32 cum] h fun v h' => ∃ sb r, v = .pointer (some ⟨sb, 0, none⟩) ∧ GSet h' sb r cum [] none 0 [] h.n := by
  (refine CallS.of1 Try.func9 rfl Try.ntmps9 Try.results9 rfl ?_)
  (refine Go.run (g:=?_))
  refine GoR.makeMapS rfl rfl rfl rfl ?_
  intro h1 M1 s1 n1
  (refine Go.run (g:=?_))
  refine Go.name ?_
  intro h2 e2
  have s2 : Same h1 h2 := by subst e2; exact (Same.refl h1).push _
  have g2 : h2.get h1.n = some (.cells [.int .u32 cum, .map (some h.n), .slice none 0 0] 83) := by subst e2; exact AHeap.get_push_same _ _
  clear e2
  (first|refine Go.finT (by first|exact .inr rfl|exact .inl rfl) rfl ?_|refine Go.fin1 (by first|exact .inr rfl|exact .inl rfl) rfl (hq:=?_))
  have m1 := s1.1
  refine ⟨_, _, rfl, g2, (M1 _).same s2, ?_, ?_, ?_, hc, ⟨by omega, ?_, ?_⟩, ⟨by omega, Nat.le_refl _, ?_⟩⟩
  · exact Sv.nil
  · intro k hk; cases hk
  · intro k hk; cases hk
  · simp [blk]
  · simp [blk]
  · intro j hj; simp [blk] at hj
set_option maxHeartbeats 4000000 in
theorem gnext_spec (sb r cum : Nat) (ks : List Nat) (da : Option Addr) (dc : Nat) (ds : List Nat) (n0 t : Nat) (ht : t < 4294967296) (h : AHeap) (G : GSet h sb r cum ks da dc ds n0) : CallS Try.prog [] 23 [.pointer (some ⟨sb, 0, none⟩), .int .u32 t] h fun v h' => v = .bool (decide (t = next32 cum)) ∧ h' = h := by
  have gs := G.sc
  have ha := add32 cum
  generalize next32 cum = nc at *
  (refine CallS.of2 Try.func23 rfl Try.ntmps23 Try.results23 rfl ?_)
  (refine Go.run (g:=?_))
  refine GoR.eqRef rfl rfl rfl rfl (.inr rfl) rfl rfl (aEq_ptrNil setU _) ?_
  (refine Go.run (g:=?_))
  refine GoR.bin rfl rfl rfl rfl rfl rfl ha ?_
  (refine Go.run (g:=?_))
  (first|refine Go.finT (by first|exact .inr rfl|exact .inl rfl) rfl ?_|refine Go.fin1 (by first|exact .inr rfl|exact .inl rfl) rfl (hq:=?_))
  refine ⟨?_, rfl⟩
  simp only [retV]
  exact congrArg Value.bool (decide_eq_decide.2 (by omega))
set_option maxHeartbeats 4000000 in
theorem gdups_spec (sb r cum : Nat) (ks : List Nat) (da : Option Addr) (dc : Nat) (ds : List Nat) (n0 : Nat) (h : AHeap) (G : GSet h sb r cum ks da dc ds n0) : CallS Try.prog [sb] 13 [.pointer (some ⟨sb, 0, none⟩)] h fun v h' => v = .slice da ds.length dc ∧ GSet h' sb r cum ks none 0 [] n0 ∧ Sv h' 22 1 da ds.length dc (u32s' ds) := by
  have gs := G.sc
  have hlt := AHeap.lt gs
  (refine CallS.of1 Try.func13 rfl Try.ntmps13 Try.results13 rfl ?_)
  (refine Go.run (g:=?_))
  refine GoR.eqRef rfl rfl rfl rfl (.inl rfl) rfl rfl (aEq_ptrNil setU _) ?_
  (refine Go.run (g:=?_))
  refine Go.name ?_
  intro h2 e2
  have k2 : Keeps [sb] h h2 := by subst e2; exact (Keeps.rf _ _).pt (.inl (by simp)) _
  have g2 : h2.get sb = some (.cells [.int .u32 cum, .map (some r), .slice none 0 0] 83) := by subst e2; exact get_put_self gs
  clear e2
  (first|refine Go.finT (by first|exact .inr rfl|exact .inl rfl) rfl ?_|refine Go.fin1 (by first|exact .inr rfl|exact .inl rfl) rfl (hq:=?_))
  refine ⟨rfl, ⟨g2, G.mp.keeps k2 (by simp; exact Ne.symm G.ap.1), Sv.nil, G.kb, (fun k hk => by cases hk), G.cb, ⟨G.ap.1, by simp [blk], by simp [blk]⟩, ⟨G.ow.1, G.ow.2.1, fun j hj => by simp [blk] at hj⟩⟩, G.dv.keeps k2 (fun j hj hm => by simp only [List.mem_singleton] at hm; subst hm; exact G.ap.2.1 hj)⟩
end Go.Proofs.Ytfcfgmhcphmefaa
namespace Go.Proofs.Ytfcfgmhcphmefaa
open Go.Sort
set_option maxRecDepth 100000
attribute [local irreducible] Go GoR GoL
end Go.Proofs.Ytfcfgmhcphmefaa
namespace Go.Proofs.Ytfcfgmhcphmefaa
open Go.Sort
set_option maxRecDepth 100000
attribute [local irreducible] Go GoR GoL
abbrev i64s (ws : List Nat) : List Value := ws.map fun (n : Nat) => Value.int .i64 (n : Int)
structure RSet (h : AHeap) (rb cum : Nat) (wa : Option Addr) (wc : Nat) (ws : List Nat) (da : Option Addr) (dc : Nat) (ds : List Nat) (n0 : Nat) : Prop where
  sc : h.get rb = some (.cells [.int .u32 cum, .slice wa ws.length wc, .slice da ds.length dc] 31)
  wv : Sv h 2 1 wa ws.length wc (i64s ws)
  dv : Sv h 22 1 da ds.length dc (u32s' ds)
  wb : ∀ w ∈ ws, w < 65536
  db : ∀ k ∈ ds, k < 4294967296
  cb : cum < 4294967296
  ap : rb ∉ blk wa ∧ rb ∉ blk da ∧ ∀ j ∈ blk wa, j ∉ blk da
  ow : n0 ≤ rb ∧ Own n0 wa ∧ Own n0 da
theorem RSet.same {h h' : AHeap} {rb cum : Nat} {wa da : Option Addr} {wc dc : Nat} {ws ds : List Nat} {n0 : Nat} (g : RSet h rb cum wa wc ws da dc ds n0) (s : Same h h') : RSet h' rb cum wa wc ws da dc ds n0 := { g with sc := s.get g.sc, wv := g.wv.same s, dv := g.dv.same s }
end Go.Proofs.Ytfcfgmhcphmefaa
namespace Go.Proofs.Ytfcfgmhcphmefaa
open Go.Sort
set_option maxRecDepth 100000
attribute [local irreducible] Go GoR GoL
end Go.Proofs.Ytfcfgmhcphmefaa
namespace Go.Proofs.Ytfcfgmhcphmefaa
open Go.Sort
set_option maxRecDepth 100000
attribute [local irreducible] Go GoR GoL
def hasW (cum : Nat) (ws : List Nat) (t : Nat) : Bool := decide (spanN cum t ∈ ws) || (decide (spanN cum t = 0) || bef32 t cum)
end Go.Proofs.Ytfcfgmhcphmefaa
namespace Go.Proofs.Ytfcfgmhcphmefaa
open Go.Sort
set_option maxRecDepth 100000
attribute [local irreducible] Go GoR GoL
set_option maxHeartbeats 16000000 in
theorem sameTsns_spec (aa ab : Option Addr) (ca cb : Nat) (xs ys : List Nat) (hl : xs.length ≤ 70000) (hl2 : ys.length ≤ 70000) (h : AHeap) (A1 : Sv h 22 1 aa xs.length ca (u32s' xs)) (A2 : Sv h 22 1 ab ys.length cb (u32s' ys)) : CallS Try.prog [] 12 [.slice aa xs.length ca, .slice ab ys.length cb] h fun v h' => v = .bool (decide (xs = ys)) ∧ h' = h := by
  have hle : (u32s' xs).length = xs.length := by simp
  have hle2 : (u32s' ys).length = ys.length := by simp
  (refine CallS.of2 Try.func12 rfl Try.ntmps12 Try.results12 rfl ?_)
  by_cases hlen : xs.length = ys.length
  case neg =>
    have hne : xs ≠ ys := fun q => hlen (by rw [q])
    rw [decide_eq_false hne]
    (refine Go.run (g:=?_))
    (first|refine Go.finT (by first|exact .inr rfl|exact .inl rfl) rfl ?_|refine Go.fin1 (by first|exact .inr rfl|exact .inl rfl) rfl (hq:=?_))
    exact ⟨rfl, rfl⟩
  (refine Go.run (g:=?_))
  refine Go.loop (α := Nat) (fun i => [(5, .int .i64 i), (0, .slice aa xs.length ca), (1, .slice ab ys.length cb)]) (fun _ => []) (fun _ => h) (fun i => i ≤ xs.length ∧ xs.take i = ys.take i) (fun i => xs.length - i) 0 ⟨Nat.zero_le _, rfl⟩ ⟨rfl, rfl, rfl, trivial⟩ rfl rfl ?_
  rintro i ⟨hi, hn⟩
  rcases Nat.lt_or_ge i xs.length with i0 | i0
  · have i1 : i < ys.length := by omega
    have c0 : (u32s' xs)[i]? = some (.int .u32 (xs[i] : Nat)) := by simp [i0]
    have c1 : (u32s' ys)[i]? = some (.int .u32 (ys[i] : Nat)) := by simp [i1]
    have tx : xs.take (i + 1) = xs.take i ++ [xs[i]] := by simp
    have ty : ys.take (i + 1) = ys.take i ++ [ys[i]] := by simp
    have hne : xs[i] ≠ ys[i] → xs ≠ ys := fun q e => q (by subst e; rfl)
    generalize xs[i] = x at *
    generalize ys[i] = y at *
    by_cases e : x = y
    · subst e
      (refine Go.run (g:=?_))
      exact Go.again (i + 1) ⟨i0, by rw [tx, ty, hn]⟩ (by omega) ⟨rfl, rfl, rfl, trivial⟩ rfl rfl
    · rw [decide_eq_false (hne e)]
      (refine Go.run (g:=?_))
      (first|refine Go.finT (by first|exact .inr rfl|exact .inl rfl) rfl ?_|refine Go.fin1 (by first|exact .inr rfl|exact .inl rfl) rfl (hq:=?_))
      exact ⟨rfl, rfl⟩
  have hie : i = xs.length := by omega
  subst hie
  rw [List.take_length, hlen, List.take_length] at hn
  rw [decide_eq_true hn]
  (refine Go.run (g:=?_))
  (first|refine Go.finT (by first|exact .inr rfl|exact .inl rfl) rfl ?_|refine Go.fin1 (by first|exact .inr rfl|exact .inl rfl) rfl (hq:=?_))
  exact ⟨rfl, rfl⟩
end Go.Proofs.Ytfcfgmhcphmefaa
namespace Go.Proofs.Ytfcfgmhcphmefaa
open Go.Sort
set_option maxRecDepth 100000
attribute [local irreducible] Go GoR GoL
instance seqGap8 (a b a' b' : Int) : SEq Try.prog 49 [.int .u16 a, .int .u16 b] [.int .u16 a', .int .u16 b'] (a == a' && (b == b' && true)) := ⟨by kernel_rfl⟩
theorem gcs_get : ∀ {l : List (Nat × Nat)} {i : Nat} (hi : i < l.length), ((gcs l).drop (i * 2)).take 2 = [.int .u16 (l[i].1 : Nat), .int .u16 (l[i].2 : Nat)]
  | x :: l, 0, _ => rfl
  | x :: l, i + 1, hi => by
    have := gcs_get (l := l) (i := i) (by simpa using hi)
    rw [show (i + 1) * 2 = i * 2 + 1 + 1 by omega]
    exact this
set_option maxHeartbeats 16000000 in
theorem sameGaps_spec (aa ab : Option Addr) (ca cb : Nat) (xs ys : List (Nat × Nat)) (hl : xs.length ≤ 70000) (hl2 : ys.length ≤ 70000) (h : AHeap) (A1 : Sv h 49 2 aa xs.length ca (gcs xs)) (A2 : Sv h 49 2 ab ys.length cb (gcs ys)) : CallS Try.prog [] 17 [.slice aa xs.length ca, .slice ab ys.length cb] h fun v h' => v = .bool (decide (xs = ys)) ∧ h' = h := by
  (refine CallS.of2 Try.func17 rfl Try.ntmps17 Try.results17 rfl ?_)
  by_cases hlen : xs.length = ys.length
  case neg =>
    have hne : xs ≠ ys := fun q => hlen (by rw [q])
    rw [decide_eq_false hne]
    (refine Go.run (g:=?_))
    (first|refine Go.finT (by first|exact .inr rfl|exact .inl rfl) rfl ?_|refine Go.fin1 (by first|exact .inr rfl|exact .inl rfl) rfl (hq:=?_))
    exact ⟨rfl, rfl⟩
  (refine Go.run (g:=?_))
  refine Go.loop (α := Nat) (fun i => [(5, .int .i64 i), (0, .slice aa xs.length ca), (1, .slice ab ys.length cb)]) (fun _ => []) (fun _ => h) (fun i => i ≤ xs.length ∧ xs.take i = ys.take i) (fun i => xs.length - i) 0 ⟨Nat.zero_le _, rfl⟩ ⟨rfl, rfl, rfl, trivial⟩ rfl rfl ?_
  rintro i ⟨hi, hn⟩
  rcases Nat.lt_or_ge i xs.length with i0 | i0
  · have i1 : i < ys.length := by omega
    have c0 := gcs_get i0
    have c1 := gcs_get i1
    have hbe : i * 2 + 2 ≤ (gcs xs).length := by rw [gcs_len]; omega
    have hbe1 : i * 2 + 2 ≤ (gcs ys).length := by rw [gcs_len]; omega
    have tx : xs.take (i + 1) = xs.take i ++ [xs[i]] := by simp
    have ty : ys.take (i + 1) = ys.take i ++ [ys[i]] := by simp
    have hne : xs[i] ≠ ys[i] → xs ≠ ys := fun q e => q (by subst e; rfl)
    generalize xs[i] = x at *
    generalize ys[i] = y at *
    obtain ⟨x1, x2⟩ := x
    obtain ⟨y1, y2⟩ := y
    simp only at c0 c1
    by_cases e : (x1, x2) = (y1, y2)
    · obtain ⟨rfl, rfl⟩ := Prod.mk.inj e
      (refine Go.run (g:=?_))
      rw [show (!(((x1 : Int) == (x1 : Int)) && (((x2 : Int) == (x2 : Int)) && true))) = false from by simp]
      (refine Go.run (g:=?_))
      exact Go.again (i + 1) ⟨i0, by rw [tx, ty, hn]⟩ (by omega) ⟨rfl, rfl, rfl, trivial⟩ rfl rfl
    · rw [decide_eq_false (hne e)]
      have hb : (!(((x1 : Int) == (y1 : Int)) && (((x2 : Int) == (y2 : Int)) && true))) = true := by
        rw [Bool.not_eq_true', Bool.and_true, Bool.and_eq_false_iff]
        by_cases q : x1 = y1
        · exact .inr (by rw [beq_eq_false_iff_ne]; intro z; exact e (by rw [q]; congr 1; omega))
        · exact .inl (by rw [beq_eq_false_iff_ne]; intro z; exact q (by omega))
      (refine Go.run (g:=?_))
      rw [hb]
      (refine Go.run (g:=?_))
      (first|refine Go.finT (by first|exact .inr rfl|exact .inl rfl) rfl ?_|refine Go.fin1 (by first|exact .inr rfl|exact .inl rfl) rfl (hq:=?_))
      exact ⟨rfl, rfl⟩
  have hie : i = xs.length := by omega
  subst hie
  rw [List.take_length, hlen, List.take_length] at hn
  rw [decide_eq_true hn]
  (refine Go.run (g:=?_))
  (first|refine Go.finT (by first|exact .inr rfl|exact .inl rfl) rfl ?_|refine Go.fin1 (by first|exact .inr rfl|exact .inl rfl) rfl (hq:=?_))
  exact ⟨rfl, rfl⟩
end Go.Proofs.Ytfcfgmhcphmefaa
namespace Go.Proofs.Ytfcfgmhcphmefaa
open Go.Sort
set_option maxRecDepth 100000
attribute [local irreducible] Go GoR GoL
def atW (w : Nat) : List Nat → Nat
  | [] => 0
  | x :: l => if x < w then atW w l + 1 else 0
def insW (ws : List Nat) (w : Nat) : List Nat := ws.take (atW w ws) ++ w :: ws.drop (atW w ws)
def settleW : Nat → Nat → List Nat → Nat × List Nat
  | 0, c, ws => (c, ws)
  | n + 1, c, ws => if ws.head? = some 1 then settleW n (next32 c) (ws.tail.map (· - 1)) else (c, ws)
def addW (cum : Nat) (ws ds : List Nat) (t : Nat) : Nat × Nat × List Nat × List Nat :=
  if hasW cum ws t = true then (1, cum, ws, if ds.length < 16 then ds ++ [t] else ds)
  else if 65535 < spanN cum t then (2, cum, ws, ds)
  else (0, (settleW (ws.length + 1) cum (insW ws (spanN cum t))).1, (settleW (ws.length + 1) cum (insW ws (spanN cum t))).2, ds)
theorem insW_nil (w : Nat) : insW [] w = [w] := rfl
theorem insW_cons (x w : Nat) (l : List Nat) : insW (x :: l) w = if x < w then x :: insW l w else w :: x :: l := by
  unfold insW
  by_cases h : x < w
  · rw [if_pos h]; simp [atW, h]
  · rw [if_neg h]; simp [atW, h]
theorem insW_perm (w : Nat) (l : List Nat) : (insW l w).Perm (w :: l) := by
  unfold insW
  have := List.perm_middle (a := w) (l₁ := l.take (atW w l)) (l₂ := l.drop (atW w l))
  rwa [List.take_append_drop] at this
theorem insW_mem {w y : Nat} {l : List Nat} : y ∈ insW l w ↔ y = w ∨ y ∈ l := by
  rw [(insW_perm w l).mem_iff, List.mem_cons]
theorem insW_sorted {w : Nat} : ∀ {l : List Nat}, l.Pairwise (· < ·) → w ∉ l → (insW l w).Pairwise (· < ·)
  | [], _, _ => by rw [insW_nil]; exact List.pairwise_singleton _ _
  | x :: l, h, hn => by
    rw [insW_cons]
    rw [List.pairwise_cons] at h
    simp only [List.mem_cons, not_or] at hn
    split
    · rename_i q
      refine List.pairwise_cons.2 ⟨fun y hy => ?_, insW_sorted h.2 hn.2⟩
      rcases insW_mem.1 hy with rfl | z
      · exact q
      · exact h.1 y z
    · rename_i q
      refine List.pairwise_cons.2 ⟨fun y hy => ?_, List.pairwise_cons.2 h⟩
      rcases List.mem_cons.1 hy with rfl | z
      · omega
      · have := h.1 y z; omega
end Go.Proofs.Ytfcfgmhcphmefaa
namespace Go.Proofs.Ytfcfgmhcphmefaa
open Go.Sort
set_option maxRecDepth 100000
attribute [local irreducible] Go GoR GoL
def ustep (out : List (Nat × Nat)) (w : Nat) : List (Nat × Nat) :=
  match out.getLast? with
  | some (s, e) => if e + 1 = w then out.dropLast ++ [(s, w)] else out ++ [(w, w)]
  | none => out ++ [(w, w)]
def ufold (ws : List Nat) : List (Nat × Nat) := ws.foldl ustep []
def rgaps (ws : List Nat) : List (Nat × Nat) := (ufold ws).take 64
theorem ustep_snoc (l : List (Nat × Nat)) (x : Nat × Nat) (w : Nat) : ustep (l ++ [x]) w = if x.2 + 1 = w then l ++ [(x.1, w)] else l ++ [x] ++ [(w, w)] := by
  unfold ustep
  simp
end Go.Proofs.Ytfcfgmhcphmefaa
namespace Go.Proofs.Ytfcfgmhcphmefaa
open Go.Sort
theorem span_inj {c a b : Nat} (hc : c < 4294967296) (ha : a < 4294967296) (hb : b < 4294967296) (e : spanN c a = spanN c b) : a = b := by unfold spanN at e; omega
theorem span_zero {c a : Nat} (hc : c < 4294967296) (ha : a < 4294967296) : spanN c a = 0 ↔ a = c := by unfold spanN; omega
theorem span_one {c : Nat} (hc : c < 4294967296) : spanN c (next32 c) = 1 := by unfold spanN next32; omega
theorem span_next {c k : Nat} (hc : c < 4294967296) (hk : k < 4294967296) (h : 1 ≤ spanN c k) : spanN (next32 c) k = spanN c k - 1 := by unfold spanN next32 at *; omega
structure Alike (c : Nat) (ks ws : List Nat) : Prop where
  pm : ws.Perm (ks.map (spanN c))
  so : ws.Pairwise (· < ·)
  po : ∀ w ∈ ws, 1 ≤ w
  lt : ∀ w ∈ ws, w < 65536
  kb : ∀ k ∈ ks, k < 4294967296
  cb : c < 4294967296
theorem Alike.len {c : Nat} {ks ws : List Nat} (r : Alike c ks ws) : ws.length = ks.length := by have := r.pm.length_eq; rwa [List.length_map] at this
theorem Alike.mem {c t : Nat} {ks ws : List Nat} (r : Alike c ks ws) (ht : t < 4294967296) : t ∈ ks ↔ spanN c t ∈ ws := by
  rw [r.pm.mem_iff, List.mem_map]
  constructor
  · exact fun h => ⟨t, h, rfl⟩
  · rintro ⟨k, hk, e⟩
    rw [← span_inj r.cb (r.kb k hk) ht e]; exact hk
theorem Alike.has {c t : Nat} {ks ws : List Nat} (r : Alike c ks ws) (ht : t < 4294967296) : hasN c ks t = hasW c ws t := by
  unfold hasN hasW
  rw [decide_eq_decide.2 (r.mem ht), decide_eq_decide.2 (span_zero r.cb ht)]
theorem Alike.start {c : Nat} (hc : c < 4294967296) : Alike c [] [] := ⟨.refl _, .nil, (fun w h => by cases h), (fun w h => by cases h), (fun w h => by cases h), hc⟩
theorem settleN_succ (n c : Nat) (ks : List Nat) : settleN (n + 1) c ks = if next32 c ∈ ks then settleN n (next32 c) (ks.erase (next32 c)) else (c, ks) := rfl
theorem settleW_succ (n c : Nat) (ws : List Nat) : settleW (n + 1) c ws = if ws.head? = some 1 then settleW n (next32 c) (ws.tail.map (· - 1)) else (c, ws) := rfl
theorem settleN_yes {n c : Nat} {ks : List Nat} (h : next32 c ∈ ks) : settleN (n + 1) c ks = settleN n (next32 c) (ks.erase (next32 c)) := by rw [settleN_succ, if_pos h]
theorem settleN_no {n c : Nat} {ks : List Nat} (h : ¬ next32 c ∈ ks) : settleN (n + 1) c ks = (c, ks) := by rw [settleN_succ, if_neg h]
theorem settleW_yes {n c : Nat} {l : List Nat} : settleW (n + 1) c (1 :: l) = settleW n (next32 c) (l.map (· - 1)) := by rw [settleW_succ, if_pos List.head?_cons]; rw [List.tail_cons]
theorem settleW_no {n c : Nat} {ws : List Nat} (h : ¬ ws.head? = some 1) : settleW (n + 1) c ws = (c, ws) := by rw [settleW_succ, if_neg h]
theorem map_pred {f g : Nat → Nat} {l ks : List Nat} (hp : l.Perm (ks.map f)) (h : ∀ k ∈ ks, f k - 1 = g k) : (l.map (· - 1)).Perm (ks.map g) := by
  have h2 := hp.map (· - 1)
  rw [List.map_map] at h2
  exact h2.trans (.of_eq (List.map_congr_left fun k hk => h k hk))
theorem perm_erase_map {f : Nat → Nat} {n : Nat} {l ks : List Nat} (hp : (1 :: l).Perm (ks.map f)) (hn : n ∈ ks) (h1 : f n = 1) : l.Perm ((ks.erase n).map f) := by
  have h := hp.trans ((List.perm_cons_erase hn).map f)
  rw [List.map_cons, h1] at h
  exact h.cons_inv
theorem sorted_pred {l : List Nat} (hs : (1 :: l).Pairwise (· < ·)) : (l.map (· - 1)).Pairwise (· < ·) ∧ (∀ w ∈ l.map (· - 1), 1 ≤ w) := by
  have hl : ∀ w ∈ l, 1 < w := fun w hw => (List.pairwise_cons.1 hs).1 w hw
  refine ⟨List.pairwise_map.2 ((List.pairwise_cons.1 hs).2.imp_of_mem fun ha hb hab => by have := hl _ ha; have := hl _ hb; omega), fun y hy => ?_⟩
  obtain ⟨z, hz, rfl⟩ := List.mem_map.1 hy
  have := hl z hz; omega
theorem Alike.settle (n : Nat) : ∀ {c : Nat} {ks ws : List Nat}, Alike c ks ws → (settleN n c ks).1 = (settleW n c ws).1 ∧ Alike (settleN n c ks).1 (settleN n c ks).2 (settleW n c ws).2 := by
  induction n with
  | zero => intro c ks ws r; exact ⟨rfl, r⟩
  | succ n ih =>
    intro c ks ws r
    have key : next32 c ∈ ks ↔ ws.head? = some 1 := by
      rw [r.mem (next32_lt c), span_one r.cb]
      cases hw : ws with
      | nil => simp
      | cons x l =>
        have so := r.so
        have po := r.po
        rw [hw] at so po
        rw [List.head?_cons, Option.some.injEq]
        constructor
        · intro h
          rcases List.mem_cons.1 h with h | h
          · exact h.symm
          · have := (List.pairwise_cons.1 so).1 1 h
            have := po x (by simp)
            omega
        · rintro rfl; simp
    by_cases hk : next32 c ∈ ks
    · have hh := key.1 hk
      obtain ⟨l, rfl⟩ : ∃ l, ws = 1 :: l := by
        cases ws with
        | nil => cases hh
        | cons x l => rw [List.head?_cons, Option.some.injEq] at hh; exact ⟨l, by rw [hh]⟩
      rw [settleN_yes hk, settleW_yes]
      refine ih ?_
      have hsp := sorted_pred r.so
      refine ⟨map_pred (perm_erase_map r.pm hk (span_one r.cb)) fun k hk => ?_, hsp.1, hsp.2, fun y hy => ?_, fun k hk => r.kb k (List.mem_of_mem_erase hk), next32_lt c⟩
      · have hks := List.mem_of_mem_erase hk
        exact (span_next r.cb (r.kb k hks) (r.po _ ((r.mem (r.kb k hks)).1 hks))).symm
      · obtain ⟨z, hz, rfl⟩ := List.mem_map.1 hy
        have := r.lt z (List.mem_cons_of_mem _ hz); omega
    · have hh : ¬ ws.head? = some 1 := fun q => hk (key.2 q)
      rw [settleN_no hk, settleW_no hh]
      exact ⟨rfl, r⟩
theorem addN_has {c t : Nat} {ks : List Nat} (ds : List Nat) (h : hasN c ks t = true) : addN c ks ds t = (1, c, ks, if ds.length < 16 then ds ++ [t] else ds) := by unfold addN; rw [if_pos h]
theorem addN_far {c t : Nat} {ks : List Nat} (ds : List Nat) (h : ¬ hasN c ks t = true) (h2 : 65535 < spanN c t) : addN c ks ds t = (2, c, ks, ds) := by unfold addN; rw [if_neg h, if_pos h2]
theorem addN_new {c t : Nat} {ks : List Nat} (ds : List Nat) (h : ¬ hasN c ks t = true) (h2 : ¬ 65535 < spanN c t) {X : Nat × List Nat} (hX : settleN (ks.length + 1) c (ks ++ [t]) = X) : addN c ks ds t = (0, X.1, X.2, ds) := by unfold addN; rw [if_neg h, if_neg h2, hX]
theorem addW_has {c t : Nat} {ws : List Nat} (ds : List Nat) (h : hasW c ws t = true) : addW c ws ds t = (1, c, ws, if ds.length < 16 then ds ++ [t] else ds) := by unfold addW; rw [if_pos h]
theorem addW_far {c t : Nat} {ws : List Nat} (ds : List Nat) (h : ¬ hasW c ws t = true) (h2 : 65535 < spanN c t) : addW c ws ds t = (2, c, ws, ds) := by unfold addW; rw [if_neg h, if_pos h2]
theorem addW_new {c t : Nat} {ws : List Nat} (ds : List Nat) (h : ¬ hasW c ws t = true) (h2 : ¬ 65535 < spanN c t) {X : Nat × List Nat} (hX : settleW (ws.length + 1) c (insW ws (spanN c t)) = X) : addW c ws ds t = (0, X.1, X.2, ds) := by unfold addW; rw [if_neg h, if_neg h2, hX]
theorem insW_perm_map {f : Nat → Nat} {t : Nat} {ws ks : List Nat} (p : ws.Perm (ks.map f)) : (insW ws (f t)).Perm ((ks ++ [t]).map f) := by
  rw [List.map_append, List.map_cons, List.map_nil]
  exact (insW_perm _ _).trans ((p.cons _).trans (List.perm_append_singleton _ _).symm)
theorem Alike.ins {c t : Nat} {ks ws : List Nat} (r : Alike c ks ws) (ht : t < 4294967296) (h : ¬ hasW c ws t = true) (h2 : ¬ 65535 < spanN c t) : Alike c (ks ++ [t]) (insW ws (spanN c t)) := by
  have hwn : spanN c t ∉ ws := fun q => h (by unfold hasW; rw [decide_eq_true q, Bool.true_or])
  have hw0 : spanN c t ≠ 0 := fun q => h (by unfold hasW; rw [decide_eq_true q, Bool.true_or, Bool.or_true])
  have hp := insW_perm_map (t := t) r.pm
  refine ⟨hp, insW_sorted r.so hwn, fun y hy => ?_, fun y hy => ?_, fun k hk => ?_, r.cb⟩
  · rcases insW_mem.1 hy with q | q
    · omega
    · exact r.po y q
  · rcases insW_mem.1 hy with q | q
    · omega
    · exact r.lt y q
  · rcases List.mem_append.1 hk with q | q
    · exact r.kb k q
    · rw [List.mem_singleton.1 q]; exact ht
theorem Alike.news {c t : Nat} {ks ws : List Nat} (r : Alike c ks ws) (ht : t < 4294967296) (hH : ¬ hasW c ws t = true) (h2 : ¬ 65535 < spanN c t) : ∃ X Y, settleN (ks.length + 1) c (ks ++ [t]) = X ∧ settleW (ws.length + 1) c (insW ws (spanN c t)) = Y ∧ X.1 = Y.1 ∧ Alike X.1 X.2 Y.2 := by
  have hs := (r.ins ht hH h2).settle (ks.length + 1)
  rw [r.len]
  exact ⟨_, _, rfl, rfl, hs⟩
theorem Alike.add {c t : Nat} {ks ws ds : List Nat} (r : Alike c ks ws) (ht : t < 4294967296) : (addN c ks ds t).1 = (addW c ws ds t).1 ∧ (addN c ks ds t).2.1 = (addW c ws ds t).2.1 ∧ (addN c ks ds t).2.2.2 = (addW c ws ds t).2.2.2 ∧ Alike (addN c ks ds t).2.1 (addN c ks ds t).2.2.1 (addW c ws ds t).2.2.1 := by
  have hh := r.has ht
  by_cases hH : hasW c ws t = true
  · rw [addN_has ds (hh.trans hH), addW_has ds hH]
    exact ⟨rfl, rfl, rfl, r⟩
  · have hN : ¬ hasN c ks t = true := by rw [hh]; exact hH
    by_cases h2 : 65535 < spanN c t
    · rw [addN_far ds hN h2, addW_far ds hH h2]
      exact ⟨rfl, rfl, rfl, r⟩
    · obtain ⟨X, Y, h3, h4, h5, h6⟩ := r.news ht hH h2
      rw [addN_new ds hN h2 h3, addW_new ds hH h2 h4]
      exact ⟨rfl, h5, rfl, h6⟩
theorem settleN_len : ∀ (n c : Nat) (ks : List Nat), (settleN n c ks).2.length ≤ ks.length
  | 0, c, ks => Nat.le_refl _
  | n + 1, c, ks => by
    unfold settleN
    split
    · exact Nat.le_trans (settleN_len n _ _) (List.length_erase_le)
    · exact Nat.le_refl _
theorem addN_len (c : Nat) (ks ds : List Nat) (t : Nat) : (addN c ks ds t).2.2.1.length ≤ ks.length + 1 := by
  by_cases h : hasN c ks t = true
  · rw [addN_has ds h]; exact Nat.le_succ _
  · by_cases h2 : 65535 < spanN c t
    · rw [addN_far ds h h2]; exact Nat.le_succ _
    · have := settleN_len (ks.length + 1) c (ks ++ [t])
      rw [addN_new ds h h2 rfl]
      generalize settleN (ks.length + 1) c (ks ++ [t]) = X at *
      rw [List.length_append] at this
      exact this
theorem addN_ds (c : Nat) (ks ds : List Nat) (t : Nat) (hd : ds.length ≤ 16) : (addN c ks ds t).2.2.2.length ≤ 16 := by
  by_cases h : hasN c ks t = true
  · rw [addN_has ds h]
    show (if ds.length < 16 then ds ++ [t] else ds).length ≤ 16
    split
    · rw [List.length_append]; simp only [List.length_cons, List.length_nil]; omega
    · exact hd
  · by_cases h2 : 65535 < spanN c t
    · rw [addN_far ds h h2]; exact hd
    · rw [addN_new ds h h2 rfl]; exact hd
theorem gfold_take : ∀ (ws : List Nat) (O : List (Nat × Nat)), (∀ w ∈ ws, 1 ≤ w ∧ w < 65536) → (∀ g ∈ O, g.2 < 65536) → gfold ws (O.take 64) = (ws.foldl ustep O).take 64 ∨ 64 < O.length
  | ws, O, hw, hO => by
    by_cases q : 64 < O.length
    · exact .inr q
    · refine .inl ?_
      rw [List.take_of_length_le (by omega)]
      exact gfold_all ws O hw hO (by omega)
where
  gfold_all : ∀ (ws : List Nat) (O : List (Nat × Nat)), (∀ w ∈ ws, 1 ≤ w ∧ w < 65536) → (∀ g ∈ O, g.2 < 65536) → O.length ≤ 64 → gfold ws O = (ws.foldl ustep O).take 64
  | [], O, _, _, hl => by rw [List.foldl_nil, List.take_of_length_le hl]; rfl
  | w :: ws, O, hw, hO, hl => by
    have w0 := hw w (by simp)
    have hws : ∀ w ∈ ws, 1 ≤ w ∧ w < 65536 := fun x hx => hw x (by simp [hx])
    rw [List.foldl_cons]
    rcases List.eq_nil_or_concat O with hn | ⟨init, ⟨s, e⟩, hn⟩
    · subst hn
      show gfold ws [(w, w)] = _
      exact gfold_all ws _ hws (fun g hg => by simp only [List.mem_singleton] at hg; rw [hg]; exact w0.2) (by simp)
    · rw [List.concat_eq_append] at hn
      subst hn
      have he : e < 65536 := hO (s, e) (by simp)
      have hg : ∀ g ∈ init, g.2 < 65536 := fun g hg => hO g (by simp [hg])
      unfold gfold
      rw [gstep_snoc, ustep_snoc]
      simp only
      by_cases hq : e + 1 = w
      · rw [if_pos hq, if_pos (by omega)]
        simp only
        refine gfold_all ws _ hws (fun g hg' => ?_) (by simpa using hl)
        rcases List.mem_append.1 hg' with z | z
        · exact hg g z
        · simp only [List.mem_singleton] at z; rw [z]; exact w0.2
      · rw [if_neg hq, if_neg (by omega)]
        by_cases h64 : init.length + 1 = 64
        · rw [if_pos h64]
          simp only
          have key : ∀ (l : List Nat) (X Y : List (Nat × Nat)), Y ≠ [] → ∃ Y', Y' ≠ [] ∧ l.foldl ustep (X ++ Y) = X ++ Y' := fun l => by
            induction l with
            | nil => exact fun X Y h => ⟨Y, h, rfl⟩
            | cons a l ih =>
              intro X Y h
              rw [List.foldl_cons]
              rcases List.eq_nil_or_concat Y with hY | ⟨yi, ⟨ys, ye⟩, hY⟩
              · exact absurd hY h
              · rw [List.concat_eq_append] at hY
                subst hY
                rw [← List.append_assoc, ustep_snoc]
                split
                · rw [List.append_assoc]; exact ih X _ (by simp)
                · rw [List.append_assoc, List.append_assoc]; exact ih X _ (by simp)
          obtain ⟨Y', -, e2⟩ := key ws (init ++ [(s, e)]) [(w, w)] (by simp)
          rw [e2, List.take_append_of_le_length (by simp; omega), List.take_of_length_le (by simp; omega)]
        · rw [if_neg h64]
          simp only
          refine gfold_all ws _ hws (fun g hg' => ?_) (by simp at hl ⊢; omega)
          rcases List.mem_append.1 hg' with z | z
          · exact hO g z
          · simp only [List.mem_singleton] at z; rw [z]; exact w0.2
theorem gaps_eq {ws : List Nat} (hw : ∀ w ∈ ws, 1 ≤ w ∧ w < 65536) : gfold ws [] = rgaps ws := gfold_take.gfold_all ws [] hw (fun g hg => by cases hg) (by simp)
theorem sorted_unique : ∀ {l k : List Int}, l.Perm k → l.Pairwise (· ≤ ·) → k.Pairwise (· ≤ ·) → l = k
  | [], k, hp, _, _ => (hp.nil_eq)
  | x :: l, k, hp, hl, hk => by
    cases k with
    | nil => exact absurd hp.length_eq (by simp)
    | cons y k =>
      have e : x = y := by
        have h1 : x ∈ y :: k := hp.mem_iff.1 (by simp)
        have h2 : y ∈ x :: l := hp.mem_iff.2 (by simp)
        have a : y ≤ x := by
          rcases List.mem_cons.1 h1 with q | q
          · omega
          · exact (List.pairwise_cons.1 hk).1 x q
        have b : x ≤ y := by
          rcases List.mem_cons.1 h2 with q | q
          · omega
          · exact (List.pairwise_cons.1 hl).1 y q
        omega
      subst e
      rw [sorted_unique hp.cons_inv (List.pairwise_cons.1 hl).2 (List.pairwise_cons.1 hk).2]
theorem Alike.sorted {c : Nat} {ks ws : List Nat} (r : Alike c ks ws) (D : Array Int) (hD : D.toList.Perm ((ks.map (wayN c)).map fun (n : Nat) => (n : Int))) : (sort ltInt D).toList = ws.map (fun (n : Nat) => (n : Int)) := by
  have e : ks.map (wayN c) = ks.map (spanN c) := List.map_congr_left fun k hk => Nat.mod_eq_of_lt (r.lt _ ((r.mem (r.kb k hk)).1 hk))
  rw [e] at hD
  have hp := hD.trans ((r.pm.map fun (n : Nat) => (n : Int)).symm)
  have hs := sortInt D.toList
  rw [Array.toArray_toList] at hs
  rw [hs]
  refine sorted_unique ((List.mergeSort_perm _ _).trans hp) ?_ (List.pairwise_map.2 (r.so.imp fun h => by omega))
  have := List.pairwise_mergeSort (le := fun x y : Int => decide (x ≤ y)) (fun a b c h1 h2 => by simp only [decide_eq_true_eq] at *; omega) (fun a b => by simp only [Bool.or_eq_true, decide_eq_true_eq]; omega) D.toList
  exact this.imp fun h => of_decide_eq_true h
end Go.Proofs.Ytfcfgmhcphmefaa
namespace Go.Proofs.Ytfcfgmhcphmefaa
open Go.Sort
set_option maxRecDepth 100000
attribute [local irreducible] Go GoR GoL
theorem GSet.kept {h h' : AHeap} {sb r cum : Nat} {ks : List Nat} {da : Option Addr} {dc : Nat} {ds : List Nat} {n0 : Nat} {wr : List Nat} (g : GSet h sb r cum ks da dc ds n0) (k : Keeps wr h h') (hn : ∀ j ∈ [sb, r] ++ blk da, j ∉ wr) : GSet h' sb r cum ks da dc ds n0 := { g with sc := k.get g.sc (hn _ (by simp)), mp := g.mp.keeps k (hn _ (by simp)), dv := g.dv.keeps k fun j hj => hn j (by simp [hj]) }
theorem RSet.kept {h h' : AHeap} {rb cum : Nat} {wa da : Option Addr} {wc dc : Nat} {ws ds : List Nat} {n0 : Nat} {wr : List Nat} (g : RSet h rb cum wa wc ws da dc ds n0) (k : Keeps wr h h') (hn : ∀ j ∈ [rb] ++ blk wa ++ blk da, j ∉ wr) : RSet h' rb cum wa wc ws da dc ds n0 := { g with sc := k.get g.sc (hn _ (by simp)), wv := g.wv.keeps k (fun j hj => hn j (by simp [hj])), dv := g.dv.keeps k fun j hj => hn j (by simp [hj]) }
theorem GSet.lts {h : AHeap} {sb r cum : Nat} {ks : List Nat} {da : Option Addr} {dc : Nat} {ds : List Nat} {n0 : Nat} (g : GSet h sb r cum ks da dc ds n0) : ∀ j ∈ [sb, r] ++ blk da, j < h.n := fun j hj => by
  simp only [List.cons_append, List.nil_append, List.mem_cons] at hj
  rcases hj with rfl | rfl | q
  · exact AHeap.lt g.sc
  · exact g.mp.lt
  · exact g.dv.lt j q
theorem GSet.owns {h : AHeap} {sb r cum : Nat} {ks : List Nat} {da : Option Addr} {dc : Nat} {ds : List Nat} {n0 : Nat} (g : GSet h sb r cum ks da dc ds n0) : ∀ j ∈ [sb, r] ++ blk da, n0 ≤ j := fun j hj => by
  simp only [List.cons_append, List.nil_append, List.mem_cons] at hj
  rcases hj with rfl | rfl | q
  · exact g.ow.1
  · exact g.ow.2.1
  · exact g.ow.2.2 j q
theorem RSet.lts {h : AHeap} {rb cum : Nat} {wa da : Option Addr} {wc dc : Nat} {ws ds : List Nat} {n0 : Nat} (g : RSet h rb cum wa wc ws da dc ds n0) : ∀ j ∈ [rb] ++ blk wa ++ blk da, j < h.n := fun j hj => by
  simp only [List.cons_append, List.nil_append, List.mem_cons, List.mem_append] at hj
  rcases hj with rfl | q | q
  · exact AHeap.lt g.sc
  · exact g.wv.lt j q
  · exact g.dv.lt j q
theorem RSet.owns {h : AHeap} {rb cum : Nat} {wa da : Option Addr} {wc dc : Nat} {ws ds : List Nat} {n0 : Nat} (g : RSet h rb cum wa wc ws da dc ds n0) : ∀ j ∈ [rb] ++ blk wa ++ blk da, n0 ≤ j := fun j hj => by
  simp only [List.cons_append, List.nil_append, List.mem_cons, List.mem_append] at hj
  rcases hj with rfl | q | q
  · exact g.ow.1
  · exact g.ow.2.1 j q
  · exact g.ow.2.2 j q
theorem apart_step {prot : List Nat} {sb r n : Nat} {da da' : Option Addr} (hp : ∀ j ∈ prot, j < n) (h : ∀ j ∈ prot, j ∉ [sb, r] ++ blk da) (hn : ∀ i ∈ blk da', i ∈ blk da ∨ n ≤ i) : ∀ j ∈ prot, j ∉ [sb, r] ++ blk da' := fun j hj hm => by
  have a := h j hj
  have b := hp j hj
  simp only [List.cons_append, List.nil_append, List.mem_cons, not_or] at a hm
  rcases hm with q | q | q
  · exact a.1 q
  · exact a.2.1 q
  · rcases hn j q with z | z
    · exact a.2.2 z
    · omega
theorem ggaps_spec (sb r cum : Nat) (ks : List Nat) (da : Option Addr) (dc : Nat) (ds : List Nat) (n0 : Nat) (ws : List Nat) (A : Alike cum ks ws) (hn : ks.length ≤ 1000000) (h : AHeap) (G : GSet h sb r cum ks da dc ds n0) : CallS Try.prog [] 18 [.pointer (some ⟨sb, 0, none⟩)] h fun v h' => ∃ a, v = .slice a (rgaps ws).length (rgaps ws).length ∧ Sv h' 49 2 a (rgaps ws).length (rgaps ws).length (gcs (rgaps ws)) ∧ Own h.n a := by
  obtain ⟨es, ck, g, e, st1, st2⟩ := G.mp
  have dlt := G.dv.lt
  have G' : GSt h sb r cum es ck ks da ds.length dc := ⟨G.sc, g, by have e' : es.toList.map (fun e => (e.key, e.val)) = kvs .u32 (dn32 ks) := e; rw [e']; simp [kvs, dn32], st1, st2, G.kb, G.cb, by
    cases da with
    | none =>
      obtain ⟨h0, h1⟩ : ds.length = 0 ∧ dc = 0 := by
        have hz := G.dv
        generalize u32s' ds = cs at hz
        generalize ds.length = len at hz ⊢
        cases hz
        exact ⟨rfl, rfl⟩
      rw [h0, h1]; rfl
    | some a =>
      obtain ⟨b, o, x⟩ := a
      show Nat.blt b h.n = true
      have := dlt b (by simp [blk])
      simpa [Nat.blt_eq] using this⟩
  have k := gaps_spec sb r cum es ck ks da ds.length dc hn h G' G.mp.lt ws A.lt A.sorted
  rw [gaps_eq fun w hw => ⟨A.po w hw, A.lt w hw⟩] at k
  exact k
theorem add_specE (sb r cum : Nat) (ks : List Nat) (da : Option Addr) (dc : Nat) (ds : List Nat) (n0 t : Nat) (ht : t < 4294967296) (hds : ds.length ≤ 16) (h : AHeap) (hn0 : n0 ≤ h.n) (G : GSet h sb r cum ks da dc ds n0) {code c' : Nat} {ks' ds' : List Nat} (hR : addN cum ks ds t = (code, c', ks', ds')) : CallS Try.prog ([sb, r] ++ blk da) 10 [.pointer (some ⟨sb, 0, none⟩), .int .u32 t] h fun v h' => v = .int .u8 (code : Nat) ∧ ∃ da' dc', GSet h' sb r c' ks' da' dc' ds' n0 ∧ ∀ i ∈ blk da', i ∈ blk da ∨ h.n ≤ i := by
  have k := add_spec sb r cum ks da dc ds n0 t ht hds h hn0 G
  rw [hR] at k
  exact k
theorem aEq_ptrNN {P : Program} {h : AHeap} {t e : TypeId} (hu : P.underlying t = some (.pointer e)) : aEq P h t (.pointer none) (.pointer none) = some (true, []) := by
  unfold aEq
  rw [hu]
  rfl
set_option maxHeartbeats 4000000 in
theorem addNil (t : Nat) (h : AHeap) : CallS Try.prog [] 10 [.pointer none, .int .u32 t] h fun v h' => v = .int .u8 (2 : Nat) ∧ h' = h := by
  (refine CallS.of2 Try.func10 rfl Try.ntmps10 Try.results10 rfl ?_)
  (refine Go.run (g:=?_))
  refine GoR.eqRef rfl rfl rfl rfl (.inl rfl) rfl rfl (aEq_ptrNN setU) ?_
  (refine Go.run (g:=?_))
  (first|refine Go.finT (by first|exact .inr rfl|exact .inl rfl) rfl ?_|refine Go.fin1 (by first|exact .inr rfl|exact .inl rfl) rfl (hq:=?_))
  exact ⟨rfl, rfl⟩
set_option maxHeartbeats 4000000 in
theorem cumNil (h : AHeap) : CallS Try.prog [] 16 [.pointer none] h fun v h' => v = .int .u32 (0 : Nat) ∧ h' = h := by
  (refine CallS.of1 Try.func16 rfl Try.ntmps16 Try.results16 rfl ?_)
  (refine Go.run (g:=?_))
  refine GoR.eqRef rfl rfl rfl rfl (.inl rfl) rfl rfl (aEq_ptrNN setU) ?_
  (refine Go.run (g:=?_))
  (first|refine Go.finT (by first|exact .inr rfl|exact .inl rfl) rfl ?_|refine Go.fin1 (by first|exact .inr rfl|exact .inl rfl) rfl (hq:=?_))
  exact ⟨rfl, rfl⟩
set_option maxHeartbeats 4000000 in
theorem gapsNil (h : AHeap) : CallS Try.prog [] 18 [.pointer none] h fun v h' => v = .slice none 0 0 ∧ h' = h := by
  (refine CallS.of1 Try.func18 rfl Try.ntmps18 Try.results18 rfl ?_)
  (refine Go.run (g:=?_))
  refine GoR.eqRef rfl rfl rfl rfl (.inl rfl) rfl rfl (aEq_ptrNN setU) ?_
  (refine Go.run (g:=?_))
  (first|refine Go.finT (by first|exact .inr rfl|exact .inl rfl) rfl ?_|refine Go.fin1 (by first|exact .inr rfl|exact .inl rfl) rfl (hq:=?_))
  exact ⟨rfl, rfl⟩
set_option maxHeartbeats 4000000 in
theorem dupsNil (h : AHeap) : CallS Try.prog [] 13 [.pointer none] h fun v h' => v = .slice none 0 0 ∧ h' = h := by
  (refine CallS.of1 Try.func13 rfl Try.ntmps13 Try.results13 rfl ?_)
  (refine Go.run (g:=?_))
  refine GoR.eqRef rfl rfl rfl rfl (.inl rfl) rfl rfl (aEq_ptrNN setU) ?_
  (refine Go.run (g:=?_))
  (first|refine Go.finT (by first|exact .inr rfl|exact .inl rfl) rfl ?_|refine Go.fin1 (by first|exact .inr rfl|exact .inl rfl) rfl (hq:=?_))
  exact ⟨rfl, rfl⟩
set_option maxHeartbeats 4000000 in
theorem lenNil (h : AHeap) : CallS Try.prog [] 20 [.pointer none] h fun v h' => v = .int .i64 (0 : Nat) ∧ h' = h := by
  (refine CallS.of1 Try.func20 rfl Try.ntmps20 Try.results20 rfl ?_)
  (refine Go.run (g:=?_))
  refine GoR.eqRef rfl rfl rfl rfl (.inl rfl) rfl rfl (aEq_ptrNN setU) ?_
  (refine Go.run (g:=?_))
  (first|refine Go.finT (by first|exact .inr rfl|exact .inl rfl) rfl ?_|refine Go.fin1 (by first|exact .inr rfl|exact .inl rfl) rfl (hq:=?_))
  exact ⟨rfl, rfl⟩
set_option maxHeartbeats 4000000 in
theorem hasNil (t : Nat) (h : AHeap) : CallS Try.prog [] 21 [.pointer none, .int .u32 t] h fun v h' => v = .bool false ∧ h' = h := by
  (refine CallS.of2 Try.func21 rfl Try.ntmps21 Try.results21 rfl ?_)
  (refine Go.run (g:=?_))
  refine GoR.eqRef rfl rfl rfl rfl (.inl rfl) rfl rfl (aEq_ptrNN setU) ?_
  (refine Go.run (g:=?_))
  (first|refine Go.finT (by first|exact .inr rfl|exact .inl rfl) rfl ?_|refine Go.fin1 (by first|exact .inr rfl|exact .inl rfl) rfl (hq:=?_))
  exact ⟨rfl, rfl⟩
set_option maxHeartbeats 4000000 in
theorem nextNil (t : Nat) (h : AHeap) : CallS Try.prog [] 23 [.pointer none, .int .u32 t] h fun v h' => v = .bool false ∧ h' = h := by
  (refine CallS.of2 Try.func23 rfl Try.ntmps23 Try.results23 rfl ?_)
  (refine Go.run (g:=?_))
  refine GoR.eqRef rfl rfl rfl rfl (.inr rfl) rfl rfl (aEq_ptrNN setU) ?_
  (refine Go.run (g:=?_))
  (first|refine Go.finT (by first|exact .inr rfl|exact .inl rfl) rfl ?_|refine Go.fin1 (by first|exact .inr rfl|exact .inl rfl) rfl (hq:=?_))
  exact ⟨rfl, rfl⟩
set_option maxHeartbeats 4000000 in
theorem copyNil (h : AHeap) : CallS Try.prog [] 15 [.pointer none] h fun v h' => v = .pointer none ∧ h' = h := by
  (refine CallS.of1 Try.func15 rfl Try.ntmps15 Try.results15 rfl ?_)
  (refine Go.run (g:=?_))
  refine GoR.eqRef rfl rfl rfl rfl (.inl rfl) rfl rfl (aEq_ptrNN setU) ?_
  (refine Go.run (g:=?_))
  (first|refine Go.finT (by first|exact .inr rfl|exact .inl rfl) rfl ?_|refine Go.fin1 (by first|exact .inr rfl|exact .inl rfl) rfl (hq:=?_))
  exact ⟨rfl, rfl⟩
end Go.Proofs.Ytfcfgmhcphmefaa
namespace Go.Proofs.Ytfcfgmhcphmefaa
open Go.Sort
set_option maxRecDepth 100000
attribute [local irreducible] Go GoR GoL
theorem alikeA : Alike 10 [12, 13, 15] [2, 3, 5] := ⟨by decide +kernel, by decide, by decide, by decide, by decide, by decide⟩
theorem alikeB : Alike 13 [15] [2] := ⟨by decide +kernel, by decide, by decide, by decide, by decide, by decide⟩
set_option maxHeartbeats 64000000 in
theorem known08 (h : AHeap) : CallS Try.prog [] 8 [] h fun v h' => v = .bool true := by
  (refine CallS.of0 Try.func8 rfl Try.ntmps8 Try.results8 rfl ?_)
  (refine Go.run (g:=?_))
  refine GoR.call rfl rfl rfl rfl rfl rfl rfl (((gnew_spec 10 (by decide) _).argA).mono ?_)
  rintro _ h1 ⟨sb, r, rfl, G1⟩ s1
  have m1 := s1.1
  (refine Go.run (g:=?_))
  refine GoR.callW rfl rfl rfl rfl rfl rfl rfl (((add_specE sb r 10 [] none 0 [] h.n 12 (by decide) (by decide) _ m1 G1 (code := 0) (c' := 10) (ks' := [12]) (ds' := []) (by decide +kernel)).argA).mono ?_)
  rintro _ h2 ⟨rfl, da2, dc2, G2, -⟩ k2
  refine ⟨fun i hi => .inr (G1.owns i hi), ?_⟩
  have m2 := k2.1
  clear s1 k2
  (refine Go.run (g:=?_))
  refine GoR.callW rfl rfl rfl rfl rfl rfl rfl (((add_specE sb r 10 [12] da2 dc2 [] h.n 13 (by decide) (by decide) _ (by omega) G2 (code := 0) (c' := 10) (ks' := [12, 13]) (ds' := []) (by decide +kernel)).argA).mono ?_)
  rintro _ h3 ⟨rfl, da3, dc3, G3, -⟩ k3
  refine ⟨fun i hi => .inr (G2.owns i hi), ?_⟩
  have m3 := k3.1
  clear k3
  (refine Go.run (g:=?_))
  refine GoR.callW rfl rfl rfl rfl rfl rfl rfl (((add_specE sb r 10 [12, 13] da3 dc3 [] h.n 15 (by decide) (by decide) _ (by omega) G3 (code := 0) (c' := 10) (ks' := [12, 13, 15]) (ds' := []) (by decide +kernel)).argA).mono ?_)
  rintro _ h4 ⟨rfl, da4, dc4, G4, -⟩ k4
  refine ⟨fun i hi => .inr (G3.owns i hi), ?_⟩
  have m4 := k4.1
  clear k4
  (refine Go.run (g:=?_))
  refine GoR.call rfl rfl rfl rfl rfl rfl rfl (((ggaps_spec sb r 10 [12, 13, 15] da4 dc4 [] h.n [2, 3, 5] alikeA (by decide) _ G4).argA).mono ?_)
  rintro _ h5 ⟨a5, rfl, S5, O5⟩ s5
  have G5 := G4.same s5
  have m5 := s5.1
  (refine Go.run (g:=?_))
  refine GoR.buildO (c := [.int .u16 (2 : Nat), .int .u16 (3 : Nat), .int .u16 (5 : Nat), .int .u16 (5 : Nat)]) rfl rfl rfl rfl rfl (by decide) (by rfl) (by rfl) ?_
  intro b6 h6 S6 O6 s6 n6
  have G6 := G5.same s6
  have m6 := s6.1
  (refine Go.run (g:=?_))
  refine GoR.call rfl rfl rfl rfl rfl rfl rfl (((sameGaps_spec a5 b6 _ _ (rgaps [2, 3, 5]) [(2, 3), (5, 5)] (by decide) (by decide) _ (S5.same s6) S6).argA).mono ?_)
  rintro _ h7 ⟨rfl, rfl⟩ -
  rw [decide_eq_true (show rgaps [2, 3, 5] = [(2, 3), (5, 5)] by decide)]
  clear S5 S6 s5 s6 G5 G4 G3 G2 G1
  (refine Go.run (g:=?_))
  refine GoR.call rfl rfl rfl rfl rfl rfl rfl (((cum_spec sb r 10 [12, 13, 15] da4 dc4 [] h.n _ G6).argA).mono ?_)
  rintro _ h8 ⟨rfl, rfl⟩ -
  (refine Go.run (g:=?_))
  refine GoR.callW rfl rfl rfl rfl rfl rfl rfl (((add_specE sb r 10 [12, 13, 15] da4 dc4 [] h.n 11 (by decide) (by decide) _ (by omega) G6 (code := 0) (c' := 13) (ks' := [15]) (ds' := []) (by decide +kernel)).argA).mono ?_)
  rintro _ h9 ⟨rfl, da9, dc9, G9, -⟩ k9
  refine ⟨fun i hi => .inr (G6.owns i hi), ?_⟩
  have m9 := k9.1
  clear k9
  (refine Go.run (g:=?_))
  refine GoR.call rfl rfl rfl rfl rfl rfl rfl (((cum_spec sb r 13 [15] da9 dc9 [] h.n _ G9).argA).mono ?_)
  rintro _ h10 ⟨rfl, rfl⟩ -
  (refine Go.run (g:=?_))
  refine GoR.call rfl rfl rfl rfl rfl rfl rfl (((ggaps_spec sb r 13 [15] da9 dc9 [] h.n [2] alikeB (by decide) _ G9).argA).mono ?_)
  rintro _ h11 ⟨a11, rfl, S11, O11⟩ s11
  have G11 := G9.same s11
  have m11 := s11.1
  (refine Go.run (g:=?_))
  refine GoR.buildO (c := [.int .u16 (2 : Nat), .int .u16 (2 : Nat)]) rfl rfl rfl rfl rfl (by decide) (by rfl) (by rfl) ?_
  intro b12 h12 S12 O12 s12 n12
  have G12 := G11.same s12
  have m12 := s12.1
  (refine Go.run (g:=?_))
  refine GoR.call rfl rfl rfl rfl rfl rfl rfl (((sameGaps_spec a11 b12 _ _ (rgaps [2]) [(2, 2)] (by decide) (by decide) _ (S11.same s12) S12).argA).mono ?_)
  rintro _ h13 ⟨rfl, rfl⟩ -
  rw [decide_eq_true (show rgaps [2] = [(2, 2)] by decide)]
  clear S11 S12 s11 s12 G11 G9 G6
  (refine Go.run (g:=?_))
  refine GoR.callW rfl rfl rfl rfl rfl rfl rfl (((add_specE sb r 13 [15] da9 dc9 [] h.n 12 (by decide) (by decide) _ (by omega) G12 (code := 1) (c' := 13) (ks' := [15]) (ds' := [12]) (by decide +kernel)).argA).mono ?_)
  rintro _ h14 ⟨rfl, da14, dc14, G14, -⟩ k14
  refine ⟨fun i hi => .inr (G12.owns i hi), ?_⟩
  have m14 := k14.1
  clear k14
  (refine Go.run (g:=?_))
  refine GoR.callW rfl rfl rfl rfl rfl rfl rfl (((add_specE sb r 13 [15] da14 dc14 [12] h.n 15 (by decide) (by decide) _ (by omega) G14 (code := 1) (c' := 13) (ks' := [15]) (ds' := [12, 15]) (by decide +kernel)).argA).mono ?_)
  rintro _ h15 ⟨rfl, da15, dc15, G15, -⟩ k15
  refine ⟨fun i hi => .inr (G14.owns i hi), ?_⟩
  have m15 := k15.1
  clear k15
  (refine Go.run (g:=?_))
  refine GoR.callW rfl rfl rfl rfl rfl rfl rfl (((gdups_spec sb r 13 [15] da15 dc15 [12, 15] h.n _ G15).argA).mono ?_)
  rintro _ h16 ⟨rfl, G16, S16⟩ k16
  refine ⟨fun i hi => .inr (G15.owns i (by simp at hi; simp [hi])), ?_⟩
  have m16 := k16.1
  clear k16
  (refine Go.run (g:=?_))
  refine GoR.buildO (c := [.int .u32 (12 : Nat), .int .u32 (15 : Nat)]) rfl rfl rfl rfl rfl (by decide) (by rfl) (by rfl) ?_
  intro b17 h17 S17 O17 s17 n17
  have G17 := G16.same s17
  have m17 := s17.1
  (refine Go.run (g:=?_))
  refine GoR.call rfl rfl rfl rfl rfl rfl rfl (((sameTsns_spec da15 b17 _ _ [12, 15] [12, 15] (by decide) (by decide) _ (S16.same s17) S17).argA).mono ?_)
  rintro _ h18 ⟨rfl, rfl⟩ -
  rw [decide_eq_true rfl]
  clear S16 S17 s17 G16 G15 G14 G12
  (refine Go.run (g:=?_))
  refine GoR.callW rfl rfl rfl rfl rfl rfl rfl (((gdups_spec sb r 13 [15] none 0 [] h.n _ G17).argA).mono ?_)
  rintro _ h19 ⟨rfl, G19, -⟩ k19
  refine ⟨fun i hi => .inr (G17.owns i (by simp at hi; simp [hi])), ?_⟩
  have m19 := k19.1
  clear k19 G17
  (refine Go.run (g:=?_))
  refine GoR.callW rfl rfl rfl rfl rfl rfl rfl (((add_specE sb r 13 [15] none 0 [] h.n 65549 (by decide) (by decide) _ (by omega) G19 (code := 2) (c' := 13) (ks' := [15]) (ds' := []) (by decide +kernel)).argA).mono ?_)
  rintro _ h20 ⟨rfl, da20, dc20, G20, -⟩ k20
  refine ⟨fun i hi => .inr (G19.owns i hi), ?_⟩
  clear k20 G19
  (refine Go.run (g:=?_))
  refine GoR.call rfl rfl rfl rfl rfl rfl rfl (((has_spec sb r 13 [15] da20 dc20 [] h.n 15 (by decide) _ G20).argA).mono ?_)
  rintro _ h21 rfl s21
  have G21 := G20.same s21
  rw [show hasN 13 [15] 15 = true by decide +kernel]
  clear G20 s21
  (refine Go.run (g:=?_))
  refine GoR.call rfl rfl rfl rfl rfl rfl rfl (((has_spec sb r 13 [15] da20 dc20 [] h.n 14 (by decide) _ G21).argA).mono ?_)
  rintro _ h22 rfl s22
  have G22 := G21.same s22
  rw [show hasN 13 [15] 14 = false by decide +kernel]
  clear G21 s22
  (refine Go.run (g:=?_))
  refine GoR.call rfl rfl rfl rfl rfl rfl rfl (((gnext_spec sb r 13 [15] da20 dc20 [] h.n 14 (by decide) _ G22).argA).mono ?_)
  rintro _ h23 ⟨rfl, rfl⟩ -
  rw [decide_eq_true (show 14 = next32 13 by decide +kernel)]
  (refine Go.run (g:=?_))
  refine GoR.call rfl rfl rfl rfl rfl rfl rfl (((glen_spec sb r 13 [15] da20 dc20 [] h.n _ G22).argA).mono ?_)
  rintro _ h24 ⟨rfl, rfl⟩ -
  (refine Go.run (g:=?_))
  refine GoR.call rfl rfl rfl rfl rfl rfl rfl (((addNil 1 _).argA).mono ?_)
  rintro _ h25 ⟨rfl, rfl⟩ -
  (refine Go.run (g:=?_))
  refine GoR.call rfl rfl rfl rfl rfl rfl rfl (((cumNil _).argA).mono ?_)
  rintro _ h26 ⟨rfl, rfl⟩ -
  (refine Go.run (g:=?_))
  refine GoR.call rfl rfl rfl rfl rfl rfl rfl (((gapsNil _).argA).mono ?_)
  rintro _ h27 ⟨rfl, rfl⟩ -
  (refine Go.run (g:=?_))
  refine GoR.call rfl rfl rfl rfl rfl rfl rfl (((dupsNil _).argA).mono ?_)
  rintro _ h28 ⟨rfl, rfl⟩ -
  (refine Go.run (g:=?_))
  refine GoR.call rfl rfl rfl rfl rfl rfl rfl (((lenNil _).argA).mono ?_)
  rintro _ h29 ⟨rfl, rfl⟩ -
  (refine Go.run (g:=?_))
  refine GoR.call rfl rfl rfl rfl rfl rfl rfl (((hasNil 0 _).argA).mono ?_)
  rintro _ h30 ⟨rfl, rfl⟩ -
  (refine Go.run (g:=?_))
  refine GoR.call rfl rfl rfl rfl rfl rfl rfl (((nextNil 1 _).argA).mono ?_)
  rintro _ h31 ⟨rfl, rfl⟩ -
  (refine Go.run (g:=?_))
  refine GoR.call rfl rfl rfl rfl rfl rfl rfl (((copyNil _).argA).mono ?_)
  rintro _ h32 ⟨rfl, rfl⟩ -
  (refine Go.run (g:=?_))
  refine GoR.eqRef rfl rfl rfl rfl (.inl rfl) rfl rfl (aEq_ptrNN setU) ?_
  (refine Go.run (g:=?_))
  (first|refine Go.finT (by first|exact .inr rfl|exact .inl rfl) rfl ?_|refine Go.fin1 (by first|exact .inr rfl|exact .inl rfl) rfl (hq:=?_))
  rfl
end Go.Proofs.Ytfcfgmhcphmefaa
namespace Go.Proofs.Ytfcfgmhcphmefaa
open Go.Sort
set_option maxRecDepth 100000
attribute [local irreducible] Go GoR GoL
def up32 (c k : Nat) : Nat := (c + k) % 4294967296
theorem add32k (c k : Nat) : iBin .add .u32 (c : Int) (k : Nat) = some (.int .u32 ((up32 c k : Nat) : Int)) := by
  have q : ((up32 c k : Nat) : Int) = ((c : Int) + (k : Int)) % 4294967296 := by unfold up32; omega
  simp [iBin, IntKind.wrap, IntKind.bits, IntKind.signed, q]
structure P8 where
  i : Nat
  c : Nat
  ks : List Nat
  ws : List Nat
  ds : List Nat
  sb : Nat
  r : Nat
  da : Option Addr
  dc : Nat
  rb : Nat
  wa : Option Addr
  wc : Nat
  ea : Option Addr
  ec : Nat
  H : AHeap
structure P8.ok (x : P8) (h : AHeap) : Prop where
  s : GSet x.H x.sb x.r x.c x.ks x.da x.dc x.ds h.n
  t : RSet x.H x.rb x.c x.wa x.wc x.ws x.ea x.ec x.ds h.n
  al : Alike x.c x.ks x.ws
  kl : x.ks.length ≤ x.i
  dl : x.ds.length ≤ 16
  old : Same h x.H
  ap : ∀ j ∈ [x.rb] ++ blk x.wa ++ blk x.ea, j ∉ [x.sb, x.r] ++ blk x.da
theorem rgaps_le (ws : List Nat) : (rgaps ws).length ≤ 64 := by unfold rgaps; rw [List.length_take]; omega
end Go.Proofs.Ytfcfgmhcphmefaa
namespace Go.Proofs.Ytfcfgmhcphmefaa
open Go.Sort
def tsn (c w : Nat) : Nat := (c + w) % 4294967296
theorem tsn_lt (c w : Nat) : tsn c w < 4294967296 := Nat.mod_lt _ (by decide)
theorem tsn_inj {c x y : Nat} (hx : x ≤ 70000) (hy : y ≤ 70000) (e : tsn c x = tsn c y) : x = y := by unfold tsn at e; omega
theorem tsn_next (c m : Nat) : next32 (tsn c m) = tsn c (m + 1) := by unfold next32 tsn; omega
structure Got (c : Nat) (L : List Nat) (m : Nat) (ks : List Nat) : Prop where
  le : m ≤ 30000
  up : ∀ w, 1 ≤ w → w ≤ m → w ∈ L
  nd : ks.Nodup
  mem : ∀ k, k ∈ ks ↔ ∃ w ∈ L, m < w ∧ k = tsn c w
theorem Got.memw {c m : Nat} {L ks : List Nat} (g : Got c L m ks) (hL : ∀ w ∈ L, 1 ≤ w ∧ w ≤ 30000) {w : Nat} (hw : w ≤ 30001) : tsn c w ∈ ks ↔ w ∈ L ∧ m < w := by
  rw [g.mem]
  constructor
  · rintro ⟨x, hx, hm, e⟩
    have := hL x hx
    rw [tsn_inj (by omega) (by omega) e]
    exact ⟨hx, hm⟩
  · rintro ⟨a, b⟩
    exact ⟨w, a, b, rfl⟩
theorem Got.has {c m : Nat} {L ks : List Nat} (g : Got c L m ks) (hL : ∀ w ∈ L, 1 ≤ w ∧ w ≤ 30000) {w : Nat} (h1 : 1 ≤ w) (hw : w ≤ 30001) : hasN (tsn c m) ks (tsn c w) = decide (w ∈ L) := by
  have gm := g.le
  rw [Bool.eq_iff_iff]
  unfold hasN bef32
  simp only [Bool.or_eq_true, Bool.and_eq_true, decide_eq_true_eq]
  rw [g.memw hL hw]
  constructor
  · rintro (h | h | h)
    · exact h.1
    · rw [tsn_inj (by omega) (by omega) h] at h1 ⊢
      exact g.up m h1 (Nat.le_refl _)
    · refine g.up w h1 ?_
      unfold spanN tsn at h
      omega
  · intro h
    rcases Nat.lt_trichotomy m w with q | q | q
    · exact .inl ⟨h, q⟩
    · subst q; exact .inr (.inl rfl)
    · refine .inr (.inr ?_)
      unfold spanN tsn
      omega
theorem Got.settle {c : Nat} {L : List Nat} (hL : ∀ w ∈ L, 1 ≤ w ∧ w ≤ 30000) (n : Nat) : ∀ {m : Nat} {ks : List Nat}, Got c L m ks → ks.length ≤ n → ∃ m', (settleN n (tsn c m) ks).1 = tsn c m' ∧ Got c L m' (settleN n (tsn c m) ks).2 ∧ m' + 1 ∉ L := by
  induction n with
  | zero =>
    intro m ks g h
    obtain rfl : ks = [] := List.eq_nil_of_length_eq_zero (Nat.le_zero.1 h)
    have gm := g.le
    exact ⟨m, rfl, g, fun q => by have := (g.memw hL (w := m + 1) (by omega)).2 ⟨q, by omega⟩; cases this⟩
  | succ n ih =>
    intro m ks g h
    have gm := g.le
    have hn := tsn_next c m
    have key := g.memw hL (w := m + 1) (by omega)
    by_cases hk : tsn c (m + 1) ∈ ks
    · rw [settleN_yes (by rw [hn]; exact hk), hn]
      have hin := (key.1 hk).1
      have := List.length_erase_of_mem hk
      have := List.length_pos_of_mem hk
      refine ih ⟨(hL _ hin).2, fun w a b => ?_, g.nd.erase _, fun k => ?_⟩ (by omega)
      · rcases Nat.lt_or_ge m w with q | q
        · rw [show w = m + 1 by omega]; exact hin
        · exact g.up w a q
      · rw [g.nd.mem_erase_iff, g.mem]
        constructor
        · rintro ⟨hne, w, hw, hm, rfl⟩
          refine ⟨w, hw, ?_, rfl⟩
          rcases Nat.lt_or_ge (m + 1) w with q | q
          · exact q
          · exact absurd (by rw [show w = m + 1 by omega]) hne
        · rintro ⟨w, hw, hm, rfl⟩
          refine ⟨fun e => ?_, w, hw, by omega, rfl⟩
          have := hL w hw
          have := tsn_inj (by omega) (by omega) e
          omega
    · rw [settleN_no (by rw [hn]; exact hk)]
      exact ⟨m, rfl, g, fun q => hk (key.2 ⟨q, by omega⟩)⟩
def stepN (c : Nat) (s : Nat × List Nat × List Nat) (w : Nat) : Nat × List Nat × List Nat := ((addN s.1 s.2.1 s.2.2 (tsn c w)).2.1, (addN s.1 s.2.1 s.2.2 (tsn c w)).2.2.1, (addN s.1 s.2.1 s.2.2 (tsn c w)).2.2.2)
def runN (c : Nat) (L : List Nat) : Nat × List Nat × List Nat := L.foldl (stepN c) (c, [], [])
theorem runN_snoc (c : Nat) (L : List Nat) (w : Nat) : runN c (L ++ [w]) = stepN c (runN c L) w := by unfold runN; rw [List.foldl_append]; rfl
theorem snoc_rec {α : Type} {p : List α → Prop} (h0 : p []) (h1 : ∀ l x, p l → p (l ++ [x])) (l : List α) : p l := by
  have : ∀ n (l : List α), l.length = n → p l := fun n => by
    induction n with
    | zero => intro l hl; rw [List.eq_nil_of_length_eq_zero hl]; exact h0
    | succ n ih =>
      intro l hl
      rcases List.eq_nil_or_concat l with q | ⟨i, x, q⟩
      · rw [q] at hl; simp at hl
      · rw [List.concat_eq_append] at q
        rw [q] at hl ⊢
        exact h1 i x (ih i (by simpa using hl))
  exact this _ l rfl
theorem runN_ok {c : Nat} (hc : c < 4294967296) (L : List Nat) : (∃ ws, Alike (runN c L).1 (runN c L).2.1 ws) ∧ (runN c L).2.1.length ≤ L.length ∧ (runN c L).2.2.length ≤ 16 := by
  refine snoc_rec (p := fun L => (∃ ws, Alike (runN c L).1 (runN c L).2.1 ws) ∧ (runN c L).2.1.length ≤ L.length ∧ (runN c L).2.2.length ≤ 16) ?_ (fun L w ⟨⟨ws, A⟩, h1, h2⟩ => ?_) L
  · exact ⟨⟨[], Alike.start hc⟩, Nat.le_refl _, Nat.zero_le _⟩
  · rw [runN_snoc]
    unfold stepN
    obtain ⟨e1, e2, e3, B⟩ := A.add (ds := (runN c L).2.2) (tsn_lt c w)
    have l1 := addN_len (runN c L).1 (runN c L).2.1 (runN c L).2.2 (tsn c w)
    have l2 := addN_ds (runN c L).1 (runN c L).2.1 (runN c L).2.2 (tsn c w) h2
    refine ⟨⟨_, B⟩, ?_, l2⟩
    rw [List.length_append]
    simp only [List.length_cons, List.length_nil]
    omega
theorem Got.wide {c m : Nat} {L ks : List Nat} (g : Got c L m ks) {w : Nat} (hw : w ∈ L) : Got c (L ++ [w]) m ks := by
  refine ⟨g.le, fun x a b => List.mem_append_left _ (g.up x a b), g.nd, fun k => ?_⟩
  rw [g.mem]
  constructor
  · rintro ⟨x, a, b⟩
    exact ⟨x, List.mem_append_left _ a, b⟩
  · rintro ⟨x, a, b⟩
    rcases List.mem_append.1 a with q | q
    · exact ⟨x, q, b⟩
    · simp only [List.mem_singleton] at q
      subst q
      exact ⟨_, hw, b⟩
theorem Got.add {c m w : Nat} {L ks ds : List Nat} (g : Got c L m ks) (hL : ∀ w ∈ L, 1 ≤ w ∧ w ≤ 30000) (hn : m + 1 ∉ L) (h1 : 1 ≤ w) (h2 : w ≤ 30000) : ((addN (tsn c m) ks ds (tsn c w)).1 = 0 ↔ w ∉ L) ∧ ∃ m', (addN (tsn c m) ks ds (tsn c w)).2.1 = tsn c m' ∧ Got c (L ++ [w]) m' (addN (tsn c m) ks ds (tsn c w)).2.2.1 ∧ m' + 1 ∉ L ++ [w] := by
  have hh := g.has hL h1 (by omega)
  have gm := g.le
  by_cases hw : w ∈ L
  · rw [addN_has ds (hh.trans (decide_eq_true hw))]
    refine ⟨by simp [hw], m, rfl, g.wide hw, fun q => ?_⟩
    rcases List.mem_append.1 q with q | q
    · exact hn q
    · simp only [List.mem_singleton] at q
      exact hn (by rw [q]; exact hw)
  · have hN : ¬ hasN (tsn c m) ks (tsn c w) = true := by rw [hh]; simpa using hw
    have hmw : m < w := by
      rcases Nat.lt_or_ge m w with q | q
      · exact q
      · exact absurd (g.up w h1 q) hw
    have hsp : ¬ 65535 < spanN (tsn c m) (tsn c w) := by unfold spanN tsn; omega
    have hL' : ∀ x ∈ L ++ [w], 1 ≤ x ∧ x ≤ 30000 := fun x hx => by
      rcases List.mem_append.1 hx with q | q
      · exact hL x q
      · simp only [List.mem_singleton] at q; omega
    have g2 : Got c (L ++ [w]) m (ks ++ [tsn c w]) := by
      refine ⟨gm, fun x a b => List.mem_append_left _ (g.up x a b), ?_, fun k => ?_⟩
      · rw [List.nodup_append]
        refine ⟨g.nd, by simp, fun x hx y hy e => ?_⟩
        simp only [List.mem_singleton] at hy
        subst hy
        subst e
        exact hw ((g.memw hL (by omega)).1 hx).1
      · rw [List.mem_append, g.mem, List.mem_singleton]
        constructor
        · rintro (⟨x, a, b, e⟩ | e)
          · exact ⟨x, List.mem_append_left _ a, b, e⟩
          · exact ⟨w, by simp, hmw, e⟩
        · rintro ⟨x, a, b, e⟩
          rcases List.mem_append.1 a with q | q
          · exact .inl ⟨x, q, b, e⟩
          · simp only [List.mem_singleton] at q
            subst q
            exact .inr e
    have st := Got.settle hL' (ks.length + 1) g2 (by rw [List.length_append]; exact Nat.le_refl _)
    obtain ⟨X, hX⟩ : ∃ X, settleN (ks.length + 1) (tsn c m) (ks ++ [tsn c w]) = X := ⟨_, rfl⟩
    rw [hX] at st
    rw [addN_new ds hN hsp hX]
    obtain ⟨m', e1, e2, e3⟩ := st
    exact ⟨⟨fun _ => hw, fun _ => rfl⟩, m', e1, e2, e3⟩
theorem runN_got {c : Nat} (hc : c < 4294967296) (L : List Nat) : (∀ w ∈ L, 1 ≤ w ∧ w ≤ 30000) → ∃ m, (runN c L).1 = tsn c m ∧ Got c L m (runN c L).2.1 ∧ m + 1 ∉ L := by
  refine snoc_rec (p := fun L => (∀ w ∈ L, 1 ≤ w ∧ w ≤ 30000) → ∃ m, (runN c L).1 = tsn c m ∧ Got c L m (runN c L).2.1 ∧ m + 1 ∉ L) ?_ (fun L w ih hL => ?_) L
  · intro _
    refine ⟨0, ?_, ⟨Nat.zero_le _, fun w a b => by omega, List.nodup_nil, fun k => ?_⟩, by simp⟩
    · show c = tsn c 0
      unfold tsn; omega
    · show k ∈ [] ↔ _
      simp
  · obtain ⟨m, e, g, hn⟩ := ih fun w hw => hL w (List.mem_append_left _ hw)
    have hw := hL w (by simp)
    obtain ⟨-, m', a, b, d⟩ := g.add (ds := (runN c L).2.2) (fun w hw => hL w (List.mem_append_left _ hw)) hn hw.1 hw.2
    rw [runN_snoc]
    unfold stepN
    rw [e]
    exact ⟨m', a, b, d⟩
theorem Got.one {c m m' : Nat} {L L' ks ks' : List Nat} (g : Got c L m ks) (g' : Got c L' m' ks') (hn : m + 1 ∉ L) (hn' : m' + 1 ∉ L') (e : ∀ w, w ∈ L' ↔ w ∈ L) : m' = m ∧ ks'.Perm ks := by
  have hm : m' = m := by
    rcases Nat.lt_trichotomy m m' with q | q | q
    · exact absurd ((e _).1 (g'.up (m + 1) (by omega) (by omega))) hn
    · exact q.symm
    · exact absurd ((e _).2 (g.up (m' + 1) (by omega) (by omega))) hn'
  subst hm
  refine ⟨rfl, (List.perm_ext_iff_of_nodup g'.nd g.nd).2 fun k => ?_⟩
  rw [g.mem, g'.mem]
  exact ⟨fun ⟨w, a, b⟩ => ⟨w, (e w).1 a, b⟩, fun ⟨w, a, b⟩ => ⟨w, (e w).2 a, b⟩⟩
theorem Alike.perm {c : Nat} {ks ks' ws : List Nat} (A : Alike c ks ws) (p : ks'.Perm ks) : Alike c ks' ws := ⟨A.pm.trans (p.map _).symm, A.so, A.po, A.lt, fun k hk => A.kb k (p.mem_iff.1 hk), A.cb⟩
theorem Got.count {c m : Nat} {L ks K : List Nat} (g : Got c L m ks) (hL : ∀ w ∈ L, 1 ≤ w ∧ w ≤ 30000) (hK : K.Nodup) (hm : ∀ k, k ∈ K ↔ ∃ w ∈ L, k = tsn c w) : m + ks.length = K.length := by
  have gm := g.le
  have hr : ((List.range m).map fun w => tsn c (w + 1)).Nodup := List.pairwise_map.2 (List.nodup_range.imp_of_mem fun ha hb hab e => hab (by
    have := List.mem_range.1 ha
    have := List.mem_range.1 hb
    have := tsn_inj (by omega) (by omega) e
    omega))
  have hA : (((List.range m).map fun w => tsn c (w + 1)) ++ ks).Nodup := List.nodup_append.2 ⟨hr, g.nd, fun x hx y hy e => by
    obtain ⟨w, hw, rfl⟩ := List.mem_map.1 hx
    obtain ⟨w', h1, h2, h3⟩ := (g.mem y).1 hy
    have := List.mem_range.1 hw
    have := hL w' h1
    have := tsn_inj (by omega) (by omega) (e.trans h3)
    omega⟩
  have hp := (List.perm_ext_iff_of_nodup hA hK).2 fun k => by
    rw [List.mem_append, hm, g.mem, List.mem_map]
    constructor
    · rintro (⟨w, hw, rfl⟩ | ⟨w, a, b, d⟩)
      · have := List.mem_range.1 hw
        exact ⟨w + 1, g.up _ (by omega) (by omega), rfl⟩
      · exact ⟨w, a, d⟩
    · rintro ⟨w, a, d⟩
      rcases Nat.lt_or_ge m w with q | q
      · exact .inr ⟨w, a, q, d⟩
      · have := hL w a
        exact .inl ⟨w - 1, List.mem_range.2 (by omega), by rw [d, show w - 1 + 1 = w by omega]⟩
  have := hp.length_eq
  simpa using this
theorem swap_mem {o : List Nat} {i k : Nat} (hi : i < o.length) (hk : k < o.length) (w : Nat) : w ∈ (o.set i o[k]).set k o[i] ↔ w ∈ o := by
  constructor
  · intro h
    rcases List.mem_or_eq_of_mem_set h with h | rfl
    · rcases List.mem_or_eq_of_mem_set h with h | rfl
      · exact h
      · exact List.getElem_mem hk
    · exact List.getElem_mem hi
  · intro h
    obtain ⟨j, hj, rfl⟩ := List.mem_iff_getElem.1 h
    rw [List.mem_iff_getElem]
    by_cases e1 : j = i
    · subst e1
      exact ⟨k, by simpa using hk, by simp⟩
    · by_cases e2 : j = k
      · subst e2
        exact ⟨i, by simpa using hi, by rw [List.getElem_set_ne (by omega), List.getElem_set_self]⟩
      · exact ⟨j, by simpa using hj, by rw [List.getElem_set_ne (by omega), List.getElem_set_ne (by omega)]⟩
theorem ufold_ok : ∀ (ws : List Nat), ws.Pairwise (· < ·) → (∀ w ∈ ws, 2 ≤ w ∧ w ≤ 30000) → (ufold ws).Pairwise (fun x y => x.2 + 2 ≤ y.1) ∧ (∀ x ∈ ufold ws, 2 ≤ x.1 ∧ x.1 ≤ x.2 ∧ x.2 ∈ ws) := fun ws => by
  refine snoc_rec (p := fun ws => ws.Pairwise (· < ·) → (∀ w ∈ ws, 2 ≤ w ∧ w ≤ 30000) → (ufold ws).Pairwise (fun x y => x.2 + 2 ≤ y.1) ∧ (∀ x ∈ ufold ws, 2 ≤ x.1 ∧ x.1 ≤ x.2 ∧ x.2 ∈ ws)) ?_ (fun ws w ih hs hb => ?_) ws
  · exact fun _ _ => ⟨.nil, fun x hx => by cases hx⟩
  · rw [List.pairwise_append] at hs
    obtain ⟨hs1, -, hs2⟩ := hs
    have hlt : ∀ x ∈ ws, x < w := fun x hx => hs2 x hx w (by simp)
    obtain ⟨p, q⟩ := ih hs1 fun x hx => hb x (List.mem_append_left _ hx)
    have hw := hb w (by simp)
    have eu : ufold (ws ++ [w]) = ustep (ufold ws) w := by unfold ufold; rw [List.foldl_append]; rfl
    rw [eu]
    clear eu
    generalize ufold ws = O at *
    rcases List.eq_nil_or_concat O with hO | ⟨init, ⟨s, e⟩, hO⟩
    · subst hO
      show List.Pairwise _ [(w, w)] ∧ ∀ x ∈ [(w, w)], _
      refine ⟨List.pairwise_singleton _ _, fun x hx => ?_⟩
      simp only [List.mem_singleton] at hx
      subst hx
      exact ⟨hw.1, Nat.le_refl _, by simp⟩
    · rw [List.concat_eq_append] at hO
      subst hO
      rw [ustep_snoc]
      have hse := q (s, e) (by simp)
      have hew := hlt e hse.2.2
      rw [List.pairwise_append] at p
      simp only at hse
      split
      · rename_i h
        simp only at h
        refine ⟨List.pairwise_append.2 ⟨p.1, List.pairwise_singleton _ _, fun x hx y hy => ?_⟩, fun x hx => ?_⟩
        · simp only [List.mem_singleton] at hy
          subst hy
          exact p.2.2 x hx (s, e) (by simp)
        · rcases List.mem_append.1 hx with z | z
          · have := q x (by simp [z])
            exact ⟨this.1, this.2.1, List.mem_append_left _ this.2.2⟩
          · simp only [List.mem_singleton] at z
            subst z
            exact ⟨hse.1, by simp only; omega, by simp⟩
      · rename_i h
        simp only at h
        refine ⟨List.pairwise_append.2 ⟨List.pairwise_append.2 p, List.pairwise_singleton _ _, fun x hx y hy => ?_⟩, fun x hx => ?_⟩
        · simp only [List.mem_singleton] at hy
          subst hy
          rcases List.mem_append.1 hx with z | z
          · have := p.2.2 x z (s, e) (by simp)
            simp only at this ⊢
            omega
          · simp only [List.mem_singleton] at z
            subst z
            simp only
            omega
        · rcases List.mem_append.1 hx with z | z
          · have := q x z
            exact ⟨this.1, this.2.1, List.mem_append_left _ this.2.2⟩
          · simp only [List.mem_singleton] at z
            subst z
            exact ⟨hw.1, Nat.le_refl _, by simp⟩
end Go.Proofs.Ytfcfgmhcphmefaa
namespace Go.Proofs.Ytfcfgmhcphmefaa
open Go.Sort
set_option maxRecDepth 100000
attribute [local irreducible] Go GoR GoL
abbrev u16s (l : List Nat) : List Value := l.map fun (n : Nat) => Value.int .u16 (n : Int)
theorem add_tsn (c w : Nat) : iBin .add .u32 (c : Int) (w : Nat) = some (.int .u32 ((tsn c w : Nat) : Int)) := add32k c w
instance miCame : MI Try.prog 47 .u32 (.int .i64 0) := ⟨22, 3, by kernel_rfl, by kernel_rfl, by kernel_rfl, rfl, fun em n => by kernel_rfl⟩
def cmv (l : List (Nat × Nat)) : List (Int × Value) := l.map fun x => ((x.1 : Int), Value.int .i64 (x.2 : Nat))
def cget : List (Nat × Nat) → Nat → Nat
  | [], _ => 0
  | x :: l, k => if x.1 = k then x.2 else cget l k
def cput : List (Nat × Nat) → Nat → Nat → List (Nat × Nat)
  | [], k, n => [(k, n)]
  | x :: l, k, n => if x.1 = k then (k, n) :: l else x :: cput l k n
theorem al_cmv : ∀ (l : List (Nat × Nat)) (k : Nat), (al (cmv l) k).getD (.int .i64 0) = .int .i64 (cget l k : Nat)
  | [], k => rfl
  | x :: l, k => by
    show (if ((x.1 : Nat) : Int) = (k : Int) then some (Value.int .i64 (x.2 : Nat)) else al (cmv l) k).getD _ = _
    unfold cget
    by_cases h : x.1 = k
    · rw [if_pos h, if_pos (by omega)]; rfl
    · rw [if_neg h, if_neg (by omega)]; exact al_cmv l k
theorem aset_cmv : ∀ (l : List (Nat × Nat)) (k n : Nat), aset (cmv l) k (.int .i64 (n : Nat)) = cmv (cput l k n)
  | [], k, n => rfl
  | x :: l, k, n => by
    show (if ((x.1 : Nat) : Int) = (k : Int) then _ else _) = _
    unfold cput
    by_cases h : x.1 = k
    · rw [if_pos h, if_pos (by omega)]; subst h; rfl
    · rw [if_neg h, if_neg (by omega)]
      show _ :: aset (cmv l) k (.int .i64 (n : Nat)) = _
      rw [aset_cmv l k n]; rfl
theorem cput_keys : ∀ (l : List (Nat × Nat)) (k n : Nat) (j : Nat), j ∈ (cput l k n).map (·.1) ↔ j = k ∨ j ∈ l.map (·.1)
  | [], k, n, j => by simp [cput]
  | x :: l, k, n, j => by
    unfold cput
    split
    · rename_i h; subst h; simp
    · have := cput_keys l k n j
      simp only [List.map_cons, List.mem_cons] at this ⊢
      rw [this]
      constructor
      · rintro (h | h | h)
        · exact .inr (.inl h)
        · exact .inl h
        · exact .inr (.inr h)
      · rintro (h | h | h)
        · exact .inr (.inl h)
        · exact .inl h
        · exact .inr (.inr h)
theorem cput_nodup : ∀ (l : List (Nat × Nat)) (k n : Nat), (l.map (·.1)).Nodup → ((cput l k n).map (·.1)).Nodup
  | [], k, n, _ => by simp [cput]
  | x :: l, k, n, h => by
    unfold cput
    split
    · rename_i e; subst e; exact h
    · rename_i e
      rw [List.map_cons, List.nodup_cons] at h ⊢
      refine ⟨fun q => ?_, cput_nodup l k n h.2⟩
      rcases (cput_keys l k n x.1).1 q with z | z
      · exact e z
      · exact h.1 z
theorem cget_put : ∀ (l : List (Nat × Nat)) (k n j : Nat), cget (cput l k n) j = if j = k then n else cget l j
  | [], k, n, j => by
    unfold cput cget
    by_cases h : j = k
    · rw [if_pos h, if_pos h.symm]
    · rw [if_neg h, if_neg (Ne.symm h)]; rfl
  | x :: l, k, n, j => by
    have ih := cget_put l k n j
    unfold cput
    by_cases e : x.1 = k
    · rw [if_pos e]
      unfold cget
      by_cases h : j = k
      · rw [if_pos h, if_pos h.symm]
      · rw [if_neg h, if_neg (Ne.symm h), if_neg (by rw [e]; exact Ne.symm h)]
    · rw [if_neg e]
      unfold cget
      rw [ih]
      by_cases h : x.1 = j
      · rw [if_pos h, if_pos h, if_neg (by rw [← h]; exact e)]
      · rw [if_neg h, if_neg h]
theorem cget_zero : ∀ (l : List (Nat × Nat)) (k : Nat), k ∉ l.map (·.1) → cget l k = 0
  | [], k, _ => rfl
  | x :: l, k, h => by
    simp only [List.map_cons, List.mem_cons, not_or] at h
    unfold cget
    rw [if_neg (Ne.symm h.1)]
    exact cget_zero l k h.2
structure Came (c : Nat) (L : List Nat) (cm : List (Nat × Nat)) : Prop where
  nd : (cm.map (·.1)).Nodup
  mem : ∀ k, k ∈ cm.map (·.1) ↔ ∃ w ∈ L, k = tsn c w
  ge : ∀ k, k ∈ cm.map (·.1) → 1 ≤ cget cm k
  le : ∀ k, cget cm k ≤ L.length
theorem Came.get {c : Nat} {L : List Nat} {cm : List (Nat × Nat)} (g : Came c L cm) (hL : ∀ w ∈ L, 1 ≤ w ∧ w ≤ 30000) {w : Nat} (hw : w ≤ 30001) : (w ∈ L ∧ 1 ≤ cget cm (tsn c w)) ∨ (w ∉ L ∧ cget cm (tsn c w) = 0) := by
  have key : tsn c w ∈ cm.map (·.1) ↔ w ∈ L := by
    rw [g.mem]
    constructor
    · rintro ⟨x, hx, e⟩
      have := hL x hx
      rw [tsn_inj (by omega) (by omega) e]; exact hx
    · exact fun h => ⟨w, h, rfl⟩
  by_cases h : w ∈ L
  · exact .inl ⟨h, g.ge _ (key.2 h)⟩
  · exact .inr ⟨h, cget_zero _ _ fun q => h (key.1 q)⟩
theorem Came.put {c : Nat} {L : List Nat} {cm : List (Nat × Nat)} (g : Came c L cm) (w : Nat) : Came c (L ++ [w]) (cput cm (tsn c w) (cget cm (tsn c w) + 1)) := by
  refine ⟨cput_nodup _ _ _ g.nd, fun k => ?_, fun k hk => ?_, fun k => ?_⟩
  · rw [cput_keys, g.mem]
    constructor
    · rintro (rfl | ⟨x, a, b⟩)
      · exact ⟨w, by simp, rfl⟩
      · exact ⟨x, List.mem_append_left _ a, b⟩
    · rintro ⟨x, a, b⟩
      rcases List.mem_append.1 a with q | q
      · exact .inr ⟨x, q, b⟩
      · simp only [List.mem_singleton] at q
        exact .inl (by rw [b, q])
  · rw [cget_put]
    split
    · omega
    · rename_i h
      rcases (cput_keys _ _ _ _).1 hk with q | q
      · exact absurd q h
      · exact g.ge k q
  · have := g.le k
    have := g.le (tsn c w)
    rw [cget_put, List.length_append]
    split <;> simp only [List.length_cons, List.length_nil] <;> omega
theorem runN_take {c : Nat} {L : List Nat} {i : Nat} (hi : i < L.length) : runN c (L.take (i + 1)) = stepN c (runN c (L.take i)) L[i] := by
  rw [show L.take (i + 1) = L.take i ++ [L[i]] by simp, runN_snoc]
theorem stepN_eq (c : Nat) (s : Nat × List Nat × List Nat) (w : Nat) : addN s.1 s.2.1 s.2.2 (tsn c w) = ((addN s.1 s.2.1 s.2.2 (tsn c w)).1, (stepN c s w).1, (stepN c s w).2.1, (stepN c s w).2.2) := rfl
structure P10 where
  i : Nat
  sb : Nat
  r : Nat
  da : Option Addr
  dc : Nat
  sb2 : Nat
  r2 : Nat
  ea : Option Addr
  ec : Nat
  cm : List (Nat × Nat)
  H : AHeap
structure P10.ok (x : P10) (c : Nat) (A B : List Nat) (ob : Option Addr) (oc mr : Nat) (h : AHeap) : Prop where
  s : GSet x.H x.sb x.r (runN c A).1 (runN c A).2.1 x.da x.dc (runN c A).2.2 h.n
  t : GSet x.H x.sb2 x.r2 (runN c B).1 (runN c B).2.1 x.ea x.ec (runN c B).2.2 h.n
  cv : Came c A x.cm
  mp : SMap x.H mr .u32 (cmv x.cm)
  old : Same h x.H
  ap : ∀ j ∈ [x.sb2, x.r2] ++ blk x.ea, j ∉ [x.sb, x.r] ++ blk x.da
  ma : mr ∉ [x.sb, x.r] ++ blk x.da
  mb : mr ∉ [x.sb2, x.r2] ++ blk x.ea
  mo : h.n ≤ mr
  oa : ∀ j ∈ blk ob, j ∉ [x.sb, x.r] ++ blk x.da
  oq : ∀ j ∈ blk ob, j ∉ [x.sb2, x.r2] ++ blk x.ea
  om : mr ∉ blk ob
theorem step_any {c : Nat} {L : List Nat} {i : Nat} (i0 : i < L.length) : ∃ code, addN (runN c (L.take i)).1 (runN c (L.take i)).2.1 (runN c (L.take i)).2.2 (tsn c L[i]) = (code, (runN c (L.take (i + 1))).1, (runN c (L.take (i + 1))).2.1, (runN c (L.take (i + 1))).2.2) := ⟨_, by rw [runN_take i0]; exact stepN_eq c _ _⟩
theorem step_in {c : Nat} (hc : c < 4294967296) {L : List Nat} {i : Nat} (i0 : i < L.length) (hL : ∀ w ∈ L.take i, 1 ≤ w ∧ w ≤ 30000) (h1 : 1 ≤ L[i]) (h2 : L[i] ≤ 30000) : ∃ code, addN (runN c (L.take i)).1 (runN c (L.take i)).2.1 (runN c (L.take i)).2.2 (tsn c L[i]) = (code, (runN c (L.take (i + 1))).1, (runN c (L.take (i + 1))).2.1, (runN c (L.take (i + 1))).2.2) ∧ (code = 0 ↔ L[i] ∉ L.take i) := by
  obtain ⟨code, e⟩ := @step_any c L i i0
  refine ⟨code, e, ?_⟩
  obtain ⟨m, em, g, hn⟩ := runN_got hc (L.take i) hL
  have k := (g.add (ds := (runN c (L.take i)).2.2) hL hn h1 h2).1
  rw [← em, e] at k
  exact k
section
variable {P : Program} {h : AHeap} {o : Oper} {ov : Ov} {W : Nat → Prop} {q : Bool} {N : Nat} {ops : Array Oper} {os : List Oper} {k : List It} {df : List Nat} {Q : PQ} {d : Nat} {tr : List (Option LE)}
theorem GoL.lookup {t : TypeId} {x y : Operand} {K : IntKind} {z : Value} {r : Nat} {f : List (Int × Value)} {n : Int} [hm : MI P t K z] (ho : o.op = .lookup t x y false) (hd : o.dst = some d) (hN : dOk d N = true) (hgd : o.guard = none) (hx : evO ov x = some (.map (some r))) (hy : evO ov y = some (.int K n)) (m : IMap h r K f) (g : GoL P W q N ops (tr ++ [some ⟨h.n, h.n, [r], [], false, true⟩]) os k ((d, (al f n).getD z) :: ov) df h Q) : GoL P W q N ops tr (o :: os) k ov df h Q := GoL.step (r := ⟨(al f n).getD z, h, [r], [], false, true⟩) (some ⟨h.n, h.n, [r], [], false, true⟩) ⟨rfl, rfl, rfl, rfl, rfl, rfl⟩ hgd hd hN (S.lookup ho hx hy m) (fun i hi => by cases hi) g
theorem GoL.boolNe {t t₂ : TypeId} {x y : Operand} {a b : Bool} (ho : o.op = .binOp .neq t x y t₂) (hd : o.dst = some d) (hN : dOk d N = true) (hgd : o.guard = none) (hx : evO ov x = some (.bool a)) (hy : evO ov y = some (.bool b)) (hu : P.underlying t = some .bool) (g : GoL P W q N ops (tr ++ [none]) os k ((d, .bool (!(a == b))) :: ov) df h Q) : GoL P W q N ops tr (o :: os) k ov df h Q := GoL.step (r := pureO h _) none ⟨rfl, rfl, rfl, rfl, rfl⟩ hgd hd hN (S.boolNe ho hx hy hu) (fun i hi => by cases hi) g
end
set_option maxHeartbeats 64000000 in
theorem gapsOrder_spec (c : Nat) (hc : c < 4294967296) (L : List Nat) (a : Option Addr) (cap : Nat) (T : List Nat) (ta : Option Addr) (tc : Nat) (h : AHeap) (hz : Rv Try.prog h 1 a L.length cap (u16s L)) (ht : Rv Try.prog h 1 ta T.length tc (u16s T)) (hTl : T.length ≤ 9223372036854775807) (hlb : ∀ x ∈ L, x < 65536) (htb : ∀ x ∈ T, x < 65536) : CallS Try.prog [] 4 [.int .u32 c, .slice a L.length cap, .slice ta T.length tc] h fun v h' => v = .bool true := by
  have hkn := known08 h
  (refine CallS.of3 Try.func4 rfl Try.ntmps4 Try.results4 rfl ?_)
  (refine Go.run (g:=?_))
  refine GoR.call rfl rfl rfl rfl rfl rfl rfl (((hkn).argA).mono ?_)
  rintro _ h1 rfl s1
  have m1 := s1.1
  rcases Nat.lt_or_ge 300 L.length with q | q
  · (refine Go.run (g:=?_))
    (first|refine Go.finT (by first|exact .inr rfl|exact .inl rfl) rfl ?_|refine Go.fin1 (by first|exact .inr rfl|exact .inl rfl) rfl (hq:=?_))
    rfl
  (refine Go.run (g:=?_))
  refine GoR.call rfl rfl rfl rfl rfl rfl rfl (((gnew_spec c hc _).argA).mono ?_)
  rintro _ h2 ⟨sb, r, rfl, G2⟩ s2
  have m2 := s2.1
  (refine Go.run (g:=?_))
  refine GoR.call rfl rfl rfl rfl rfl rfl rfl (((gnew_spec c hc _).argA).mono ?_)
  rintro _ h3 ⟨sb2, r2, rfl, G3⟩ s3
  have m3 := s3.1
  have G2' : GSet h2 sb r c [] none 0 [] h.n := { G2 with ow := ⟨by have := G2.ow.1; omega, by have := G2.ow.2.1; omega, Own.nil _⟩ }
  have G3' : GSet h3 sb2 r2 c [] none 0 [] h.n := { G3 with ow := ⟨by have := G3.ow.1; omega, by have := G3.ow.2.1; omega, Own.nil _⟩ }
  have lt2 := G2'.lts
  have ow3 := G3.owns
  have ap3 : ∀ j ∈ [sb2, r2] ++ blk (none : Option Addr), j ∉ [sb, r] ++ blk (none : Option Addr) := fun j hj hm => by
    have := lt2 j hm
    have := ow3 j hj
    omega
  have GA := G2'.same s3
  have s03 := (s1.trans s2).trans s3
  clear G2 G2' G3 lt2 ow3 s1 s2 s3 hkn
  (refine Go.run (g:=?_))
  refine GoR.buildO (c := []) rfl rfl rfl rfl rfl (by decide) (by rfl) (by rfl) ?_
  intro b4 h4 hb4 ob4 s4 n4
  have m4 := s4.1
  (refine Go.run (g:=?_))
  have one1 : (u16s L).all Value.oneCell' = true := by simp [u16s, Value.oneCell', List.all_eq_true]
  refine GoR.appendV rfl rfl rfl rfl rfl rfl hb4 (hz.same (s03.trans s4)) (Own.ok ob4 (by omega)) (by omega) (by omega) one1 ?_
  intro b5 c5 h5 hb5 k5 o5
  have m5 := k5.1
  have ob5 : Own h3.n b5 := fun j hj => by
    rcases o5 j hj with z | z
    · exact ob4 j z
    · omega
  have glt := GA.lts
  have rlt := G3'.lts
  have GA5 := (GA.same s4).kept k5 (fun j hj hm => by have := glt j hj; have := ob4 j hm; omega)
  have GB5 := (G3'.same s4).kept k5 (fun j hj hm => by have := rlt j hj; have := ob4 j hm; omega)
  have old5 := (s03.trans s4).own k5 (fun j hj => by have := ob4 j hj; omega)
  have oa5 : ∀ j ∈ blk b5, j ∉ [sb, r] ++ blk (none : Option Addr) := fun j hj hm => by have := glt j hm; have := ob5 j hj; omega
  have oq5 : ∀ j ∈ blk b5, j ∉ [sb2, r2] ++ blk (none : Option Addr) := fun j hj hm => by have := rlt j hm; have := ob5 j hj; omega
  rw [List.nil_append, Nat.zero_add] at hb5
  rw [Nat.zero_add]
  clear k5 hb4 s4 GA G3' glt rlt one1 s03
  (refine Go.run (g:=?_))
  have oL : L.length = L.length ∧ (∀ w, w ∈ L ↔ w ∈ L) := ⟨rfl, fun _ => Iff.rfl⟩
  refine Go.loop (α := Nat × List Nat × AHeap) (fun x => [(36, .int .i64 x.1), (35, .int .i64 T.length), (34, .slice ta T.length tc), (9, .slice b5 L.length c5), (1, .slice a L.length cap), (0, .int .u32 c), (7, .pointer (some ⟨sb, 0, none⟩)), (8, .pointer (some ⟨sb2, 0, none⟩))]) (fun _ => []) (fun x => x.2.2) (fun x => x.1 ≤ T.length ∧ x.2.1.length = L.length ∧ (∀ w, w ∈ x.2.1 ↔ w ∈ L) ∧ Sv x.2.2 46 1 b5 L.length c5 (u16s x.2.1) ∧ GSet x.2.2 sb r c [] none 0 [] h.n ∧ GSet x.2.2 sb2 r2 c [] none 0 [] h.n ∧ Same h x.2.2) (fun x => T.length - x.1) (0, L, h5) ⟨Nat.zero_le _, rfl, fun _ => Iff.rfl, hb5, GA5, GB5, old5⟩ ⟨rfl, rfl, rfl, rfl, rfl, rfl, rfl, rfl, trivial⟩ rfl rfl ?_
  clear hb5 GA5 GB5 old5 oL
  rintro ⟨i, o, H⟩ ⟨hi, hol, hom, so, GA, GB, old⟩
  simp only at hi hol hom so GA GB old ⊢
  have hHn := old.1
  rcases Nat.lt_or_ge i T.length with i0 | i0
  · have ht1 := ht.same old
    have c0 : (u16s T)[i]? = some (.int .u16 (T[i] : Nat)) := by simp [i0]
    have hbe : (u16s T).length = T.length := by simp
    have htk := htb _ (List.getElem_mem i0)
    generalize T[i] = tk at *
    rcases Nat.lt_or_ge i L.length with i1 | i1
    case inr =>
      (refine Go.run (g:=?_))
      exact Go.again (i + 1, o, H) ⟨i0, hol, hom, so, GA, GB, old⟩ (by simp only; omega) ⟨rfl, rfl, rfl, rfl, rfl, rfl, rfl, rfl, trivial⟩ rfl rfl
    have hk : tk % L.length < L.length := Nat.mod_lt _ (by omega)
    (repeat (first|refine GoR.end ?_|(refine GoR.gd rfl ?_;first|refine GoR.wanted' rfl rfl rfl rfl (g:=?_)|refine GoR.unwanted' rfl rfl rfl rfl (hd:=rfl) (hN:=rfl) (g:=?_)|refine GoR.unwantedU rfl rfl rfl rfl rfl rfl ?_)|(refine GoR.kk 0 rfl ?_;first|refine GoR.move rfl rfl rfl rfl rfl ?_|refine GoR.assign rfl rfl rfl rfl rfl ?_)|(refine GoR.kk 1 rfl ?_;first|refine GoR.load' rfl rfl rfl rfl rfl (g:=?_)|refine GoR.loadA' rfl rfl rfl rfl rfl (hv:=rfl) (g:=?_)|refine GoR.loadV' rfl rfl rfl rfl rfl (g:=?_)|refine GoR.loadVN' rfl rfl rfl rfl rfl (g:=?_))|(refine GoR.kk 2 rfl ?_;first|refine GoR.store' rfl rfl rfl rfl rfl (hl:=rfl) (h1:=rfl) (h3:=rfl) (g:=?_))|(refine GoR.kk 3 rfl ?_;first|refine GoR.fieldAddr rfl rfl rfl rfl rfl ?_|refine GoR.indexN' rfl rfl rfl rfl rfl rfl (g:=?_)|refine GoR.indexNs' rfl rfl rfl rfl rfl rfl (g:=?_)|refine GoR.indexV' rfl rfl rfl rfl rfl rfl (g:=?_)|refine GoR.indexA' rfl rfl rfl rfl rfl rfl (g:=?_)|refine GoR.fieldV' rfl rfl rfl rfl rfl (g:=?_))|(refine GoR.kk 4 rfl ?_;first|refine GoR.eq rfl rfl rfl rfl rfl rfl ?_|refine GoR.ne rfl rfl rfl rfl rfl rfl ?_|refine GoR.lt rfl rfl rfl rfl rfl rfl ?_|refine GoR.le rfl rfl rfl rfl rfl rfl ?_|refine GoR.gt rfl rfl rfl rfl rfl rfl ?_|refine GoR.ge rfl rfl rfl rfl rfl rfl ?_|refine GoR.addN' rfl rfl rfl rfl rfl rfl (g:=?_)|refine GoR.subN' rfl rfl rfl rfl rfl rfl (g:=?_)|refine GoR.add' rfl rfl rfl rfl rfl rfl (g:=?_)|refine GoR.sub' rfl rfl rfl rfl rfl rfl (g:=?_)|refine GoR.addM' rfl rfl rfl rfl rfl rfl (g:=?_)|refine GoR.subM' rfl rfl rfl rfl rfl rfl (g:=?_)|refine GoR.mulM' rfl rfl rfl rfl rfl rfl (g:=?_)|refine GoR.shrN rfl rfl rfl rfl rfl rfl rfl ?_|refine GoR.structEq rfl rfl rfl rfl rfl rfl (by rfl) (by rfl) ?_|refine GoR.structNe rfl rfl rfl rfl rfl rfl (by rfl) (by rfl) ?_|refine GoR.strEq rfl rfl rfl rfl rfl rfl ?_|refine GoR.strNe rfl rfl rfl rfl rfl rfl ?_|refine GoR.remN' rfl rfl rfl rfl rfl rfl (g:=?_)|refine GoR.quoN' rfl rfl rfl rfl rfl rfl (g:=?_)|refine GoR.shlN' rfl rfl rfl rfl rfl rfl rfl (g:=?_)|refine GoR.orN' rfl rfl rfl rfl rfl rfl (g:=?_))|(refine GoR.kk 5 rfl ?_;first|refine GoR.len rfl rfl rfl rfl rfl ?_|refine GoR.lenStr rfl rfl rfl rfl rfl ?_|refine GoR.capB rfl rfl rfl rfl rfl ?_)|(refine GoR.kk 7 rfl ?_;first|refine GoR.pickE' rfl rfl rfl rfl rfl (hx:=rfl) (hy:=rfl) (g:=?_)|refine GoR.pickN' rfl rfl rfl rfl rfl (hx:=rfl) (hy:=rfl) (g:=?_)|refine GoR.pickB rfl rfl rfl rfl rfl rfl rfl ?_)|(refine GoR.kk 8 rfl ?_;first|refine GoR.boxA rfl rfl rfl rfl rfl ?_|refine GoR.boxS rfl rfl rfl rfl rfl rfl ?_|refine GoR.alloc rfl rfl rfl rfl ?_)|(refine GoR.kk 9 rfl ?_;first|refine GoR.strV' rfl rfl rfl rfl rfl (g:=?_)|refine GoR.conv_u8 rfl rfl rfl rfl rfl ?_|refine GoR.convW' rfl rfl rfl rfl rfl (g:=?_)|refine GoR.conv_u16 rfl rfl rfl rfl rfl ?_|refine GoR.conv_u32 rfl rfl rfl rfl rfl ?_)|(refine GoR.kk 10 rfl ?_;first|refine GoR.build' rfl rfl rfl rfl rfl rfl (g:=?_))|(refine GoR.kk 11 rfl ?_;first|refine GoR.extract rfl rfl rfl rfl rfl rfl ?_|refine GoR.not rfl rfl rfl rfl rfl ?_|refine GoR.nilCheck rfl rfl rfl rfl rfl ?_|refine GoR.nilCheckF rfl rfl rfl rfl rfl ?_|refine GoR.makeFunc rfl rfl rfl rfl rfl rfl ?_)|(refine Go.kk 0 rfl ?_;refine Go.seq ?_)|(refine Go.kk 1 rfl ?_;refine Go.region (by kernel_rfl) rfl ?_)|(refine Go.kk 3 rfl ?_;first|refine Go.cond_t' rfl (g:=?_)|refine Go.cond_f' rfl (g:=?_))|(refine Go.kk 4 rfl ?_;refine Go.block ?_)|(refine Go.kk 5 rfl ?_;first|refine Go.skip ?_|refine Go.ret ?_|refine Go.exit ?_|refine Go.scope ?_)|refine Go.leave_normal ?_|refine Go.leave_same ?_|refine Go.leave_ret ?_|refine Go.ret_code ?_|refine Go.exit_code ?_|refine Go.leave_other rfl ?_|refine Go.sc_normal ?_|refine Go.sc_ret ?_|refine Go.sc_exit ?_|refine Go.exit_back ?_|refine Go.ret_back ?_))
    generalize tk % L.length = k at *
    have ik : i < o.length := by omega
    have kk : k < o.length := by omega
    have c1 : (u16s o)[k]? = some (.int .u16 (o[k] : Nat)) := by simp [kk]
    have c2 : (u16s o)[i]? = some (.int .u16 (o[i] : Nat)) := by simp [ik]
    have hol2 : (u16s o).length = L.length := by simp [hol]
    have hsw : ((u16s o).set i (.int .u16 (o[k] : Nat))).set k (.int .u16 (o[i] : Nat)) = u16s ((o.set i o[k]).set k o[i]) := by simp [u16s, List.map_set]
    have hmem := swap_mem ik kk
    have hlen : ((o.set i o[k]).set k o[i]).length = o.length := by simp
    generalize o[k] = y at *
    generalize o[i] = x at *
    generalize (o.set i y).set k x = o' at *
    refine Go.kk 2 rfl ?_
    refine Go.loud (by kernel_rfl) rfl ?_
    (refine Go.runL (g:=?_))
    refine GoL.store1' rfl rfl rfl rfl rfl rfl (hS := so) (hw := fun j hj => .inr (by have := ob5 j hj; omega)) (g:=?_)
    intro h7 so7 k7 n7
    (refine Go.runL (g:=?_))
    refine GoL.store1' rfl rfl rfl rfl rfl rfl (hS := so7) (hw := fun j hj => .inr (by have := ob5 j hj; omega)) (g:=?_)
    intro h8 so8 k8 n8
    have hdis : ∀ b ∈ ([] : List Nat), b ≠ k := fun b hb => by cases hb
    have hdis2 := hdis
    (refine Go.runL (g:=?_))
    refine GoL.end_ (hl := by (simp only [List.nil_append, List.cons_append]); repeat (first | exact loudP.nil | refine loudP.none ?_ | refine loudP.new (fun _ hb => absurd hb List.not_mem_nil) ?_ | refine loudP.row (by repeat (first | exact loudRowP.nil | refine loudRowP.none ?_ | refine loudRowP.bef (by decide +kernel) ?_ | refine loudRowP.apart (by first | exact .inl rfl | exact .inr (by simp)) rfl (fun i hi => by first | (have hx := hdis _ hi; first | (simp; fail_if_success focus skip) | (simp; omega)) | (have hx := hdis2 _ hi; first | (simp; fail_if_success focus skip) | (simp; omega))) ?_)) ?_)) ?_
    clear hdis hdis2
    rw [hsw] at so8
    have GA8 := (GA.kept k7 fun j hj hm => oa5 j hm hj).kept k8 fun j hj hm => oa5 j hm hj
    have GB8 := (GB.kept k7 fun j hj hm => oq5 j hm hj).kept k8 fun j hj hm => oq5 j hm hj
    have old8 := (old.own k7 fun j hj => by have := ob5 j hj; omega).own k8 fun j hj => by have := ob5 j hj; omega
    (refine Go.run (g:=?_))
    exact Go.again (i + 1, o', h8) ⟨i0, by simp only; omega, fun w => (hmem w).trans (hom w), so8, GA8, GB8, old8⟩ (by simp only; omega) ⟨rfl, rfl, rfl, rfl, rfl, rfl, rfl, rfl, trivial⟩ rfl rfl
  have hie : i = T.length := by omega
  subst hie
  clear ht htb hi
  (refine Go.run (g:=?_))
  refine GoR.makeMapS rfl rfl rfl rfl ?_
  intro h6 M6 s6 n6
  have m6 := s6.1
  have glt := GA.lts
  have rlt := GB.lts
  have slt := so.lt
  have ok0 : P10.ok ⟨0, sb, r, none, 0, sb2, r2, none, 0, [], h6⟩ c (L.take 0) (o.take 0) b5 c5 H.n h := ⟨GA.same s6, GB.same s6, ⟨List.nodup_nil, (fun k => by simp), (fun k hk => by cases hk), fun k => Nat.zero_le _⟩, M6 .u32, old.trans s6, ap3, fun q => by have := glt _ q; omega, fun q => by have := rlt _ q; omega, hHn, oa5, oq5, fun q => by have := slt _ q; omega⟩
  have so6 := so.same s6
  clear GA GB old so M6 s6 glt rlt slt oa5 oq5 ap3
  (refine Go.run (g:=?_))
  refine Go.loop (α := P10) (fun x => [(68, .int .i64 x.i), (67, .int .i64 L.length), (66, .slice a L.length cap), (9, .slice b5 L.length c5), (13, .map (some H.n)), (0, .int .u32 c), (7, .pointer (some ⟨x.sb, 0, none⟩)), (8, .pointer (some ⟨x.sb2, 0, none⟩))]) (fun _ => []) (fun x => x.H) (fun x => x.i ≤ L.length ∧ (∀ w ∈ L.take x.i, 1 ≤ w ∧ w ≤ 30000) ∧ x.ok c (L.take x.i) (o.take x.i) b5 c5 H.n h ∧ Sv x.H 46 1 b5 L.length c5 (u16s o)) (fun x => L.length - x.i) ⟨0, sb, r, none, 0, sb2, r2, none, 0, [], h6⟩ ⟨Nat.zero_le _, fun w hw => by simp at hw, ok0, so6⟩ ⟨rfl, rfl, rfl, rfl, rfl, rfl, rfl, rfl, trivial⟩ rfl rfl ?_
  clear ok0 so6
  generalize H.n = mr at *
  rintro ⟨i, sb, r, da, dc, sb2, r2, ea, ec, cm, H1⟩ ⟨hi, hL, ok, so⟩
  simp only at hi hL ok so ⊢
  obtain ⟨G, R, cv, mp, old, ap, ma, mb, mo, oa, oq, om⟩ := ok
  simp only at G R cv mp old ap ma mb mo oa oq om
  have hH1 := old.1
  rcases Nat.lt_or_ge i L.length with i0 | i0
  · have hz1 := hz.same old
    have i1 : i < o.length := by omega
    have c0 : (u16s L)[i]? = some (.int .u16 (L[i] : Nat)) := by simp [i0]
    have c1 : (u16s o)[i]? = some (.int .u16 (o[i] : Nat)) := by simp [i1]
    have hzl : (u16s L).length = L.length := by simp
    have hol2 : (u16s o).length = L.length := by simp [hol]
    have hwb := hlb _ (List.getElem_mem i0)
    have hvb := hlb _ ((hom _).1 (List.getElem_mem i1))
    have htk : L.take (i + 1) = L.take i ++ [L[i]] := by simp
    have st := @step_in c hc L i i0 hL
    obtain ⟨codeB, stB⟩ := @step_any c o i i1
    have cp := cv.put L[i]
    have cg := @Came.get c _ _ cv hL L[i]
    rw [← htk] at cp
    obtain ⟨-, -, dlA⟩ := runN_ok hc (L.take i)
    obtain ⟨-, -, dlB⟩ := runN_ok hc (o.take i)
    generalize L[i] = w at *
    generalize o[i] = v at *
    rcases Nat.lt_or_ge w 1 with w0 | w0
    · (refine Go.run (g:=?_))
      (first|refine Go.finT (by first|exact .inr rfl|exact .inl rfl) rfl ?_|refine Go.fin1 (by first|exact .inr rfl|exact .inl rfl) rfl (hq:=?_))
      rfl
    rcases Nat.lt_or_ge 30000 w with w1 | w1
    · (refine Go.run (g:=?_))
      (first|refine Go.finT (by first|exact .inr rfl|exact .inl rfl) rfl ?_|refine Go.fin1 (by first|exact .inr rfl|exact .inl rfl) rfl (hq:=?_))
      rfl
    obtain ⟨code, stA, hcode⟩ := st w0 w1
    have hL' : ∀ x ∈ L.take (i + 1), 1 ≤ x ∧ x ≤ 30000 := fun x hx => by
      rw [htk] at hx
      rcases List.mem_append.1 hx with q | q
      · exact hL x q
      · rw [List.mem_singleton.1 q]; exact ⟨w0, w1⟩
    have hcl := cv.le (tsn c w)
    have hil : (L.take i).length ≤ 300 := by rw [List.length_take]; omega
    have hne : (!(decide ((code : Int) = 0) == decide (((cget cm (tsn c w) : Nat) : Int) = 0))) = false := by
      rcases cg (by omega) with ⟨q1, q2⟩ | ⟨q1, q2⟩
      · have : ¬ code = 0 := fun e => hcode.1 e q1
        rw [decide_eq_false (by omega), decide_eq_false (by omega)]; rfl
      · have := hcode.2 q1
        rw [decide_eq_true (by omega), decide_eq_true (by omega)]; rfl
    clear st cg
    (refine Go.run (g:=?_))
    refine GoR.bin rfl rfl rfl rfl rfl rfl (add_tsn c w) ?_
    (repeat (first|refine GoR.end ?_|(refine GoR.gd rfl ?_;first|refine GoR.wanted' rfl rfl rfl rfl (g:=?_)|refine GoR.unwanted' rfl rfl rfl rfl (hd:=rfl) (hN:=rfl) (g:=?_)|refine GoR.unwantedU rfl rfl rfl rfl rfl rfl ?_)|(refine GoR.kk 0 rfl ?_;first|refine GoR.move rfl rfl rfl rfl rfl ?_|refine GoR.assign rfl rfl rfl rfl rfl ?_)|(refine GoR.kk 1 rfl ?_;first|refine GoR.load' rfl rfl rfl rfl rfl (g:=?_)|refine GoR.loadA' rfl rfl rfl rfl rfl (hv:=rfl) (g:=?_)|refine GoR.loadV' rfl rfl rfl rfl rfl (g:=?_)|refine GoR.loadVN' rfl rfl rfl rfl rfl (g:=?_))|(refine GoR.kk 2 rfl ?_;first|refine GoR.store' rfl rfl rfl rfl rfl (hl:=rfl) (h1:=rfl) (h3:=rfl) (g:=?_))|(refine GoR.kk 3 rfl ?_;first|refine GoR.fieldAddr rfl rfl rfl rfl rfl ?_|refine GoR.indexN' rfl rfl rfl rfl rfl rfl (g:=?_)|refine GoR.indexNs' rfl rfl rfl rfl rfl rfl (g:=?_)|refine GoR.indexV' rfl rfl rfl rfl rfl rfl (g:=?_)|refine GoR.indexA' rfl rfl rfl rfl rfl rfl (g:=?_)|refine GoR.fieldV' rfl rfl rfl rfl rfl (g:=?_))|(refine GoR.kk 4 rfl ?_;first|refine GoR.eq rfl rfl rfl rfl rfl rfl ?_|refine GoR.ne rfl rfl rfl rfl rfl rfl ?_|refine GoR.lt rfl rfl rfl rfl rfl rfl ?_|refine GoR.le rfl rfl rfl rfl rfl rfl ?_|refine GoR.gt rfl rfl rfl rfl rfl rfl ?_|refine GoR.ge rfl rfl rfl rfl rfl rfl ?_|refine GoR.addN' rfl rfl rfl rfl rfl rfl (g:=?_)|refine GoR.subN' rfl rfl rfl rfl rfl rfl (g:=?_)|refine GoR.add' rfl rfl rfl rfl rfl rfl (g:=?_)|refine GoR.sub' rfl rfl rfl rfl rfl rfl (g:=?_)|refine GoR.addM' rfl rfl rfl rfl rfl rfl (g:=?_)|refine GoR.subM' rfl rfl rfl rfl rfl rfl (g:=?_)|refine GoR.mulM' rfl rfl rfl rfl rfl rfl (g:=?_)|refine GoR.shrN rfl rfl rfl rfl rfl rfl rfl ?_|refine GoR.structEq rfl rfl rfl rfl rfl rfl (by rfl) (by rfl) ?_|refine GoR.structNe rfl rfl rfl rfl rfl rfl (by rfl) (by rfl) ?_|refine GoR.strEq rfl rfl rfl rfl rfl rfl ?_|refine GoR.strNe rfl rfl rfl rfl rfl rfl ?_|refine GoR.remN' rfl rfl rfl rfl rfl rfl (g:=?_)|refine GoR.quoN' rfl rfl rfl rfl rfl rfl (g:=?_)|refine GoR.shlN' rfl rfl rfl rfl rfl rfl rfl (g:=?_)|refine GoR.orN' rfl rfl rfl rfl rfl rfl (g:=?_))|(refine GoR.kk 5 rfl ?_;first|refine GoR.len rfl rfl rfl rfl rfl ?_|refine GoR.lenStr rfl rfl rfl rfl rfl ?_|refine GoR.capB rfl rfl rfl rfl rfl ?_)|(refine GoR.kk 7 rfl ?_;first|refine GoR.pickE' rfl rfl rfl rfl rfl (hx:=rfl) (hy:=rfl) (g:=?_)|refine GoR.pickN' rfl rfl rfl rfl rfl (hx:=rfl) (hy:=rfl) (g:=?_)|refine GoR.pickB rfl rfl rfl rfl rfl rfl rfl ?_)|(refine GoR.kk 8 rfl ?_;first|refine GoR.boxA rfl rfl rfl rfl rfl ?_|refine GoR.boxS rfl rfl rfl rfl rfl rfl ?_|refine GoR.alloc rfl rfl rfl rfl ?_)|(refine GoR.kk 9 rfl ?_;first|refine GoR.strV' rfl rfl rfl rfl rfl (g:=?_)|refine GoR.conv_u8 rfl rfl rfl rfl rfl ?_|refine GoR.convW' rfl rfl rfl rfl rfl (g:=?_)|refine GoR.conv_u16 rfl rfl rfl rfl rfl ?_|refine GoR.conv_u32 rfl rfl rfl rfl rfl ?_)|(refine GoR.kk 10 rfl ?_;first|refine GoR.build' rfl rfl rfl rfl rfl rfl (g:=?_))|(refine GoR.kk 11 rfl ?_;first|refine GoR.extract rfl rfl rfl rfl rfl rfl ?_|refine GoR.not rfl rfl rfl rfl rfl ?_|refine GoR.nilCheck rfl rfl rfl rfl rfl ?_|refine GoR.nilCheckF rfl rfl rfl rfl rfl ?_|refine GoR.makeFunc rfl rfl rfl rfl rfl rfl ?_)|(refine Go.kk 0 rfl ?_;refine Go.seq ?_)|(refine Go.kk 1 rfl ?_;refine Go.region (by kernel_rfl) rfl ?_)|(refine Go.kk 3 rfl ?_;first|refine Go.cond_t' rfl (g:=?_)|refine Go.cond_f' rfl (g:=?_))|(refine Go.kk 4 rfl ?_;refine Go.block ?_)|(refine Go.kk 5 rfl ?_;first|refine Go.skip ?_|refine Go.ret ?_|refine Go.exit ?_|refine Go.scope ?_)|refine Go.leave_normal ?_|refine Go.leave_same ?_|refine Go.leave_ret ?_|refine Go.ret_code ?_|refine Go.exit_code ?_|refine Go.leave_other rfl ?_|refine Go.sc_normal ?_|refine Go.sc_ret ?_|refine Go.sc_exit ?_|refine Go.exit_back ?_|refine Go.ret_back ?_))
    refine Go.kk 2 rfl ?_
    refine Go.loud (by kernel_rfl) rfl ?_
    (refine Go.runL (g:=?_))
    refine GoL.call rfl rfl rfl rfl rfl rfl rfl (((add_specE sb r _ _ da dc _ h.n (tsn c w) (tsn_lt _ _) dlA _ hH1 G stA).argA).mono ?_)
    rintro _ h5 ⟨rfl, da5, dc5, G5, bb5⟩ k5
    refine ⟨fun j hj => .inr (G.owns j hj), ?_⟩
    have m5 := k5.1
    have R5 := R.kept k5 ap
    have mp5 := mp.keeps k5 ma
    have so5 := so.keeps k5 oa
    have old5 := old.own k5 G.owns
    have ap5 := apart_step R.lts ap bb5
    have ma5 : mr ∉ [sb, r] ++ blk da5 := apart_step (prot := [mr]) (fun j hj => by rw [List.mem_singleton.1 hj]; exact mp.lt) (fun j hj => by rw [List.mem_singleton.1 hj]; exact ma) bb5 mr (by simp)
    have oa5 := apart_step so.lt oa bb5
    (refine Go.runL (g:=?_))
    refine GoL.lookup rfl rfl rfl rfl rfl rfl mp5.imap ?_
    rw [al_cmv]
    (refine Go.runL (g:=?_))
    refine GoL.boolNe rfl rfl rfl rfl rfl rfl (by kernel_rfl) ?_
    rw [hne]
    have hdis : ∀ b ∈ [sb, r] ++ blk da, b ≠ mr := fun b hb e => ma (by rw [← e]; exact hb)
    have hdis2 := hdis
    (refine Go.runL (g:=?_))
    refine GoL.end_ (hl := by (simp only [List.nil_append, List.cons_append]); repeat (first | exact loudP.nil | refine loudP.none ?_ | refine loudP.new (fun _ hb => absurd hb List.not_mem_nil) ?_ | refine loudP.row (by repeat (first | exact loudRowP.nil | refine loudRowP.none ?_ | refine loudRowP.bef (by decide +kernel) ?_ | refine loudRowP.apart (by first | exact .inl rfl | exact .inr (by simp)) rfl (fun i hi => by first | (have hx := hdis _ hi; first | (simp; fail_if_success focus skip) | (simp; omega)) | (have hx := hdis2 _ hi; first | (simp; fail_if_success focus skip) | (simp; omega))) ?_)) ?_)) ?_
    clear hdis hdis2 k5 G R mp so old ap ma oa
    (refine Go.run (g:=?_))
    refine GoR.lookup rfl rfl rfl rfl rfl rfl mp5.imap ?_
    rw [al_cmv]
    (refine Go.run (g:=?_))
    refine GoR.mapUpdateS (.inl rfl) rfl rfl rfl rfl rfl mp5 (.inr mo) ?_
    intro h6 M6 k6 n6
    rw [aset_cmv] at M6
    have G6 := G5.kept k6 (fun j hj hm => ma5 (by rw [← List.mem_singleton.1 hm]; exact hj))
    have R6 := R5.kept k6 (fun j hj hm => mb (by rw [← List.mem_singleton.1 hm]; exact hj))
    have so6 := so5.keeps k6 (fun j hj hm => om (by rw [← List.mem_singleton.1 hm]; exact hj))
    have old6 := old5.own k6 (fun j hj => by rw [List.mem_singleton.1 hj]; exact mo)
    clear k6 G5 R5 so5 old5 mp5
    (refine Go.run (g:=?_))
    refine GoR.bin rfl rfl rfl rfl rfl rfl (add_tsn c v) ?_
    (refine Go.run (g:=?_))
    refine GoR.callW rfl rfl rfl rfl rfl rfl rfl (((add_specE sb2 r2 _ _ ea ec _ h.n (tsn c v) (tsn_lt _ _) dlB _ (by omega) R6 stB).argA).mono ?_)
    rintro _ h7 ⟨rfl, ea7, ec7, R7, bb7⟩ k7
    refine ⟨fun j hj => .inr (R6.owns j hj), ?_⟩
    have G7 := G6.kept k7 (fun j hj hm => ap5 j hm hj)
    have M7 := M6.keeps k7 mb
    have so7 := so6.keeps k7 oq
    have old7 := old6.own k7 R6.owns
    have ap7 : ∀ j ∈ [sb2, r2] ++ blk ea7, j ∉ [sb, r] ++ blk da5 := fun j hj hm => apart_step G6.lts (fun j hj hm => ap5 j hm hj) bb7 j hm hj
    have mb7 : mr ∉ [sb2, r2] ++ blk ea7 := apart_step (prot := [mr]) (fun j hj => by rw [List.mem_singleton.1 hj]; exact M6.lt) (fun j hj => by rw [List.mem_singleton.1 hj]; exact mb) bb7 mr (by simp)
    have oq7 := apart_step so6.lt oq bb7
    clear k7 G6 R6 M6 so6 old6
    (refine Go.run (g:=?_))
    exact Go.again ⟨i + 1, sb, r, da5, dc5, sb2, r2, ea7, ec7, _, h7⟩ ⟨i0, hL', ⟨G7, R7, cp, M7, old7, ap7, ma5, mb7, mo, oa5, oq7, om⟩, so7⟩ (by simp only; omega) ⟨rfl, rfl, rfl, rfl, rfl, rfl, rfl, rfl, trivial⟩ rfl rfl
  have hie : i = L.length := by omega
  subst hie
  rw [List.take_length] at hL G cv
  rw [← hol, List.take_length] at R
  have hLo : ∀ w ∈ o, 1 ≤ w ∧ w ≤ 30000 := fun w hw => hL w ((hom w).1 hw)
  obtain ⟨m, em, gm, nm⟩ := runN_got hc L hL
  obtain ⟨m', em', gm', nm'⟩ := runN_got hc o hLo
  obtain ⟨⟨ws, A⟩, kl, -⟩ := runN_ok hc L
  obtain ⟨rfl, pm⟩ := gm.one gm' nm nm' hom
  rw [em] at A G
  rw [em'] at R
  have B := A.perm pm
  have hcnt := gm.count hL cv.nd cv.mem
  rw [List.length_map] at hcnt
  generalize (runN c L).2.1 = ks at *
  generalize (runN c L).2.2 = ds at *
  generalize (runN c o).2.1 = ks' at *
  generalize (runN c o).2.2 = ds' at *
  have hkl := pm.length_eq
  have gml := gm.le
  have hgl := rgaps_le ws
  have hasF : ∀ w, 1 ≤ w → w ≤ 30001 → hasN (tsn c m') ks (tsn c w) = decide (w ∈ L) := fun w h1 h2 => gm.has hL h1 h2
  have hwsb : ∀ w ∈ ws, 2 ≤ w ∧ w ≤ 30000 := fun w hw => by
    obtain ⟨k, hk, rfl⟩ := List.mem_map.1 (A.pm.mem_iff.1 hw)
    obtain ⟨x, hx, hmx, rfl⟩ := (gm.mem k).1 hk
    have := hL x hx
    have hne : x ≠ m' + 1 := fun e => nm (by rw [← e]; exact hx)
    unfold spanN tsn
    omega
  obtain ⟨uP, uM⟩ := ufold_ok ws A.so hwsb
  have oP : (rgaps ws).Pairwise (fun x y => x.2 + 2 ≤ y.1) := uP.sublist (List.take_sublist _ _)
  have oM : ∀ x ∈ rgaps ws, 2 ≤ x.1 ∧ x.1 ≤ x.2 ∧ x.2 ≤ 30000 := fun x hx => by
    have := uM x (List.mem_of_mem_take hx)
    have := (hwsb _ this.2.2).2
    omega
  clear uP uM hwsb hz hlb so hom hLo
  have hm1 : hasN (tsn c m') ks (tsn c (m' + 1)) = false := by rw [hasF _ (by omega) (by omega)]; exact decide_eq_false nm
  have hnx := tsn_next c m'
  have hspn : spanN c (tsn c m') = m' := by unfold spanN tsn; omega
  have htl := tsn_lt c m'
  have hsub := sub32 c (tsn c m') hc htl
  rw [hspn] at hsub
  generalize hC : tsn c m' = C at *
  (refine Go.run (g:=?_))
  refine GoR.call rfl rfl rfl rfl rfl rfl rfl (((cum_spec sb r C ks da dc ds h.n _ G).argA).mono ?_)
  rintro _ h2 ⟨rfl, rfl⟩ -
  (refine Go.run (g:=?_))
  refine GoR.call rfl rfl rfl rfl rfl rfl rfl (((cum_spec sb2 r2 C ks' ea ec ds' h.n _ R).argA).mono ?_)
  rintro _ h3 ⟨rfl, rfl⟩ -
  (refine Go.run (g:=?_))
  refine GoR.call rfl rfl rfl rfl rfl rfl rfl (((ggaps_spec sb r C ks da dc ds h.n ws A (by omega) _ G).argA).mono ?_)
  rintro _ h4 ⟨a4, rfl, S4, -⟩ s4
  have G4 := G.same s4
  have R4 := R.same s4
  have M4 := mp.same s4
  have nq4 : h.n ≤ h4.n := Nat.le_trans old.1 s4.1
  clear G R mp ap ma mb oa oq om old
  (refine Go.run (g:=?_))
  refine GoR.call rfl rfl rfl rfl rfl rfl rfl (((ggaps_spec sb2 r2 C ks' ea ec ds' h.n ws B (by omega) _ R4).argA).mono ?_)
  rintro _ h5 ⟨a5, rfl, S5, -⟩ s5
  (refine Go.run (g:=?_))
  refine GoR.call rfl rfl rfl rfl rfl rfl rfl (((sameGaps_spec a4 a5 _ _ (rgaps ws) (rgaps ws) (by omega) (by omega) _ (S4.same s5) S5).argA).mono ?_)
  rintro _ h6 ⟨rfl, rfl⟩ -
  rw [decide_eq_true rfl]
  have G5 := G4.same s5
  have R5 := R4.same s5
  have M5 := M4.same s5
  have nq5 := Nat.le_trans nq4 s5.1
  clear G4 R4 M4 S4 S5 s4 s5
  (refine Go.run (g:=?_))
  refine GoR.call rfl rfl rfl rfl rfl rfl rfl (((glen_spec sb r C ks da dc ds h.n _ G5).argA).mono ?_)
  rintro _ h7 ⟨rfl, rfl⟩ -
  (refine Go.run (g:=?_))
  refine GoR.call rfl rfl rfl rfl rfl rfl rfl (((glen_spec sb2 r2 C ks' ea ec ds' h.n _ R5).argA).mono ?_)
  rintro _ h8 ⟨rfl, rfl⟩ -
  (refine Go.run (g:=?_))
  refine GoR.call rfl rfl rfl rfl rfl rfl rfl (((cum_spec sb r C ks da dc ds h.n _ G5).argA).mono ?_)
  rintro _ h9 ⟨rfl, rfl⟩ -
  (refine Go.run (g:=?_))
  refine GoR.bin rfl rfl rfl rfl rfl rfl (add32 C) ?_
  rw [hnx]
  (refine Go.run (g:=?_))
  refine GoR.call rfl rfl rfl rfl rfl rfl rfl (((has_spec sb r C ks da dc ds h.n _ (tsn_lt c (m' + 1)) _ G5).argA).mono ?_)
  rintro _ h10 rfl s10
  rw [hm1]
  have G10 := G5.same s10
  have M10 := M5.same s10
  have nq10 := Nat.le_trans nq5 s10.1
  clear G5 R5 M5 s10
  (refine Go.run (g:=?_))
  refine GoR.call rfl rfl rfl rfl rfl rfl rfl (((ggaps_spec sb r C ks da dc ds h.n ws A (by omega) _ G10).argA).mono ?_)
  rintro _ h11 ⟨a11, rfl, S11, -⟩ s11
  have G11 := G10.same s11
  have M11 := M10.same s11
  have nq11 := Nat.le_trans nq10 s11.1
  clear G10 M10 s11
  generalize hOe : rgaps ws = O at *
  (refine Go.run (g:=?_))
  refine Go.loop (α := Nat × Nat × AHeap) (fun x => [(136, .int .i64 x.1), (135, .int .i64 O.length), (134, .slice a11 O.length O.length), (17, .int .u16 x.2.1), (13, .map (some mr)), (0, .int .u32 c), (7, .pointer (some ⟨sb, 0, none⟩))]) (fun _ => []) (fun x => x.2.2) (fun x => x.1 ≤ O.length ∧ x.2.1 ≤ 30000 ∧ (∀ y ∈ O.drop x.1, x.2.1 + 2 ≤ y.1) ∧ Same h11 x.2.2) (fun x => O.length - x.1) (0, 0, h11) ⟨Nat.zero_le _, Nat.zero_le _, fun y hy => by have := oM y hy; simp only; omega, Same.refl _⟩ ⟨rfl, rfl, rfl, rfl, rfl, rfl, rfl, trivial⟩ rfl rfl ?_
  rintro ⟨j, en, H2⟩ ⟨hj, hen, hdr, s12⟩
  simp only at hj hen hdr s12 ⊢
  have S12 := S11.same s12
  have nq12 := Nat.le_trans nq11 s12.1
  rcases Nat.lt_or_ge j O.length with j0 | j0
  · have c0 := gcs_get j0
    have hbe : j * 2 + 2 ≤ (gcs O).length := by rw [gcs_len]; omega
    have hy := oM _ (List.getElem_mem j0)
    have hpd : (O.drop j).Pairwise (fun x y => x.2 + 2 ≤ y.1) := oP.sublist (List.drop_sublist _ _)
    rw [List.drop_eq_getElem_cons j0] at hdr hpd
    have hy0 := hdr _ (List.mem_cons_self ..)
    have hpd1 := (List.pairwise_cons.1 hpd).1
    generalize O[j] = y at *
    obtain ⟨y1, y2⟩ := y
    simp only at c0 hy hy0 hpd1
    have nn : h.n ≤ H2.n := by omega
    (refine Go.run (g:=?_))
    refine Go.name ?_
    intro H3 e3
    have s3 : Same H2 H3 := by subst e3; exact ((Same.refl H2).push _).put (Nat.le_refl _) _
    clear e3
    exact Go.again (j + 1, y2, H3) ⟨j0, hy.2.2, hpd1, s12.trans s3⟩ (by simp only; omega) ⟨rfl, rfl, rfl, rfl, rfl, rfl, rfl, trivial⟩ rfl rfl
  have G12 := G11.same s12
  have M12 := M11.same s12
  clear hdr G11 M11 S11 S12 s12 oP oM
  (refine Go.run (g:=?_))
  refine Go.loop (α := Nat × AHeap) (fun x => [(20, .int .u32 x.1), (13, .map (some mr)), (0, .int .u32 c), (7, .pointer (some ⟨sb, 0, none⟩))]) (fun _ => []) (fun x => x.2) (fun x => 1 ≤ x.1 ∧ x.1 ≤ 31000 ∧ GSet x.2 sb r C ks da dc ds h.n ∧ SMap x.2 mr .u32 (cmv cm)) (fun x => 31000 - x.1) (1, H2) ⟨Nat.le_refl _, by simp only; omega, G12, M12⟩ ⟨rfl, rfl, rfl, rfl, trivial⟩ rfl rfl ?_
  clear G12 M12
  rintro ⟨w, H3⟩ ⟨hw1, hw2, G13, M13⟩
  simp only at hw1 hw2 G13 M13 ⊢
  rcases Nat.lt_or_ge 30001 w with w0 | w0
  case inl =>
    (refine Go.run (g:=?_))
    refine GoR.call rfl rfl rfl rfl rfl rfl rfl (((cum_spec sb r C ks da dc ds h.n _ G13).argA).mono ?_)
    rintro _ h14 ⟨rfl, rfl⟩ -
    (refine Go.run (g:=?_))
    refine GoR.bin rfl rfl rfl rfl rfl rfl hsub ?_
    (refine Go.run (g:=?_))
    refine GoR.call rfl rfl rfl rfl rfl rfl rfl (((glen_spec sb r C ks da dc ds h.n _ G13).argA).mono ?_)
    rintro _ h15 ⟨rfl, rfl⟩ -
    (refine Go.run (g:=?_))
    refine GoR.lenMapS rfl rfl rfl rfl rfl M13.imap ?_
    rw [show (cmv cm).length = cm.length from List.length_map _]
    (refine Go.run (g:=?_))
    refine GoR.call rfl rfl rfl rfl rfl rfl rfl (((ggaps_spec sb r C ks da dc ds h.n ws A (by omega) _ G13).argA).mono ?_)
    rintro _ h16 ⟨a16, rfl, S16, -⟩ s16
    rw [hOe]
    (refine Go.run (g:=?_))
    (first|refine Go.finT (by first|exact .inr rfl|exact .inl rfl) rfl ?_|refine Go.fin1 (by first|exact .inr rfl|exact .inl rfl) rfl (hq:=?_))
    show Value.bool _ = _
    rw [decide_eq_true (by omega)]
  have hh := hasF w hw1 w0
  have cg := cv.get hL w0
  have hne : (!(decide (w ∈ L) == decide ((0 : Int) < ((cget cm (tsn c w) : Nat) : Int)))) = false := by
    rcases cg with ⟨q1, q2⟩ | ⟨q1, q2⟩
    · rw [decide_eq_true q1, decide_eq_true (by omega)]; rfl
    · rw [decide_eq_false q1, decide_eq_false (by omega)]; rfl
  (refine Go.run (g:=?_))
  refine GoR.bin rfl rfl rfl rfl rfl rfl (add_tsn c w) ?_
  (refine Go.run (g:=?_))
  refine GoR.call rfl rfl rfl rfl rfl rfl rfl (((has_spec sb r C ks da dc ds h.n _ (tsn_lt c w) _ G13).argA).mono ?_)
  rintro _ h14 rfl s14
  rw [hh]
  have G14 := G13.same s14
  have M14 := M13.same s14
  clear G13 M13 s14
  (refine Go.run (g:=?_))
  refine GoR.bin rfl rfl rfl rfl rfl rfl (add_tsn c w) ?_
  (refine Go.run (g:=?_))
  refine GoR.lookup rfl rfl rfl rfl rfl rfl M14.imap ?_
  rw [al_cmv]
  (refine Go.run (g:=?_))
  refine GoR.boolNe rfl rfl rfl rfl rfl rfl (by kernel_rfl) ?_
  rw [hne]
  (refine Go.run (g:=?_))
  exact Go.again (w + (1 + w / 40), h14) ⟨by simp only; omega, by simp only; omega, G14, M14⟩ (by simp only; omega) ⟨rfl, rfl, rfl, rfl, trivial⟩ rfl rfl
end Go.Proofs.Ytfcfgmhcphmefaa
namespace Go.Proofs.Ytfcfgmhcphmefaa
set_option maxRecDepth 100000
open Go.ChangeShapes Go.WideShapes Go.ChangeAt Go.RowKit
theorem cells_of8 {α : Type} {f : α → List Value} {sz : Nat} : ∀ (len : Nat) (c : List Value), c.length = len * sz → (∀ i, i < len → ∃ x, (c.drop (i * sz)).take sz = f x) → ∃ l : List α, l.length = len ∧ c = (l.map f).flatten
  | 0, c, hl, _ => ⟨[], rfl, by simpa using hl⟩
  | n + 1, c, hl, each => by
    obtain ⟨x, e⟩ := each 0 (by omega)
    rw [Nat.zero_mul, List.drop_zero] at e
    obtain ⟨l, i1, i2⟩ := cells_of8 (f := f) (sz := sz) n (c.drop sz) (by rw [List.length_drop, hl, Nat.add_mul]; omega) fun i hi => by
      have := each (i + 1) (by omega)
      rwa [Nat.add_mul, Nat.one_mul, Nat.add_comm, ← List.drop_drop] at this
    exact ⟨x :: l, by simp [i1], by rw [List.map_cons, List.flatten_cons, ← e, ← i2, List.take_append_drop]⟩
abbrev N32 := {n : Nat // n < 4294967296}
theorem n32_of {n : Int} (w : (Lit.int .u32 n).wf = true) : ∃ k : N32, n = (k.1 : Nat) := by
  simp [Lit.wf, IntKind.wrap, IntKind.bits, IntKind.signed, IntKind.min, IntKind.max] at w
  exact ⟨⟨n.toNat, by omega⟩, by simp only; omega⟩
section
variable {H : Type} {enc : TypeId × Value → H} {W : World} {m : Mp} {h : AHeap} {base : Nat} {v : Value} {d : DataW H} {ps : List MemPlace}
end
end Go.Proofs.Ytfcfgmhcphmefaa
namespace Go.Proofs.Ytfcfgmhcphmefaa
open Go.ChangeShapes Go.WideShapes Go.ChangeAt Go.RowKit
set_option maxRecDepth 100000
theorem tU16 : Try.prog.underlying 46 = some (.int .u16) := by kernel_rfl
theorem tU16s : Try.prog.underlying 45 = some (.slice 46) := by kernel_rfl
theorem plainU16s : plainB Try.prog 4 45 = true := by kernel_rfl
abbrev N16 := {n : Nat // n < 65536}
theorem n16_of {n : Int} (w : (Lit.int .u16 n).wf = true) : ∃ k : N16, n = (k.1 : Nat) := by
  simp [Lit.wf, IntKind.wrap, IntKind.bits, IntKind.signed, IntKind.min, IntKind.max] at w
  exact ⟨⟨n.toNat, by omega⟩, by simp only; omega⟩
section
variable {H : Type} {enc : TypeId × Value → H} {W : World} {m : Mp} {h : AHeap} {base : Nat} {v : Value} {d : DataW H} {ps : List MemPlace}
theorem imp_u16s (o : Value.okWide Try.prog W .any base 45 v) (ht : DataW.Trod enc Try.prog W 0 (fun _ => true) true 45 v d ps) (I : Im Try.prog W m h) :
    ∃ m' h', Im Try.prog W m' h' ∧ m.le m' ∧ Same h h' ∧ ∃ (a : Option Addr) (cap : Nat) (l : List Nat), VRel m' (.slice a l.length cap) v ∧ Rv Try.prog h' 1 a l.length cap (u16s l) ∧ (∀ x ∈ l, x < 65536) ∧ l.length ≤ 9223372036854775807 := by
  obtain ⟨a0, l0, c0, rfl⟩ := okWide_slice tU16s o
  obtain ⟨m', h', cs, I', hm, hs, hA, hR, hl⟩ := imp_val plainU16s ht I
  obtain ⟨x, rfl, hv⟩ := vrel_one hA (by rw [hl]; kernel_rfl) rfl
  obtain ⟨a, len, cap, c, e, hz, hcap, hel⟩ := hR.slice_inv tU16s
  cases e
  rw [show Try.prog.cellsOf 46 = 1 from by kernel_rfl] at hz hel
  have hle := hz.le
  obtain ⟨l, rfl, rfl⟩ := cells_of8 (f := fun x : N16 => [.int .u16 (x.1 : Nat)]) len c hz.length fun i hi => by
    obtain ⟨d', r⟩ := hel i hi
    obtain ⟨k, e1, w⟩ := r.int_inv tU16
    obtain ⟨k', rfl⟩ := n16_of w
    exact ⟨k', e1⟩
  refine ⟨m', h', I', hm, hs, a, cap, l.map (·.1), by rw [List.length_map]; exact hv, ?_, fun x hx => ?_, ?_⟩
  · have e : u16s (l.map (·.1)) = (l.map fun n : N16 => [Value.int .u16 (n.1 : Nat)]).flatten := by
      clear hz hel hv hA hR hl hle
      induction l with
      | nil => rfl
      | cons x l ih => simp only [u16s, List.map_cons, List.flatten_cons, List.cons_append, List.nil_append] at ih ⊢; rw [ih]
    rw [List.length_map, e]; exact hz
  · obtain ⟨y, -, rfl⟩ := List.mem_map.1 hx
    exact y.2
  · rw [List.length_map]
    exact Nat.le_trans hle hcap
end
theorem gapsOrderWalk {H : Type} {enc : TypeId × Value → H} {base : Nat} {d1 d2 : DataW H} {p1 p2 : List MemPlace} (a0 : Int) (v1 v2 : Value) (W : World) (w0 : (Lit.int .u32 a0).wf = true) (o1 : Value.okWide Try.prog W .any base 45 v1) (h1 : DataW.Trod enc Try.prog W 0 (fun _ => true) true 45 v1 d1 p1) (o2 : Value.okWide Try.prog W .any base 45 v2) (h2 : DataW.Trod enc Try.prog W 0 (fun _ => true) true 45 v2 d2 p2) : Calls Try.prog 4 #[.int .u32 a0, v1, v2] W fun e w' => e = .returned (.bool true) ∧ Below W.heap.size W w' := by
  obtain ⟨m, h, I, _, _, a, cap, l, hv, hz, hb, _⟩ := imp_u16s o1 h1 (Im.empty Try.prog W)
  obtain ⟨m2, h', I2, hm2, s2, ta, tc, t, hv2, ht, htb, htl⟩ := imp_u16s o2 h2 I
  obtain ⟨c, rfl⟩ := n32_of w0
  refine calls_imp noGlobals I2 rfl (gapsOrder_spec c.1 c.2 l a cap t ta tc h' (hz.same s2) ht htl hb htb) ?_
  exact (((ARel.single (.int _ _)).push (hv.mono hm2)).push hv2)
end Go.Proofs.Ytfcfgmhcphmefaa