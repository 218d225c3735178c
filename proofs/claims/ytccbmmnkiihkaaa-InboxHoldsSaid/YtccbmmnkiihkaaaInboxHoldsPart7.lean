/- What the law leans on, part 7. No conditions. -/
import Derived.Sort.AssemblyPlain
import Derived.KernelRfl
import Derived.ProofKit
import Derived.OpenShut
import Derived.ChangeOld
import Derived.Test.YtccbmmnkiihkaaaInboxHoldsPart6
set_option linter.unusedVariables false
set_option linter.unusedSimpArgs false
namespace Go.Proofs.Ytccbmmnkiihkaaa
open Go.Sort
set_option maxRecDepth 100000
attribute [local irreducible] Go GoR GoL
def spanN (a b : Nat) : Nat := (b + 4294967296 - a) % 4294967296
theorem sub32 (a b : Nat) (ha : a < 4294967296) (hb : b < 4294967296) : iBin .sub .u32 (b : Int) (a : Int) = some (.int .u32 ((spanN a b : Nat) : Int)) := by
  have e : ((spanN a b : Nat) : Int) = ((b : Int) - (a : Int)) % 4294967296 := by unfold spanN; omega
  simp [iBin, IntKind.wrap, IntKind.bits, IntKind.signed, e]
theorem span_lt (a b : Nat) : spanN a b < 4294967296 := Nat.mod_lt _ (by decide)
set_option maxHeartbeats 4000000 in
theorem span_spec (a b : Nat) (ha : a < 4294967296) (hb : b < 4294967296) (h : AHeap) : CallS Try.prog [] 35 [.int .u32 a, .int .u32 b] h fun v h' => v = .int .u32 (spanN a b : Nat) ∧ h' = h := by
  have hs := sub32 a b ha hb
  generalize spanN a b = s at *
  (refine CallS.of2 Try.func35 rfl Try.ntmps35 Try.results35 rfl ?_)
  (iterate 8 (first|refine GoR.end ?_|(refine GoR.gd rfl ?_;first|refine GoR.wanted' rfl rfl rfl rfl (g:=?_)|refine GoR.unwanted' rfl rfl rfl rfl (hd:=rfl) (hN:=rfl) (g:=?_)|refine GoR.unwantedU rfl rfl rfl rfl rfl rfl ?_)|(refine GoR.kk 0 rfl ?_;first|refine GoR.move rfl rfl rfl rfl rfl ?_|refine GoR.assign rfl rfl rfl rfl rfl ?_)|(refine GoR.kk 1 rfl ?_;first|refine GoR.load' rfl rfl rfl rfl rfl (g:=?_)|refine GoR.loadA' rfl rfl rfl rfl rfl (hv:=rfl) (g:=?_)|refine GoR.loadV' rfl rfl rfl rfl rfl (g:=?_)|refine GoR.loadVN' rfl rfl rfl rfl rfl (g:=?_))|(refine GoR.kk 2 rfl ?_;first|refine GoR.store' rfl rfl rfl rfl rfl (hl:=rfl) (h1:=rfl) (h3:=rfl) (g:=?_))|(refine GoR.kk 3 rfl ?_;first|refine GoR.fieldAddr rfl rfl rfl rfl rfl ?_|refine GoR.indexN' rfl rfl rfl rfl rfl rfl (g:=?_)|refine GoR.indexNs' rfl rfl rfl rfl rfl rfl (g:=?_)|refine GoR.indexV' rfl rfl rfl rfl rfl rfl (g:=?_)|refine GoR.indexA' rfl rfl rfl rfl rfl rfl (g:=?_)|refine GoR.fieldV' rfl rfl rfl rfl rfl (g:=?_))|(refine GoR.kk 4 rfl ?_;first|refine GoR.eq rfl rfl rfl rfl rfl rfl ?_|refine GoR.ne rfl rfl rfl rfl rfl rfl ?_|refine GoR.lt rfl rfl rfl rfl rfl rfl ?_|refine GoR.le rfl rfl rfl rfl rfl rfl ?_|refine GoR.gt rfl rfl rfl rfl rfl rfl ?_|refine GoR.ge rfl rfl rfl rfl rfl rfl ?_|refine GoR.addN' rfl rfl rfl rfl rfl rfl (g:=?_)|refine GoR.subN' rfl rfl rfl rfl rfl rfl (g:=?_)|refine GoR.add' rfl rfl rfl rfl rfl rfl (g:=?_)|refine GoR.sub' rfl rfl rfl rfl rfl rfl (g:=?_)|refine GoR.addM' rfl rfl rfl rfl rfl rfl (g:=?_)|refine GoR.subM' rfl rfl rfl rfl rfl rfl (g:=?_)|refine GoR.mulM' rfl rfl rfl rfl rfl rfl (g:=?_)|refine GoR.shrN rfl rfl rfl rfl rfl rfl rfl ?_|refine GoR.structEq rfl rfl rfl rfl rfl rfl (by rfl) (by rfl) ?_|refine GoR.structNe rfl rfl rfl rfl rfl rfl (by rfl) (by rfl) ?_|refine GoR.strEq rfl rfl rfl rfl rfl rfl ?_|refine GoR.strNe rfl rfl rfl rfl rfl rfl ?_|refine GoR.remN' rfl rfl rfl rfl rfl rfl (g:=?_)|refine GoR.quoN' rfl rfl rfl rfl rfl rfl (g:=?_)|refine GoR.shlN' rfl rfl rfl rfl rfl rfl rfl (g:=?_)|refine GoR.orN' rfl rfl rfl rfl rfl rfl (g:=?_))|(refine GoR.kk 5 rfl ?_;first|refine GoR.len rfl rfl rfl rfl rfl ?_|refine GoR.lenStr rfl rfl rfl rfl rfl ?_|refine GoR.capB rfl rfl rfl rfl rfl ?_)|(refine GoR.kk 7 rfl ?_;first|refine GoR.pickE' rfl rfl rfl rfl rfl (hx:=rfl) (hy:=rfl) (g:=?_)|refine GoR.pickN' rfl rfl rfl rfl rfl (hx:=rfl) (hy:=rfl) (g:=?_)|refine GoR.pickB rfl rfl rfl rfl rfl rfl rfl ?_)|(refine GoR.kk 8 rfl ?_;first|refine GoR.boxA rfl rfl rfl rfl rfl ?_|refine GoR.boxS rfl rfl rfl rfl rfl rfl ?_|refine GoR.alloc rfl rfl rfl rfl ?_)|(refine GoR.kk 9 rfl ?_;first|refine GoR.strV' rfl rfl rfl rfl rfl (g:=?_)|refine GoR.conv_u8 rfl rfl rfl rfl rfl ?_|refine GoR.convW' rfl rfl rfl rfl rfl (g:=?_)|refine GoR.conv_u16 rfl rfl rfl rfl rfl ?_|refine GoR.conv_u32 rfl rfl rfl rfl rfl ?_)|(refine GoR.kk 10 rfl ?_;first|refine GoR.build' rfl rfl rfl rfl rfl rfl (g:=?_))|(refine GoR.kk 11 rfl ?_;first|refine GoR.extract rfl rfl rfl rfl rfl rfl ?_|refine GoR.not rfl rfl rfl rfl rfl ?_|refine GoR.nilCheck rfl rfl rfl rfl rfl ?_|refine GoR.nilCheckF rfl rfl rfl rfl rfl ?_|refine GoR.makeFunc rfl rfl rfl rfl rfl rfl ?_)|(refine Go.kk 0 rfl ?_;refine Go.seq ?_)|(refine Go.kk 1 rfl ?_;refine Go.region (by kernel_rfl) rfl ?_)|(refine Go.kk 2 rfl ?_;refine Go.drawnQ rfl (by kernel_rfl) rfl ?_)|(refine Go.kk 3 rfl ?_;first|refine Go.cond_t' rfl (g:=?_)|refine Go.cond_f' rfl (g:=?_))|(refine Go.kk 4 rfl ?_;refine Go.block ?_)|(refine Go.kk 5 rfl ?_;first|refine Go.skip ?_|refine Go.ret ?_|refine Go.exit ?_|refine Go.scope ?_)|refine Go.leave_normal ?_|refine Go.leave_same ?_|refine Go.leave_ret ?_|refine Go.ret_code ?_|refine Go.exit_code ?_|refine Go.leave_other rfl ?_|refine Go.sc_normal ?_|refine Go.sc_ret ?_|refine Go.sc_exit ?_|refine Go.exit_back ?_|refine Go.ret_back ?_))
  refine GoR.bin rfl rfl rfl rfl rfl rfl hs ?_
  (refine Go.run (g:=?_))
  (first|refine Go.finT (by first|exact .inr rfl|exact .inl rfl) rfl ?_|refine Go.fin1 (by first|exact .inr rfl|exact .inl rfl) rfl (hq:=?_))
  exact ⟨rfl, rfl⟩
structure GSt (h : AHeap) (sb r : Nat) (cum : Nat) (es : Array MapEntry) (ck : Nat) (ks : List Nat) (da : Option Addr) (dl dc : Nat) : Prop where
  sc : h.get sb = some (.cells [.int .u32 cum, .map (some r), .slice da dl dc] 104)
  mp : h.get r = some (.map es ck)
  ky : es.toList.map (fun e => (e.key, e.val)) = ks.map fun (k : Nat) => (Value.int .u32 (k : Int), Value.agg #[])
  bo : ∀ e ∈ es.toList, e.born < ck
  nd : (es.toList.map (·.born)).Nodup
  kb : ∀ k ∈ ks, k < 4294967296
  cb : cum < 4294967296
  dw : low h.n (.slice da dl dc) = true
def keyN (e : MapEntry) : Nat := match e.key with
  | .int _ n => n.toNat
  | _ => 0
theorem GSt.keys {h : AHeap} {sb r cum ck : Nat} {es : Array MapEntry} {ks : List Nat} {da : Option Addr} {dl dc : Nat} (g : GSt h sb r cum es ck ks da dl dc) : es.toList.map keyN = ks := by
  have h1 := congrArg (List.map fun x : Value × Value => match x.1 with | .int _ n => n.toNat | _ => 0) g.ky
  rw [List.map_map, List.map_map] at h1
  have e2 : ks.map ((fun x : Value × Value => match x.1 with | .int _ n => n.toNat | _ => 0) ∘ fun (k : Nat) => (Value.int .u32 (k : Int), Value.agg #[])) = ks := by
    rw [show ((fun x : Value × Value => match x.1 with | .int _ n => n.toNat | _ => 0) ∘ fun k : Nat => (Value.int .u32 (k : Int), Value.agg #[])) = id from funext fun k => rfl]
    simp
  rw [e2] at h1
  exact h1
theorem aEq_ptrNil {P : Program} {h : AHeap} {t e : TypeId} (hu : P.underlying t = some (.pointer e)) (a : Addr) : aEq P h t (.pointer (some a)) (.pointer none) = some (false, []) := by
  unfold aEq
  rw [hu]
theorem setU : Try.prog.underlying 77 = some (.pointer 104) := by kernel_rfl
end Go.Proofs.Ytccbmmnkiihkaaa
namespace Go.Proofs.Ytccbmmnkiihkaaa
open Go.Sort
set_option maxRecDepth 100000
attribute [local irreducible] Go GoR GoL
def bef32 (a b : Nat) : Bool := decide (0 < spanN a b) && decide (spanN a b < 2147483648)
set_option maxHeartbeats 8000000 in
theorem before_spec (a b : Nat) (ha : a < 4294967296) (hb : b < 4294967296) (h : AHeap) : CallS Try.prog [] 52 [.int .u32 a, .int .u32 b] h fun v h' => v = .bool (bef32 a b) ∧ h' = h := by
  have hs := sub32 a b ha hb
  have hl := span_lt a b
  unfold bef32
  generalize spanN a b = s at *
  (refine CallS.of2 Try.func52 rfl Try.ntmps52 Try.results52 rfl ?_)
  (iterate 8 (first|refine GoR.end ?_|(refine GoR.gd rfl ?_;first|refine GoR.wanted' rfl rfl rfl rfl (g:=?_)|refine GoR.unwanted' rfl rfl rfl rfl (hd:=rfl) (hN:=rfl) (g:=?_)|refine GoR.unwantedU rfl rfl rfl rfl rfl rfl ?_)|(refine GoR.kk 0 rfl ?_;first|refine GoR.move rfl rfl rfl rfl rfl ?_|refine GoR.assign rfl rfl rfl rfl rfl ?_)|(refine GoR.kk 1 rfl ?_;first|refine GoR.load' rfl rfl rfl rfl rfl (g:=?_)|refine GoR.loadA' rfl rfl rfl rfl rfl (hv:=rfl) (g:=?_)|refine GoR.loadV' rfl rfl rfl rfl rfl (g:=?_)|refine GoR.loadVN' rfl rfl rfl rfl rfl (g:=?_))|(refine GoR.kk 2 rfl ?_;first|refine GoR.store' rfl rfl rfl rfl rfl (hl:=rfl) (h1:=rfl) (h3:=rfl) (g:=?_))|(refine GoR.kk 3 rfl ?_;first|refine GoR.fieldAddr rfl rfl rfl rfl rfl ?_|refine GoR.indexN' rfl rfl rfl rfl rfl rfl (g:=?_)|refine GoR.indexNs' rfl rfl rfl rfl rfl rfl (g:=?_)|refine GoR.indexV' rfl rfl rfl rfl rfl rfl (g:=?_)|refine GoR.indexA' rfl rfl rfl rfl rfl rfl (g:=?_)|refine GoR.fieldV' rfl rfl rfl rfl rfl (g:=?_))|(refine GoR.kk 4 rfl ?_;first|refine GoR.eq rfl rfl rfl rfl rfl rfl ?_|refine GoR.ne rfl rfl rfl rfl rfl rfl ?_|refine GoR.lt rfl rfl rfl rfl rfl rfl ?_|refine GoR.le rfl rfl rfl rfl rfl rfl ?_|refine GoR.gt rfl rfl rfl rfl rfl rfl ?_|refine GoR.ge rfl rfl rfl rfl rfl rfl ?_|refine GoR.addN' rfl rfl rfl rfl rfl rfl (g:=?_)|refine GoR.subN' rfl rfl rfl rfl rfl rfl (g:=?_)|refine GoR.add' rfl rfl rfl rfl rfl rfl (g:=?_)|refine GoR.sub' rfl rfl rfl rfl rfl rfl (g:=?_)|refine GoR.addM' rfl rfl rfl rfl rfl rfl (g:=?_)|refine GoR.subM' rfl rfl rfl rfl rfl rfl (g:=?_)|refine GoR.mulM' rfl rfl rfl rfl rfl rfl (g:=?_)|refine GoR.shrN rfl rfl rfl rfl rfl rfl rfl ?_|refine GoR.structEq rfl rfl rfl rfl rfl rfl (by rfl) (by rfl) ?_|refine GoR.structNe rfl rfl rfl rfl rfl rfl (by rfl) (by rfl) ?_|refine GoR.strEq rfl rfl rfl rfl rfl rfl ?_|refine GoR.strNe rfl rfl rfl rfl rfl rfl ?_|refine GoR.remN' rfl rfl rfl rfl rfl rfl (g:=?_)|refine GoR.quoN' rfl rfl rfl rfl rfl rfl (g:=?_)|refine GoR.shlN' rfl rfl rfl rfl rfl rfl rfl (g:=?_)|refine GoR.orN' rfl rfl rfl rfl rfl rfl (g:=?_))|(refine GoR.kk 5 rfl ?_;first|refine GoR.len rfl rfl rfl rfl rfl ?_|refine GoR.lenStr rfl rfl rfl rfl rfl ?_|refine GoR.capB rfl rfl rfl rfl rfl ?_)|(refine GoR.kk 7 rfl ?_;first|refine GoR.pickE' rfl rfl rfl rfl rfl (hx:=rfl) (hy:=rfl) (g:=?_)|refine GoR.pickN' rfl rfl rfl rfl rfl (hx:=rfl) (hy:=rfl) (g:=?_)|refine GoR.pickB rfl rfl rfl rfl rfl rfl rfl ?_)|(refine GoR.kk 8 rfl ?_;first|refine GoR.boxA rfl rfl rfl rfl rfl ?_|refine GoR.boxS rfl rfl rfl rfl rfl rfl ?_|refine GoR.alloc rfl rfl rfl rfl ?_)|(refine GoR.kk 9 rfl ?_;first|refine GoR.strV' rfl rfl rfl rfl rfl (g:=?_)|refine GoR.conv_u8 rfl rfl rfl rfl rfl ?_|refine GoR.convW' rfl rfl rfl rfl rfl (g:=?_)|refine GoR.conv_u16 rfl rfl rfl rfl rfl ?_|refine GoR.conv_u32 rfl rfl rfl rfl rfl ?_)|(refine GoR.kk 10 rfl ?_;first|refine GoR.build' rfl rfl rfl rfl rfl rfl (g:=?_))|(refine GoR.kk 11 rfl ?_;first|refine GoR.extract rfl rfl rfl rfl rfl rfl ?_|refine GoR.not rfl rfl rfl rfl rfl ?_|refine GoR.nilCheck rfl rfl rfl rfl rfl ?_|refine GoR.nilCheckF rfl rfl rfl rfl rfl ?_|refine GoR.makeFunc rfl rfl rfl rfl rfl rfl ?_)|(refine Go.kk 0 rfl ?_;refine Go.seq ?_)|(refine Go.kk 1 rfl ?_;refine Go.region (by kernel_rfl) rfl ?_)|(refine Go.kk 2 rfl ?_;refine Go.drawnQ rfl (by kernel_rfl) rfl ?_)|(refine Go.kk 3 rfl ?_;first|refine Go.cond_t' rfl (g:=?_)|refine Go.cond_f' rfl (g:=?_))|(refine Go.kk 4 rfl ?_;refine Go.block ?_)|(refine Go.kk 5 rfl ?_;first|refine Go.skip ?_|refine Go.ret ?_|refine Go.exit ?_|refine Go.scope ?_)|refine Go.leave_normal ?_|refine Go.leave_same ?_|refine Go.leave_ret ?_|refine Go.ret_code ?_|refine Go.exit_code ?_|refine Go.leave_other rfl ?_|refine Go.sc_normal ?_|refine Go.sc_ret ?_|refine Go.sc_exit ?_|refine Go.exit_back ?_|refine Go.ret_back ?_))
  refine GoR.bin rfl rfl rfl rfl rfl rfl hs ?_
  rcases Nat.lt_or_ge 0 s with s0 | s0
  case inr =>
    obtain rfl : s = 0 := by omega
    (refine Go.run (g:=?_))
    (first|refine Go.finT (by first|exact .inr rfl|exact .inl rfl) rfl ?_|refine Go.fin1 (by first|exact .inr rfl|exact .inl rfl) rfl (hq:=?_))
    exact ⟨rfl, rfl⟩
  (refine Go.run (g:=?_))
  refine GoR.com (v := .int .u32 (4294967295 : Nat)) rfl rfl rfl rfl rfl (by kernel_rfl) ?_
  (refine Go.run (g:=?_))
  (first|refine Go.finT (by first|exact .inr rfl|exact .inl rfl) rfl ?_|refine Go.fin1 (by first|exact .inr rfl|exact .inl rfl) rfl (hq:=?_))
  refine ⟨?_, rfl⟩
  simp only [retV]
  rw [decide_eq_true s0, Bool.true_and]
  exact congrArg Value.bool (decide_eq_decide.2 (by omega))
instance miAhead : MI Try.prog 102 .u32 (.agg #[]) := ⟨23, 108, by kernel_rfl, by kernel_rfl, by kernel_rfl, rfl, fun em n => by kernel_rfl⟩
def dn32 (ks : List Nat) : List (Int × Value) := ks.map fun (k : Nat) => ((k : Int), Value.agg #[])
theorem al_dn32 (ks : List Nat) (n : Nat) : al (dn32 ks) n = if n ∈ ks then some (.agg #[]) else none := by
  induction ks with
  | nil => rfl
  | cons k ks ih =>
    show (if (k : Int) = n then some (Value.agg #[]) else al (dn32 ks) n) = _
    rw [ih]
    by_cases h : k = n
    · subst h; simp
    · rw [if_neg (by omega)]; simp [Ne.symm h]
theorem aset_dn32 (ks : List Nat) (n : Nat) (h : n ∉ ks) : aset (dn32 ks) n (.agg #[]) = dn32 (ks ++ [n]) := by
  induction ks with
  | nil => rfl
  | cons k ks ih =>
    simp only [List.mem_cons, not_or] at h
    show (if (k : Int) = n then _ else _) = _
    rw [if_neg (by omega)]
    show ((k : Int), Value.agg #[]) :: aset (dn32 ks) n (.agg #[]) = _
    rw [ih h.2]; rfl
theorem adel_dn32 (ks : List Nat) (n : Nat) : adel (dn32 ks) n = dn32 (ks.erase n) := by
  induction ks with
  | nil => rfl
  | cons k ks ih =>
    show (if (k : Int) = n then dn32 ks else ((k : Int), Value.agg #[]) :: adel (dn32 ks) n) = _
    by_cases h : k = n
    · subst h; simp
    · rw [if_neg (by omega), ih, List.erase_cons_tail (by simpa using h)]; rfl
abbrev u32s' (ds : List Nat) : List Value := ds.map fun (n : Nat) => Value.int .u32 (n : Int)
structure GSet (h : AHeap) (sb r cum : Nat) (ks : List Nat) (da : Option Addr) (dc : Nat) (ds : List Nat) (n0 : Nat) : Prop where
  sc : h.get sb = some (.cells [.int .u32 cum, .map (some r), .slice da ds.length dc] 104)
  mp : SMap h r .u32 (dn32 ks)
  dv : Sv h 23 1 da ds.length dc (u32s' ds)
  kb : ∀ k ∈ ks, k < 4294967296
  db : ∀ k ∈ ds, k < 4294967296
  cb : cum < 4294967296
  ap : sb ≠ r ∧ sb ∉ blk da ∧ r ∉ blk da
  ow : n0 ≤ sb ∧ n0 ≤ r ∧ Own n0 da
theorem GSet.same {h h' : AHeap} {sb r cum : Nat} {ks : List Nat} {da : Option Addr} {dc : Nat} {ds : List Nat} {n0 : Nat} (g : GSet h sb r cum ks da dc ds n0) (s : Same h h') : GSet h' sb r cum ks da dc ds n0 := { g with sc := s.get g.sc, mp := g.mp.same s, dv := g.dv.same s }
def hasN (cum : Nat) (ks : List Nat) (t : Nat) : Bool := decide (t ∈ ks) || (decide (t = cum) || bef32 t cum)
set_option maxHeartbeats 8000000 in
theorem has_spec (sb r cum : Nat) (ks : List Nat) (da : Option Addr) (dc : Nat) (ds : List Nat) (n0 t : Nat) (ht : t < 4294967296) (h : AHeap) (G : GSet h sb r cum ks da dc ds n0) : CallS Try.prog [] 34 [.pointer (some ⟨sb, 0, none⟩), .int .u32 t] h fun v h' => v = .bool (hasN cum ks t) := by
  have gs := G.sc
  have gm := G.mp.imap
  have hlt := AHeap.lt gs
  unfold hasN
  (refine CallS.of2 Try.func34 rfl Try.ntmps34 Try.results34 rfl ?_)
  (refine Go.run (g:=?_))
  refine GoR.eqRef rfl rfl rfl rfl (.inl rfl) rfl rfl (aEq_ptrNil setU _) ?_
  (refine Go.run (g:=?_))
  refine GoR.lookup2 rfl rfl rfl rfl rfl rfl gm ?_
  rw [al_dn32]
  have hbs := before_spec t cum ht G.cb
  by_cases hk : t ∈ ks
  · rw [if_pos hk, decide_eq_true hk, Bool.true_or]
    simp only [Option.getD_some, Option.isSome_some]
    (refine Go.run (g:=?_))
    (first|refine Go.finT (by first|exact .inr rfl|exact .inl rfl) rfl ?_|refine Go.fin1 (by first|exact .inr rfl|exact .inl rfl) rfl (hq:=?_))
    rfl
  · rw [if_neg hk, decide_eq_false hk, Bool.false_or]
    simp only [Option.getD_none, Option.isSome_none]
    by_cases hc : t = cum
    · rw [decide_eq_true hc, Bool.true_or]
      (refine Go.run (g:=?_))
      (first|refine Go.finT (by first|exact .inr rfl|exact .inl rfl) rfl ?_|refine Go.fin1 (by first|exact .inr rfl|exact .inl rfl) rfl (hq:=?_))
      rfl
    · rw [decide_eq_false hc, Bool.false_or]
      (refine Go.run (g:=?_))
      refine GoR.call rfl rfl rfl rfl rfl rfl rfl (((hbs _).argA).mono ?_)
      rintro _ H2 ⟨rfl, rfl⟩ -
      (refine Go.run (g:=?_))
      (first|refine Go.finT (by first|exact .inr rfl|exact .inl rfl) rfl ?_|refine Go.fin1 (by first|exact .inr rfl|exact .inl rfl) rfl (hq:=?_))
      simp [retV]
set_option maxHeartbeats 4000000 in
theorem cum_spec (sb r cum : Nat) (ks : List Nat) (da : Option Addr) (dc : Nat) (ds : List Nat) (n0 : Nat) (h : AHeap) (G : GSet h sb r cum ks da dc ds n0) : CallS Try.prog [] 36 [.pointer (some ⟨sb, 0, none⟩)] h fun v h' => v = .int .u32 (cum : Nat) ∧ h' = h := by
  have gs := G.sc
  (refine CallS.of1 Try.func36 rfl Try.ntmps36 Try.results36 rfl ?_)
  (refine Go.run (g:=?_))
  refine GoR.eqRef rfl rfl rfl rfl (.inl rfl) rfl rfl (aEq_ptrNil setU _) ?_
  (refine Go.run (g:=?_))
  (first|refine Go.finT (by first|exact .inr rfl|exact .inl rfl) rfl ?_|refine Go.fin1 (by first|exact .inr rfl|exact .inl rfl) rfl (hq:=?_))
  exact ⟨rfl, rfl⟩
end Go.Proofs.Ytccbmmnkiihkaaa
namespace Go.Proofs.Ytccbmmnkiihkaaa
open Go.Sort
set_option maxRecDepth 100000
attribute [local irreducible] Go GoR GoL
def next32 (c : Nat) : Nat := (c + 1) % 4294967296
def settleN : Nat → Nat → List Nat → Nat × List Nat
  | 0, c, ks => (c, ks)
  | n + 1, c, ks => if next32 c ∈ ks then settleN n (next32 c) (ks.erase (next32 c)) else (c, ks)
def addN (cum : Nat) (ks ds : List Nat) (t : Nat) : Nat × Nat × List Nat × List Nat :=
  if hasN cum ks t = true then (1, cum, ks, if ds.length < 16 then ds ++ [t] else ds)
  else if 65535 < spanN cum t then (2, cum, ks, ds)
  else (0, (settleN (ks.length + 1) cum (ks ++ [t])).1, (settleN (ks.length + 1) cum (ks ++ [t])).2, ds)
theorem add32 (c : Nat) : iBin .add .u32 (c : Int) ((1 : Nat) : Int) = some (.int .u32 ((next32 c : Nat) : Int)) := by
  have q : ((next32 c : Nat) : Int) = ((c : Int) + 1) % 4294967296 := by unfold next32; omega
  simp [iBin, IntKind.wrap, IntKind.bits, IntKind.signed, q]
theorem next32_lt (c : Nat) : next32 c < 4294967296 := Nat.mod_lt _ (by decide)
set_option maxHeartbeats 32000000 in
theorem add_spec (sb r cum : Nat) (ks : List Nat) (da : Option Addr) (dc : Nat) (ds : List Nat) (n0 t : Nat) (ht : t < 4294967296) (hds : ds.length ≤ 16) (h : AHeap) (hn0 : n0 ≤ h.n) (G : GSet h sb r cum ks da dc ds n0) : CallS Try.prog ([sb, r] ++ blk da) 37 [.pointer (some ⟨sb, 0, none⟩), .int .u32 t] h fun v h' => v = .int .u8 ((addN cum ks ds t).1 : Nat) ∧ ∃ da' dc', GSet h' sb r (addN cum ks ds t).2.1 (addN cum ks ds t).2.2.1 da' dc' (addN cum ks ds t).2.2.2 n0 ∧ ∀ i ∈ blk da', i ∈ blk da ∨ h.n ≤ i := by
  have gs := G.sc
  have hlt := AHeap.lt gs
  have hsp := span_spec cum t G.cb ht
  have hhs := has_spec sb r cum ks da dc ds n0 t ht h G
  (refine CallS.of2 Try.func37 rfl Try.ntmps37 Try.results37 rfl ?_)
  (refine Go.run (g:=?_))
  refine GoR.eqRef rfl rfl rfl rfl (.inl rfl) rfl rfl (aEq_ptrNil setU _) ?_
  (refine Go.run (g:=?_))
  refine GoR.call rfl rfl rfl rfl rfl rfl rfl (((hhs).argA).mono ?_)
  rintro _ h2 rfl s2
  have G2 := G.same s2
  have gs2 := G2.sc
  have m2 := s2.1
  cases hH : hasN cum ks t with
  | true =>
    rcases Nat.lt_or_ge ds.length 16 with l0 | l0
    · have hA : addN cum ks ds t = (1, cum, ks, ds ++ [t]) := by unfold addN; rw [if_pos hH, if_pos l0]
      rw [hA]
      (refine Go.run (g:=?_))
      refine GoR.buildRo (c := [.int .u32 (t : Nat)]) rfl rfl rfl rfl rfl (by decide) (by rfl) (by rfl) ?_
      intro b8 h8 hb8 rb8 ob8 s8 n8
      have m8 := s8.1
      refine GoR.appendV rfl rfl rfl rfl rfl rfl (G2.dv.same s8) hb8 (fun j hj => .inl (by simp [hj])) (by omega) (by omega) (by rfl) ?_
      intro b9 c9 h9 hs9 k9 o9
      have m9 := k9.1
      have gs9 := k9.get (s8.get gs2) G.ap.2.1
      have gm9 := (G2.mp.same s8).keeps k9 G.ap.2.2
      have n9 : ∀ j, j < h.n → j ∉ blk da → j ∉ blk b9 := fun j hj hn hm => by rcases o9 j hm with q | q; exact hn q; omega
      have sr := G.mp.lt
      (refine Go.run (g:=?_))
      refine Go.name ?_
      intro h10 e10
      have k10 : Keeps [sb] h9 h10 := by subst e10; exact (Keeps.rf _ _).pt (.inl (by simp)) _
      have gs10 : h10.get sb = some (.cells [.int .u32 cum, .map (some r), .slice b9 (ds.length + 1) c9] 104) := by subst e10; exact get_put_self gs9
      clear e10
      (first|refine Go.finT (by first|exact .inr rfl|exact .inl rfl) rfl ?_|refine Go.fin1 (by first|exact .inr rfl|exact .inl rfl) rfl (hq:=?_))
      refine ⟨rfl, b9, c9, ⟨?_, gm9.keeps k10 (by simp; exact Ne.symm G.ap.1), ?_, G.kb, fun k hk => ?_, G.cb, ⟨G.ap.1, n9 _ hlt G.ap.2.1, n9 _ sr G.ap.2.2⟩, ⟨G.ow.1, G.ow.2.1, fun j hj => ?_⟩⟩, fun i hi => ?_⟩
      · rw [List.length_append]; exact gs10
      · have := hs9.keeps k10 (fun j hj hm => by simp only [List.mem_singleton] at hm; subst hm; exact n9 _ hlt G.ap.2.1 hj)
        rw [List.length_append]
        simpa [u32s'] using this
      · rcases List.mem_append.1 hk with q | q
        · exact G.db k q
        · simp only [List.mem_singleton] at q; omega
      · rcases o9 j hj with q | q
        · exact G.ow.2.2 j q
        · omega
      · rcases o9 i hi with q | q
        · exact .inl q
        · exact .inr (by omega)
    · have hA : addN cum ks ds t = (1, cum, ks, ds) := by unfold addN; rw [if_pos hH, if_neg (by omega)]
      rw [hA]
      (refine Go.run (g:=?_))
      (first|refine Go.finT (by first|exact .inr rfl|exact .inl rfl) rfl ?_|refine Go.fin1 (by first|exact .inr rfl|exact .inl rfl) rfl (hq:=?_))
      exact ⟨rfl, da, dc, G2, fun i hi => .inl hi⟩
  | false =>
    have hH' : ¬ hasN cum ks t = true := by rw [hH]; decide
    (refine Go.run (g:=?_))
    refine GoR.call rfl rfl rfl rfl rfl rfl rfl (((hsp _).argA).mono ?_)
    rintro _ h3 ⟨rfl, rfl⟩ -
    rcases Nat.lt_or_ge 65535 (spanN cum t) with w0 | w0
    · have hA : addN cum ks ds t = (2, cum, ks, ds) := by unfold addN; rw [if_neg hH', if_pos w0]
      rw [hA]
      (refine Go.run (g:=?_))
      (first|refine Go.finT (by first|exact .inr rfl|exact .inl rfl) rfl ?_|refine Go.fin1 (by first|exact .inr rfl|exact .inl rfl) rfl (hq:=?_))
      exact ⟨rfl, da, dc, G2, fun i hi => .inl hi⟩
    · have hA : addN cum ks ds t = (0, (settleN (ks.length + 1) cum (ks ++ [t])).1, (settleN (ks.length + 1) cum (ks ++ [t])).2, ds) := by unfold addN; rw [if_neg hH', if_neg (by omega)]
      rw [hA]
      have hni : t ∉ ks := fun q => by unfold hasN at hH; rw [decide_eq_true q, Bool.true_or] at hH; cases hH
      (refine Go.run (g:=?_))
      refine GoR.mapUpdateS (.inl rfl) rfl rfl rfl rfl rfl G2.mp (.inl (by simp)) ?_
      intro h4 M4 k4 n4
      rw [aset_dn32 ks t hni] at M4
      have gs4 := k4.get gs2 (by simp; exact G.ap.1)
      have G4 : GSet h4 sb r cum (ks ++ [t]) da dc ds n0 := ⟨gs4, M4, G2.dv.keeps k4 (fun j hj hm => by simp only [List.mem_singleton] at hm; subst hm; exact G.ap.2.2 hj), fun k hk => by
        rcases List.mem_append.1 hk with q | q
        · exact G.kb k q
        · simp only [List.mem_singleton] at q; omega, G.db, G.cb, G.ap, G.ow⟩
      have n4' : h.n ≤ h4.n := by omega
      clear G2 gs2 M4 gs4 k4 n4 hhs hsp
      (refine Go.run (g:=?_))
      obtain ⟨T, hT⟩ : ∃ T, T = settleN (ks.length + 1) cum (ks ++ [t]) := ⟨_, rfl⟩
      rw [← hT]
      refine Go.loop (α := Nat × Nat × List Nat × AHeap) (fun _ => [(0, .pointer (some ⟨sb, 0, none⟩))]) (fun _ => []) (fun x => x.2.2.2) (fun x => x.2.2.1.length ≤ x.1 ∧ settleN x.1 x.2.1 x.2.2.1 = T ∧ h.n ≤ x.2.2.2.n ∧ GSet x.2.2.2 sb r x.2.1 x.2.2.1 da dc ds n0) (fun x => x.2.2.1.length) (ks.length + 1, cum, ks ++ [t], h4) ?_ ?_ rfl rfl ?_
      · exact ⟨by simp, hT.symm, n4', G4⟩
      · exact ⟨rfl, trivial⟩
      clear G4 hT n4'
      rintro ⟨f, c, ks', H⟩ ⟨hf, hset, hHn, G5⟩
      simp only at hf hset hHn G5 ⊢
      have gs5 := G5.sc
      have hnb := next32_lt c
      have ha := add32 c
      generalize hnc : next32 c = nc at *
      (repeat (first|refine GoR.end ?_|(refine GoR.gd rfl ?_;first|refine GoR.wanted' rfl rfl rfl rfl (g:=?_)|refine GoR.unwanted' rfl rfl rfl rfl (hd:=rfl) (hN:=rfl) (g:=?_)|refine GoR.unwantedU rfl rfl rfl rfl rfl rfl ?_)|(refine GoR.kk 0 rfl ?_;first|refine GoR.move rfl rfl rfl rfl rfl ?_|refine GoR.assign rfl rfl rfl rfl rfl ?_)|(refine GoR.kk 1 rfl ?_;first|refine GoR.load' rfl rfl rfl rfl rfl (g:=?_)|refine GoR.loadA' rfl rfl rfl rfl rfl (hv:=rfl) (g:=?_)|refine GoR.loadV' rfl rfl rfl rfl rfl (g:=?_)|refine GoR.loadVN' rfl rfl rfl rfl rfl (g:=?_))|(refine GoR.kk 2 rfl ?_;first|refine GoR.store' rfl rfl rfl rfl rfl (hl:=rfl) (h1:=rfl) (h3:=rfl) (g:=?_))|(refine GoR.kk 3 rfl ?_;first|refine GoR.fieldAddr rfl rfl rfl rfl rfl ?_|refine GoR.indexN' rfl rfl rfl rfl rfl rfl (g:=?_)|refine GoR.indexNs' rfl rfl rfl rfl rfl rfl (g:=?_)|refine GoR.indexV' rfl rfl rfl rfl rfl rfl (g:=?_)|refine GoR.indexA' rfl rfl rfl rfl rfl rfl (g:=?_)|refine GoR.fieldV' rfl rfl rfl rfl rfl (g:=?_))|(refine GoR.kk 4 rfl ?_;first|refine GoR.eq rfl rfl rfl rfl rfl rfl ?_|refine GoR.ne rfl rfl rfl rfl rfl rfl ?_|refine GoR.lt rfl rfl rfl rfl rfl rfl ?_|refine GoR.le rfl rfl rfl rfl rfl rfl ?_|refine GoR.gt rfl rfl rfl rfl rfl rfl ?_|refine GoR.ge rfl rfl rfl rfl rfl rfl ?_|refine GoR.addN' rfl rfl rfl rfl rfl rfl (g:=?_)|refine GoR.subN' rfl rfl rfl rfl rfl rfl (g:=?_)|refine GoR.add' rfl rfl rfl rfl rfl rfl (g:=?_)|refine GoR.sub' rfl rfl rfl rfl rfl rfl (g:=?_)|refine GoR.addM' rfl rfl rfl rfl rfl rfl (g:=?_)|refine GoR.subM' rfl rfl rfl rfl rfl rfl (g:=?_)|refine GoR.mulM' rfl rfl rfl rfl rfl rfl (g:=?_)|refine GoR.shrN rfl rfl rfl rfl rfl rfl rfl ?_|refine GoR.structEq rfl rfl rfl rfl rfl rfl (by rfl) (by rfl) ?_|refine GoR.structNe rfl rfl rfl rfl rfl rfl (by rfl) (by rfl) ?_|refine GoR.strEq rfl rfl rfl rfl rfl rfl ?_|refine GoR.strNe rfl rfl rfl rfl rfl rfl ?_|refine GoR.remN' rfl rfl rfl rfl rfl rfl (g:=?_)|refine GoR.quoN' rfl rfl rfl rfl rfl rfl (g:=?_)|refine GoR.shlN' rfl rfl rfl rfl rfl rfl rfl (g:=?_)|refine GoR.orN' rfl rfl rfl rfl rfl rfl (g:=?_))|(refine GoR.kk 5 rfl ?_;first|refine GoR.len rfl rfl rfl rfl rfl ?_|refine GoR.lenStr rfl rfl rfl rfl rfl ?_|refine GoR.capB rfl rfl rfl rfl rfl ?_)|(refine GoR.kk 7 rfl ?_;first|refine GoR.pickE' rfl rfl rfl rfl rfl (hx:=rfl) (hy:=rfl) (g:=?_)|refine GoR.pickN' rfl rfl rfl rfl rfl (hx:=rfl) (hy:=rfl) (g:=?_)|refine GoR.pickB rfl rfl rfl rfl rfl rfl rfl ?_)|(refine GoR.kk 8 rfl ?_;first|refine GoR.boxA rfl rfl rfl rfl rfl ?_|refine GoR.boxS rfl rfl rfl rfl rfl rfl ?_|refine GoR.alloc rfl rfl rfl rfl ?_)|(refine GoR.kk 9 rfl ?_;first|refine GoR.strV' rfl rfl rfl rfl rfl (g:=?_)|refine GoR.conv_u8 rfl rfl rfl rfl rfl ?_|refine GoR.convW' rfl rfl rfl rfl rfl (g:=?_)|refine GoR.conv_u16 rfl rfl rfl rfl rfl ?_|refine GoR.conv_u32 rfl rfl rfl rfl rfl ?_)|(refine GoR.kk 10 rfl ?_;first|refine GoR.build' rfl rfl rfl rfl rfl rfl (g:=?_))|(refine GoR.kk 11 rfl ?_;first|refine GoR.extract rfl rfl rfl rfl rfl rfl ?_|refine GoR.not rfl rfl rfl rfl rfl ?_|refine GoR.nilCheck rfl rfl rfl rfl rfl ?_|refine GoR.nilCheckF rfl rfl rfl rfl rfl ?_|refine GoR.makeFunc rfl rfl rfl rfl rfl rfl ?_)|(refine Go.kk 0 rfl ?_;refine Go.seq ?_)|(refine Go.kk 1 rfl ?_;refine Go.region (by kernel_rfl) rfl ?_)|(refine Go.kk 3 rfl ?_;first|refine Go.cond_t' rfl (g:=?_)|refine Go.cond_f' rfl (g:=?_))|(refine Go.kk 4 rfl ?_;refine Go.block ?_)|(refine Go.kk 5 rfl ?_;first|refine Go.skip ?_|refine Go.ret ?_|refine Go.exit ?_|refine Go.scope ?_)|refine Go.leave_normal ?_|refine Go.leave_same ?_|refine Go.leave_ret ?_|refine Go.ret_code ?_|refine Go.exit_code ?_|refine Go.leave_other rfl ?_|refine Go.sc_normal ?_|refine Go.sc_ret ?_|refine Go.sc_exit ?_|refine Go.exit_back ?_|refine Go.ret_back ?_))
      refine Go.loud (by kernel_rfl) rfl ?_
      (refine Go.runL (g:=?_))
      refine GoL.bin rfl rfl rfl rfl rfl rfl ha ?_
      (refine Go.runL (g:=?_))
      refine GoL.lookup2 rfl rfl rfl rfl rfl rfl G5.mp.imap ?_
      rw [al_dn32]
      have sr5 := G5.mp.lt
      have sl5 := AHeap.lt gs5
      have stop : nc ∉ ks' → T = (c, ks') := fun hk => by
        rw [← hset]
        cases f with
        | zero => rfl
        | succ f => unfold settleN; rw [hnc, if_neg hk]
      by_cases hk : nc ∈ ks'
      · rw [if_pos hk]
        simp only [Option.getD_some, Option.isSome_some]
        (refine Go.runL (g:=?_))
        refine GoL.store' rfl rfl rfl rfl rfl (hl:=rfl) (h1:=rfl) (h3:=rfl) (g:=?_)
        (refine Go.runL (g:=?_))
        (refine GoL.end_ (hl := by (simp only [List.nil_append, List.cons_append, AHeap.n_push, AHeap.n_put]); repeat (first | exact loudP.nil | refine loudP.none ?_ | refine loudP.new (fun _ hb => absurd hb List.not_mem_nil) ?_ | refine loudP.row (by repeat (first | exact loudRowP.nil | refine loudRowP.none ?_ | refine loudRowP.bef (by decide +kernel) ?_ | refine loudRowP.apart (by first | exact .inl rfl | exact .inr (by simp)) rfl (fun i hi => by simp only [List.mem_cons, List.not_mem_nil, or_false] at hi; subst hi; first | (simp; fail_if_success focus skip) | (simp; omega)) ?_)) ?_)) ?_)
        refine Go.name ?_
        intro H2 e2
        have s2' : Same H H2 := by subst e2; exact ((Same.refl H).push _).put (Nat.le_refl _) _
        clear e2
        have G6 := G5.same s2'
        have gs6 := G6.sc
        have m6 := s2'.1
        (refine Go.run (g:=?_))
        refine GoR.bin rfl rfl rfl rfl rfl rfl ha ?_
        (refine Go.run (g:=?_))
        have gm6 := G6.mp
        refine Go.name ?_
        intro h7 e7
        have k7 : Keeps [sb] H2 h7 := by subst e7; exact (Keeps.rf _ _).pt (.inl (by simp)) _
        have gs7 : h7.get sb = some (.cells [.int .u32 nc, .map (some r), .slice da ds.length dc] 104) := by subst e7; exact get_put_self gs6
        have n7 : h7.n = H2.n := by subst e7; rfl
        have M7 := gm6.keeps k7 (by simp; exact Ne.symm G6.ap.1)
        clear e7
        have V7 := G6.dv.keeps k7 (fun j hj hm => by simp only [List.mem_singleton] at hm; subst hm; exact G6.ap.2.1 hj)
        refine Go.loud (by kernel_rfl) rfl ?_
        (refine Go.runL (g:=?_))
        refine GoL.deleteS rfl rfl rfl rfl rfl M7 (.inl (by simp)) ?_
        intro h8 M8 k8 n8
        (refine Go.runL (g:=?_))
        (refine GoL.end_ (hl := by (simp only [List.nil_append, List.cons_append, AHeap.n_push, AHeap.n_put]); repeat (first | exact loudP.nil | refine loudP.none ?_ | refine loudP.new (fun _ hb => absurd hb List.not_mem_nil) ?_ | refine loudP.row (by repeat (first | exact loudRowP.nil | refine loudRowP.none ?_ | refine loudRowP.bef (by decide +kernel) ?_ | refine loudRowP.apart (by first | exact .inl rfl | exact .inr (by simp)) rfl (fun i hi => by simp only [List.mem_cons, List.not_mem_nil, or_false] at hi; subst hi; first | (simp; fail_if_success focus skip) | (simp; omega)) ?_)) ?_)) ?_)
        rw [adel_dn32] at M8
        have gs8 := k8.get gs7 (by simp; exact G6.ap.1)
        have V8 := V7.keeps k8 (fun j hj hm => by simp only [List.mem_singleton] at hm; subst hm; exact G6.ap.2.2 hj)
        have le : (ks'.erase nc).length + 1 = ks'.length := by
          have := List.length_erase_of_mem hk
          have := List.length_pos_of_mem hk
          omega
        (refine Go.run (g:=?_))
        obtain ⟨f', rfl⟩ : ∃ f', f = f' + 1 := ⟨f - 1, by omega⟩
        have hset' : settleN f' nc (ks'.erase nc) = T := by
          rw [← hset]
          conv => rhs; unfold settleN
          rw [hnc, if_pos hk]
        refine Go.again (f', nc, ks'.erase nc, h8) ⟨by simp only; omega, hset', by simp only; omega, gs8, M8, V8, fun k hk => G6.kb k (List.mem_of_mem_erase hk), G6.db, hnb, G6.ap, G6.ow⟩ (by simp only; omega) ⟨rfl, trivial⟩ rfl rfl
      · rw [if_neg hk]
        simp only [Option.getD_none, Option.isSome_none]
        (refine Go.runL (g:=?_))
        refine GoL.store' rfl rfl rfl rfl rfl (hl:=rfl) (h1:=rfl) (h3:=rfl) (g:=?_)
        (refine Go.runL (g:=?_))
        (refine GoL.end_ (hl := by (simp only [List.nil_append, List.cons_append, AHeap.n_push, AHeap.n_put]); repeat (first | exact loudP.nil | refine loudP.none ?_ | refine loudP.new (fun _ hb => absurd hb List.not_mem_nil) ?_ | refine loudP.row (by repeat (first | exact loudRowP.nil | refine loudRowP.none ?_ | refine loudRowP.bef (by decide +kernel) ?_ | refine loudRowP.apart (by first | exact .inl rfl | exact .inr (by simp)) rfl (fun i hi => by simp only [List.mem_cons, List.not_mem_nil, or_false] at hi; subst hi; first | (simp; fail_if_success focus skip) | (simp; omega)) ?_)) ?_)) ?_)
        refine Go.name ?_
        intro H2 e2
        have s2' : Same H H2 := by subst e2; exact ((Same.refl H).push _).put (Nat.le_refl _) _
        clear e2
        have G6 := G5.same s2'
        (refine Go.run (g:=?_))
        (first|refine Go.finT (by first|exact .inr rfl|exact .inl rfl) rfl ?_|refine Go.fin1 (by first|exact .inr rfl|exact .inl rfl) rfl (hq:=?_))
        rw [stop hk]
        exact ⟨rfl, da, dc, G6, fun i hi => .inl hi⟩
end Go.Proofs.Ytccbmmnkiihkaaa
namespace Go.Proofs.Ytccbmmnkiihkaaa
open Go.Sort
set_option maxRecDepth 100000
attribute [local irreducible] Go GoR GoL
section
variable {P : Program} {h : AHeap} {o : Oper} {ov : Ov} {W : Nat → Prop} {q : Bool} {N : Nat} {ops : Array Oper} {os : List Oper} {k : List It} {df : List Nat} {Q : PQ} {d : Nat} {b₀ : Bool}
theorem GoR.makeMapS {t : TypeId} (ho : o.op = .makeMap t none) (hd : o.dst = some d) (hN : dOk d N = true) (hgd : o.guard = none) (g : ∀ h', (∀ K, SMap h' h.n K []) → Same h h' → h'.n = h.n + 1 → GoR P W q N ops b₀ os k ((d, .map (some h.n)) :: ov) df h' Q) : GoR P W q N ops b₀ (o :: os) k ov df h Q := GoR.step (r := ⟨.map (some h.n), h.push (.map #[] 0), [], [], false, false⟩) hgd hd hN (S.makeMap ho) (.inr rfl) (fun i hi => by cases hi) (g _ (fun K => ⟨_, _, AHeap.get_push_same _ _, rfl, by simp [stampsOk]⟩) ((Same.refl h).push _) rfl)
end
set_option maxHeartbeats 4000000 in
theorem gnew_spec (cum : Nat) (hc : cum < 4294967296) (h : AHeap) : CallS Try.prog [] 30 [.int .u32 cum] h fun v h' => ∃ sb r, v = .pointer (some ⟨sb, 0, none⟩) ∧ GSet h' sb r cum [] none 0 [] h.n := by
  (refine CallS.of1 Try.func30 rfl Try.ntmps30 Try.results30 rfl ?_)
  (refine Go.run (g:=?_))
  refine GoR.makeMapS rfl rfl rfl rfl ?_
  intro h1 M1 s1 n1
  (refine Go.run (g:=?_))
  refine Go.name ?_
  intro h2 e2
  have s2 : Same h1 h2 := by subst e2; exact (Same.refl h1).push _
  have g2 : h2.get h1.n = some (.cells [.int .u32 cum, .map (some h.n), .slice none 0 0] 104) := by subst e2; exact AHeap.get_push_same _ _
  clear e2
  (first|refine Go.finT (by first|exact .inr rfl|exact .inl rfl) rfl ?_|refine Go.fin1 (by first|exact .inr rfl|exact .inl rfl) rfl (hq:=?_))
  have m1 := s1.1
  refine ⟨_, _, rfl, g2, (M1 _).same s2, ?_, ?_, ?_, hc, ⟨by omega, ?_, ?_⟩, ⟨by omega, Nat.le_refl _, ?_⟩⟩
  · exact Sv.nil
  · intro k hk; cases hk
  · intro k hk; cases hk
  · simp [blk]
  · simp [blk]
  · intro j hj; simp [blk] at hj
set_option maxHeartbeats 4000000 in
theorem gnext_spec (sb r cum : Nat) (ks : List Nat) (da : Option Addr) (dc : Nat) (ds : List Nat) (n0 t : Nat) (ht : t < 4294967296) (h : AHeap) (G : GSet h sb r cum ks da dc ds n0) : CallS Try.prog [] 33 [.pointer (some ⟨sb, 0, none⟩), .int .u32 t] h fun v h' => v = .bool (decide (t = next32 cum)) ∧ h' = h := by
  have gs := G.sc
  have ha := add32 cum
  generalize next32 cum = nc at *
  (refine CallS.of2 Try.func33 rfl Try.ntmps33 Try.results33 rfl ?_)
  (refine Go.run (g:=?_))
  refine GoR.eqRef rfl rfl rfl rfl (.inr rfl) rfl rfl (aEq_ptrNil setU _) ?_
  (refine Go.run (g:=?_))
  refine GoR.bin rfl rfl rfl rfl rfl rfl ha ?_
  (refine Go.run (g:=?_))
  (first|refine Go.finT (by first|exact .inr rfl|exact .inl rfl) rfl ?_|refine Go.fin1 (by first|exact .inr rfl|exact .inl rfl) rfl (hq:=?_))
  refine ⟨?_, rfl⟩
  simp only [retV]
  exact congrArg Value.bool (decide_eq_decide.2 (by omega))
end Go.Proofs.Ytccbmmnkiihkaaa
namespace Go.Proofs.Ytccbmmnkiihkaaa
open Go.Sort
set_option maxRecDepth 100000
attribute [local irreducible] Go GoR GoL
end Go.Proofs.Ytccbmmnkiihkaaa
namespace Go.Proofs.Ytccbmmnkiihkaaa
open Go.Sort
set_option maxRecDepth 100000
attribute [local irreducible] Go GoR GoL
abbrev i64s (ws : List Nat) : List Value := ws.map fun (n : Nat) => Value.int .i64 (n : Int)
structure RSet (h : AHeap) (rb cum : Nat) (wa : Option Addr) (wc : Nat) (ws : List Nat) (da : Option Addr) (dc : Nat) (ds : List Nat) (n0 : Nat) : Prop where
  sc : h.get rb = some (.cells [.int .u32 cum, .slice wa ws.length wc, .slice da ds.length dc] 54)
  wv : Sv h 2 1 wa ws.length wc (i64s ws)
  dv : Sv h 23 1 da ds.length dc (u32s' ds)
  wb : ∀ w ∈ ws, w < 65536
  db : ∀ k ∈ ds, k < 4294967296
  cb : cum < 4294967296
  ap : rb ∉ blk wa ∧ rb ∉ blk da ∧ ∀ j ∈ blk wa, j ∉ blk da
  ow : n0 ≤ rb ∧ Own n0 wa ∧ Own n0 da
theorem RSet.same {h h' : AHeap} {rb cum : Nat} {wa da : Option Addr} {wc dc : Nat} {ws ds : List Nat} {n0 : Nat} (g : RSet h rb cum wa wc ws da dc ds n0) (s : Same h h') : RSet h' rb cum wa wc ws da dc ds n0 := { g with sc := s.get g.sc, wv := g.wv.same s, dv := g.dv.same s }
end Go.Proofs.Ytccbmmnkiihkaaa
namespace Go.Proofs.Ytccbmmnkiihkaaa
open Go.Sort
set_option maxRecDepth 100000
attribute [local irreducible] Go GoR GoL
end Go.Proofs.Ytccbmmnkiihkaaa
namespace Go.Proofs.Ytccbmmnkiihkaaa
open Go.Sort
set_option maxRecDepth 100000
attribute [local irreducible] Go GoR GoL
def hasW (cum : Nat) (ws : List Nat) (t : Nat) : Bool := decide (spanN cum t ∈ ws) || (decide (spanN cum t = 0) || bef32 t cum)
end Go.Proofs.Ytccbmmnkiihkaaa
namespace Go.Proofs.Ytccbmmnkiihkaaa
open Go.Sort
set_option maxRecDepth 100000
attribute [local irreducible] Go GoR GoL
end Go.Proofs.Ytccbmmnkiihkaaa
namespace Go.Proofs.Ytccbmmnkiihkaaa
open Go.Sort
set_option maxRecDepth 100000
attribute [local irreducible] Go GoR GoL
end Go.Proofs.Ytccbmmnkiihkaaa
namespace Go.Proofs.Ytccbmmnkiihkaaa
open Go.Sort
set_option maxRecDepth 100000
attribute [local irreducible] Go GoR GoL
def atW (w : Nat) : List Nat → Nat
  | [] => 0
  | x :: l => if x < w then atW w l + 1 else 0
def insW (ws : List Nat) (w : Nat) : List Nat := ws.take (atW w ws) ++ w :: ws.drop (atW w ws)
def settleW : Nat → Nat → List Nat → Nat × List Nat
  | 0, c, ws => (c, ws)
  | n + 1, c, ws => if ws.head? = some 1 then settleW n (next32 c) (ws.tail.map (· - 1)) else (c, ws)
def addW (cum : Nat) (ws ds : List Nat) (t : Nat) : Nat × Nat × List Nat × List Nat :=
  if hasW cum ws t = true then (1, cum, ws, if ds.length < 16 then ds ++ [t] else ds)
  else if 65535 < spanN cum t then (2, cum, ws, ds)
  else (0, (settleW (ws.length + 1) cum (insW ws (spanN cum t))).1, (settleW (ws.length + 1) cum (insW ws (spanN cum t))).2, ds)
theorem insW_nil (w : Nat) : insW [] w = [w] := rfl
theorem insW_cons (x w : Nat) (l : List Nat) : insW (x :: l) w = if x < w then x :: insW l w else w :: x :: l := by
  unfold insW
  by_cases h : x < w
  · rw [if_pos h]; simp [atW, h]
  · rw [if_neg h]; simp [atW, h]
theorem insW_perm (w : Nat) (l : List Nat) : (insW l w).Perm (w :: l) := by
  unfold insW
  have := List.perm_middle (a := w) (l₁ := l.take (atW w l)) (l₂ := l.drop (atW w l))
  rwa [List.take_append_drop] at this
theorem insW_mem {w y : Nat} {l : List Nat} : y ∈ insW l w ↔ y = w ∨ y ∈ l := by
  rw [(insW_perm w l).mem_iff, List.mem_cons]
theorem insW_sorted {w : Nat} : ∀ {l : List Nat}, l.Pairwise (· < ·) → w ∉ l → (insW l w).Pairwise (· < ·)
  | [], _, _ => by rw [insW_nil]; exact List.pairwise_singleton _ _
  | x :: l, h, hn => by
    rw [insW_cons]
    rw [List.pairwise_cons] at h
    simp only [List.mem_cons, not_or] at hn
    split
    · rename_i q
      refine List.pairwise_cons.2 ⟨fun y hy => ?_, insW_sorted h.2 hn.2⟩
      rcases insW_mem.1 hy with rfl | z
      · exact q
      · exact h.1 y z
    · rename_i q
      refine List.pairwise_cons.2 ⟨fun y hy => ?_, List.pairwise_cons.2 h⟩
      rcases List.mem_cons.1 hy with rfl | z
      · omega
      · have := h.1 y z; omega
end Go.Proofs.Ytccbmmnkiihkaaa
namespace Go.Proofs.Ytccbmmnkiihkaaa
open Go.Sort
set_option maxRecDepth 100000
attribute [local irreducible] Go GoR GoL
end Go.Proofs.Ytccbmmnkiihkaaa
namespace Go.Proofs.Ytccbmmnkiihkaaa
open Go.Sort
theorem span_inj {c a b : Nat} (hc : c < 4294967296) (ha : a < 4294967296) (hb : b < 4294967296) (e : spanN c a = spanN c b) : a = b := by unfold spanN at e; omega
theorem span_zero {c a : Nat} (hc : c < 4294967296) (ha : a < 4294967296) : spanN c a = 0 ↔ a = c := by unfold spanN; omega
theorem span_one {c : Nat} (hc : c < 4294967296) : spanN c (next32 c) = 1 := by unfold spanN next32; omega
theorem span_next {c k : Nat} (hc : c < 4294967296) (hk : k < 4294967296) (h : 1 ≤ spanN c k) : spanN (next32 c) k = spanN c k - 1 := by unfold spanN next32 at *; omega
structure Alike (c : Nat) (ks ws : List Nat) : Prop where
  pm : ws.Perm (ks.map (spanN c))
  so : ws.Pairwise (· < ·)
  po : ∀ w ∈ ws, 1 ≤ w
  lt : ∀ w ∈ ws, w < 65536
  kb : ∀ k ∈ ks, k < 4294967296
  cb : c < 4294967296
theorem Alike.len {c : Nat} {ks ws : List Nat} (r : Alike c ks ws) : ws.length = ks.length := by have := r.pm.length_eq; rwa [List.length_map] at this
theorem Alike.mem {c t : Nat} {ks ws : List Nat} (r : Alike c ks ws) (ht : t < 4294967296) : t ∈ ks ↔ spanN c t ∈ ws := by
  rw [r.pm.mem_iff, List.mem_map]
  constructor
  · exact fun h => ⟨t, h, rfl⟩
  · rintro ⟨k, hk, e⟩
    rw [← span_inj r.cb (r.kb k hk) ht e]; exact hk
theorem Alike.has {c t : Nat} {ks ws : List Nat} (r : Alike c ks ws) (ht : t < 4294967296) : hasN c ks t = hasW c ws t := by
  unfold hasN hasW
  rw [decide_eq_decide.2 (r.mem ht), decide_eq_decide.2 (span_zero r.cb ht)]
theorem Alike.start {c : Nat} (hc : c < 4294967296) : Alike c [] [] := ⟨.refl _, .nil, (fun w h => by cases h), (fun w h => by cases h), (fun w h => by cases h), hc⟩
theorem settleN_succ (n c : Nat) (ks : List Nat) : settleN (n + 1) c ks = if next32 c ∈ ks then settleN n (next32 c) (ks.erase (next32 c)) else (c, ks) := rfl
theorem settleW_succ (n c : Nat) (ws : List Nat) : settleW (n + 1) c ws = if ws.head? = some 1 then settleW n (next32 c) (ws.tail.map (· - 1)) else (c, ws) := rfl
theorem settleN_yes {n c : Nat} {ks : List Nat} (h : next32 c ∈ ks) : settleN (n + 1) c ks = settleN n (next32 c) (ks.erase (next32 c)) := by rw [settleN_succ, if_pos h]
theorem settleN_no {n c : Nat} {ks : List Nat} (h : ¬ next32 c ∈ ks) : settleN (n + 1) c ks = (c, ks) := by rw [settleN_succ, if_neg h]
theorem settleW_yes {n c : Nat} {l : List Nat} : settleW (n + 1) c (1 :: l) = settleW n (next32 c) (l.map (· - 1)) := by rw [settleW_succ, if_pos List.head?_cons]; rw [List.tail_cons]
theorem settleW_no {n c : Nat} {ws : List Nat} (h : ¬ ws.head? = some 1) : settleW (n + 1) c ws = (c, ws) := by rw [settleW_succ, if_neg h]
theorem map_pred {f g : Nat → Nat} {l ks : List Nat} (hp : l.Perm (ks.map f)) (h : ∀ k ∈ ks, f k - 1 = g k) : (l.map (· - 1)).Perm (ks.map g) := by
  have h2 := hp.map (· - 1)
  rw [List.map_map] at h2
  exact h2.trans (.of_eq (List.map_congr_left fun k hk => h k hk))
theorem perm_erase_map {f : Nat → Nat} {n : Nat} {l ks : List Nat} (hp : (1 :: l).Perm (ks.map f)) (hn : n ∈ ks) (h1 : f n = 1) : l.Perm ((ks.erase n).map f) := by
  have h := hp.trans ((List.perm_cons_erase hn).map f)
  rw [List.map_cons, h1] at h
  exact h.cons_inv
theorem sorted_pred {l : List Nat} (hs : (1 :: l).Pairwise (· < ·)) : (l.map (· - 1)).Pairwise (· < ·) ∧ (∀ w ∈ l.map (· - 1), 1 ≤ w) := by
  have hl : ∀ w ∈ l, 1 < w := fun w hw => (List.pairwise_cons.1 hs).1 w hw
  refine ⟨List.pairwise_map.2 ((List.pairwise_cons.1 hs).2.imp_of_mem fun ha hb hab => by have := hl _ ha; have := hl _ hb; omega), fun y hy => ?_⟩
  obtain ⟨z, hz, rfl⟩ := List.mem_map.1 hy
  have := hl z hz; omega
theorem Alike.settle (n : Nat) : ∀ {c : Nat} {ks ws : List Nat}, Alike c ks ws → (settleN n c ks).1 = (settleW n c ws).1 ∧ Alike (settleN n c ks).1 (settleN n c ks).2 (settleW n c ws).2 := by
  induction n with
  | zero => intro c ks ws r; exact ⟨rfl, r⟩
  | succ n ih =>
    intro c ks ws r
    have key : next32 c ∈ ks ↔ ws.head? = some 1 := by
      rw [r.mem (next32_lt c), span_one r.cb]
      cases hw : ws with
      | nil => simp
      | cons x l =>
        have so := r.so
        have po := r.po
        rw [hw] at so po
        rw [List.head?_cons, Option.some.injEq]
        constructor
        · intro h
          rcases List.mem_cons.1 h with h | h
          · exact h.symm
          · have := (List.pairwise_cons.1 so).1 1 h
            have := po x (by simp)
            omega
        · rintro rfl; simp
    by_cases hk : next32 c ∈ ks
    · have hh := key.1 hk
      obtain ⟨l, rfl⟩ : ∃ l, ws = 1 :: l := by
        cases ws with
        | nil => cases hh
        | cons x l => rw [List.head?_cons, Option.some.injEq] at hh; exact ⟨l, by rw [hh]⟩
      rw [settleN_yes hk, settleW_yes]
      refine ih ?_
      have hsp := sorted_pred r.so
      refine ⟨map_pred (perm_erase_map r.pm hk (span_one r.cb)) fun k hk => ?_, hsp.1, hsp.2, fun y hy => ?_, fun k hk => r.kb k (List.mem_of_mem_erase hk), next32_lt c⟩
      · have hks := List.mem_of_mem_erase hk
        exact (span_next r.cb (r.kb k hks) (r.po _ ((r.mem (r.kb k hks)).1 hks))).symm
      · obtain ⟨z, hz, rfl⟩ := List.mem_map.1 hy
        have := r.lt z (List.mem_cons_of_mem _ hz); omega
    · have hh : ¬ ws.head? = some 1 := fun q => hk (key.2 q)
      rw [settleN_no hk, settleW_no hh]
      exact ⟨rfl, r⟩
theorem addN_has {c t : Nat} {ks : List Nat} (ds : List Nat) (h : hasN c ks t = true) : addN c ks ds t = (1, c, ks, if ds.length < 16 then ds ++ [t] else ds) := by unfold addN; rw [if_pos h]
theorem addN_far {c t : Nat} {ks : List Nat} (ds : List Nat) (h : ¬ hasN c ks t = true) (h2 : 65535 < spanN c t) : addN c ks ds t = (2, c, ks, ds) := by unfold addN; rw [if_neg h, if_pos h2]
theorem addN_new {c t : Nat} {ks : List Nat} (ds : List Nat) (h : ¬ hasN c ks t = true) (h2 : ¬ 65535 < spanN c t) {X : Nat × List Nat} (hX : settleN (ks.length + 1) c (ks ++ [t]) = X) : addN c ks ds t = (0, X.1, X.2, ds) := by unfold addN; rw [if_neg h, if_neg h2, hX]
theorem addW_has {c t : Nat} {ws : List Nat} (ds : List Nat) (h : hasW c ws t = true) : addW c ws ds t = (1, c, ws, if ds.length < 16 then ds ++ [t] else ds) := by unfold addW; rw [if_pos h]
theorem addW_far {c t : Nat} {ws : List Nat} (ds : List Nat) (h : ¬ hasW c ws t = true) (h2 : 65535 < spanN c t) : addW c ws ds t = (2, c, ws, ds) := by unfold addW; rw [if_neg h, if_pos h2]
theorem addW_new {c t : Nat} {ws : List Nat} (ds : List Nat) (h : ¬ hasW c ws t = true) (h2 : ¬ 65535 < spanN c t) {X : Nat × List Nat} (hX : settleW (ws.length + 1) c (insW ws (spanN c t)) = X) : addW c ws ds t = (0, X.1, X.2, ds) := by unfold addW; rw [if_neg h, if_neg h2, hX]
theorem insW_perm_map {f : Nat → Nat} {t : Nat} {ws ks : List Nat} (p : ws.Perm (ks.map f)) : (insW ws (f t)).Perm ((ks ++ [t]).map f) := by
  rw [List.map_append, List.map_cons, List.map_nil]
  exact (insW_perm _ _).trans ((p.cons _).trans (List.perm_append_singleton _ _).symm)
theorem Alike.ins {c t : Nat} {ks ws : List Nat} (r : Alike c ks ws) (ht : t < 4294967296) (h : ¬ hasW c ws t = true) (h2 : ¬ 65535 < spanN c t) : Alike c (ks ++ [t]) (insW ws (spanN c t)) := by
  have hwn : spanN c t ∉ ws := fun q => h (by unfold hasW; rw [decide_eq_true q, Bool.true_or])
  have hw0 : spanN c t ≠ 0 := fun q => h (by unfold hasW; rw [decide_eq_true q, Bool.true_or, Bool.or_true])
  have hp := insW_perm_map (t := t) r.pm
  refine ⟨hp, insW_sorted r.so hwn, fun y hy => ?_, fun y hy => ?_, fun k hk => ?_, r.cb⟩
  · rcases insW_mem.1 hy with q | q
    · omega
    · exact r.po y q
  · rcases insW_mem.1 hy with q | q
    · omega
    · exact r.lt y q
  · rcases List.mem_append.1 hk with q | q
    · exact r.kb k q
    · rw [List.mem_singleton.1 q]; exact ht
theorem Alike.news {c t : Nat} {ks ws : List Nat} (r : Alike c ks ws) (ht : t < 4294967296) (hH : ¬ hasW c ws t = true) (h2 : ¬ 65535 < spanN c t) : ∃ X Y, settleN (ks.length + 1) c (ks ++ [t]) = X ∧ settleW (ws.length + 1) c (insW ws (spanN c t)) = Y ∧ X.1 = Y.1 ∧ Alike X.1 X.2 Y.2 := by
  have hs := (r.ins ht hH h2).settle (ks.length + 1)
  rw [r.len]
  exact ⟨_, _, rfl, rfl, hs⟩
theorem Alike.add {c t : Nat} {ks ws ds : List Nat} (r : Alike c ks ws) (ht : t < 4294967296) : (addN c ks ds t).1 = (addW c ws ds t).1 ∧ (addN c ks ds t).2.1 = (addW c ws ds t).2.1 ∧ (addN c ks ds t).2.2.2 = (addW c ws ds t).2.2.2 ∧ Alike (addN c ks ds t).2.1 (addN c ks ds t).2.2.1 (addW c ws ds t).2.2.1 := by
  have hh := r.has ht
  by_cases hH : hasW c ws t = true
  · rw [addN_has ds (hh.trans hH), addW_has ds hH]
    exact ⟨rfl, rfl, rfl, r⟩
  · have hN : ¬ hasN c ks t = true := by rw [hh]; exact hH
    by_cases h2 : 65535 < spanN c t
    · rw [addN_far ds hN h2, addW_far ds hH h2]
      exact ⟨rfl, rfl, rfl, r⟩
    · obtain ⟨X, Y, h3, h4, h5, h6⟩ := r.news ht hH h2
      rw [addN_new ds hN h2 h3, addW_new ds hH h2 h4]
      exact ⟨rfl, h5, rfl, h6⟩
theorem settleN_len : ∀ (n c : Nat) (ks : List Nat), (settleN n c ks).2.length ≤ ks.length
  | 0, c, ks => Nat.le_refl _
  | n + 1, c, ks => by
    unfold settleN
    split
    · exact Nat.le_trans (settleN_len n _ _) (List.length_erase_le)
    · exact Nat.le_refl _
theorem addN_len (c : Nat) (ks ds : List Nat) (t : Nat) : (addN c ks ds t).2.2.1.length ≤ ks.length + 1 := by
  by_cases h : hasN c ks t = true
  · rw [addN_has ds h]; exact Nat.le_succ _
  · by_cases h2 : 65535 < spanN c t
    · rw [addN_far ds h h2]; exact Nat.le_succ _
    · have := settleN_len (ks.length + 1) c (ks ++ [t])
      rw [addN_new ds h h2 rfl]
      generalize settleN (ks.length + 1) c (ks ++ [t]) = X at *
      rw [List.length_append] at this
      exact this
theorem addN_ds (c : Nat) (ks ds : List Nat) (t : Nat) (hd : ds.length ≤ 16) : (addN c ks ds t).2.2.2.length ≤ 16 := by
  by_cases h : hasN c ks t = true
  · rw [addN_has ds h]
    show (if ds.length < 16 then ds ++ [t] else ds).length ≤ 16
    split
    · rw [List.length_append]; simp only [List.length_cons, List.length_nil]; omega
    · exact hd
  · by_cases h2 : 65535 < spanN c t
    · rw [addN_far ds h h2]; exact hd
    · rw [addN_new ds h h2 rfl]; exact hd
end Go.Proofs.Ytccbmmnkiihkaaa
namespace Go.Proofs.Ytccbmmnkiihkaaa
open Go.Sort
set_option maxRecDepth 100000
attribute [local irreducible] Go GoR GoL
theorem GSet.kept {h h' : AHeap} {sb r cum : Nat} {ks : List Nat} {da : Option Addr} {dc : Nat} {ds : List Nat} {n0 : Nat} {wr : List Nat} (g : GSet h sb r cum ks da dc ds n0) (k : Keeps wr h h') (hn : ∀ j ∈ [sb, r] ++ blk da, j ∉ wr) : GSet h' sb r cum ks da dc ds n0 := { g with sc := k.get g.sc (hn _ (by simp)), mp := g.mp.keeps k (hn _ (by simp)), dv := g.dv.keeps k fun j hj => hn j (by simp [hj]) }
theorem RSet.kept {h h' : AHeap} {rb cum : Nat} {wa da : Option Addr} {wc dc : Nat} {ws ds : List Nat} {n0 : Nat} {wr : List Nat} (g : RSet h rb cum wa wc ws da dc ds n0) (k : Keeps wr h h') (hn : ∀ j ∈ [rb] ++ blk wa ++ blk da, j ∉ wr) : RSet h' rb cum wa wc ws da dc ds n0 := { g with sc := k.get g.sc (hn _ (by simp)), wv := g.wv.keeps k (fun j hj => hn j (by simp [hj])), dv := g.dv.keeps k fun j hj => hn j (by simp [hj]) }
theorem GSet.lts {h : AHeap} {sb r cum : Nat} {ks : List Nat} {da : Option Addr} {dc : Nat} {ds : List Nat} {n0 : Nat} (g : GSet h sb r cum ks da dc ds n0) : ∀ j ∈ [sb, r] ++ blk da, j < h.n := fun j hj => by
  simp only [List.cons_append, List.nil_append, List.mem_cons] at hj
  rcases hj with rfl | rfl | q
  · exact AHeap.lt g.sc
  · exact g.mp.lt
  · exact g.dv.lt j q
theorem GSet.owns {h : AHeap} {sb r cum : Nat} {ks : List Nat} {da : Option Addr} {dc : Nat} {ds : List Nat} {n0 : Nat} (g : GSet h sb r cum ks da dc ds n0) : ∀ j ∈ [sb, r] ++ blk da, n0 ≤ j := fun j hj => by
  simp only [List.cons_append, List.nil_append, List.mem_cons] at hj
  rcases hj with rfl | rfl | q
  · exact g.ow.1
  · exact g.ow.2.1
  · exact g.ow.2.2 j q
theorem RSet.lts {h : AHeap} {rb cum : Nat} {wa da : Option Addr} {wc dc : Nat} {ws ds : List Nat} {n0 : Nat} (g : RSet h rb cum wa wc ws da dc ds n0) : ∀ j ∈ [rb] ++ blk wa ++ blk da, j < h.n := fun j hj => by
  simp only [List.cons_append, List.nil_append, List.mem_cons, List.mem_append] at hj
  rcases hj with rfl | q | q
  · exact AHeap.lt g.sc
  · exact g.wv.lt j q
  · exact g.dv.lt j q
theorem RSet.owns {h : AHeap} {rb cum : Nat} {wa da : Option Addr} {wc dc : Nat} {ws ds : List Nat} {n0 : Nat} (g : RSet h rb cum wa wc ws da dc ds n0) : ∀ j ∈ [rb] ++ blk wa ++ blk da, n0 ≤ j := fun j hj => by
  simp only [List.cons_append, List.nil_append, List.mem_cons, List.mem_append] at hj
  rcases hj with rfl | q | q
  · exact g.ow.1
  · exact g.ow.2.1 j q
  · exact g.ow.2.2 j q
theorem add_specE (sb r cum : Nat) (ks : List Nat) (da : Option Addr) (dc : Nat) (ds : List Nat) (n0 t : Nat) (ht : t < 4294967296) (hds : ds.length ≤ 16) (h : AHeap) (hn0 : n0 ≤ h.n) (G : GSet h sb r cum ks da dc ds n0) {code c' : Nat} {ks' ds' : List Nat} (hR : addN cum ks ds t = (code, c', ks', ds')) : CallS Try.prog ([sb, r] ++ blk da) 37 [.pointer (some ⟨sb, 0, none⟩), .int .u32 t] h fun v h' => v = .int .u8 (code : Nat) ∧ ∃ da' dc', GSet h' sb r c' ks' da' dc' ds' n0 ∧ ∀ i ∈ blk da', i ∈ blk da ∨ h.n ≤ i := by
  have k := add_spec sb r cum ks da dc ds n0 t ht hds h hn0 G
  rw [hR] at k
  exact k
end Go.Proofs.Ytccbmmnkiihkaaa
namespace Go.Proofs.Ytccbmmnkiihkaaa
set_option maxRecDepth 100000
attribute [local irreducible] Go GoR GoL
structure IT where
  ra : Option Addr
  rc : Nat
  da : Option Addr
  dc : Nat
  c : Nat
  ks : List Nat
  ds : List Nat
  kept : List PV
  s : IS
def IT.held (t : IT) : Nat := heldN t.kept + lenS t.s
structure IOk (h : AHeap) (xb : Nat) (A : IA) (r mr : Nat) (t : IT) (n0 : Nat) : Prop where
  X : IX h xb A t.ra t.rc (lenS t.s) t.s n0
  G : GSet h A.sb r t.c t.ks t.da t.dc t.ds n0
  J : FJ h A.jb mr t.kept n0
  ne : r ≠ mr ∧ r ≠ A.nx ∧ r ≠ A.wt ∧ mr ≠ A.nx ∧ mr ≠ A.wt
section
variable {h h' : AHeap} {xb : Nat} {A : IA} {r mr : Nat} {t : IT} {n0 : Nat}
theorem IOk.same (k : IOk h xb A r mr t n0) (s : Same h h') : IOk h' xb A r mr t n0 := ⟨k.X.same s, k.G.same s, k.J.same s, k.ne⟩
theorem IOk.gx (k : IOk h xb A r mr t n0) : ∀ j ∈ [A.sb, r] ++ blk t.da, j ∉ [xb, A.nx, A.wt] ++ blk t.ra := fun j hj hm => by
  obtain ⟨es, ck, g, -⟩ := k.G.mp
  obtain ⟨es1, ck1, g1, -⟩ := k.X.nm
  obtain ⟨es2, ck2, g2, -⟩ := k.X.wm
  simp only [List.cons_append, List.nil_append, List.mem_cons] at hj hm
  rcases hj with rfl | rfl | q
  · have gs := k.G.sc
    rcases hm with e | e | e | z
    · rw [e, k.X.xc] at gs; cases gs
    · rw [e, g1] at gs; cases gs
    · rw [e, g2] at gs; cases gs
    · exact sv_out k.X.rv gs (fun c e => by cases e) z
  · rcases hm with e | e | e | z
    · have := k.X.xc; rw [← e, g] at this; cases this
    · exact k.ne.2.1 e
    · exact k.ne.2.2.1 e
    · exact sv_out k.X.rv g (fun c e => by cases e) z
  · rcases hm with rfl | rfl | rfl | z
    · exact sv_out k.G.dv k.X.xc (fun c e => by cases e) q
    · exact sv_out k.G.dv g1 (fun c e => by cases e) q
    · exact sv_out k.G.dv g2 (fun c e => by cases e) q
    · exact sv_sv k.G.dv k.X.rv (by decide) j q z
theorem IOk.jx (k : IOk h xb A r mr t n0) : A.jb ∉ [xb, A.nx, A.wt] ++ blk t.ra ∧ mr ∉ [xb, A.nx, A.wt] ++ blk t.ra := by
  obtain ⟨es, ck, g, -⟩ := k.J.mp
  obtain ⟨es1, ck1, g1, -⟩ := k.X.nm
  obtain ⟨es2, ck2, g2, -⟩ := k.X.wm
  have gj := k.J.jc
  refine ⟨fun hm => ?_, fun hm => ?_⟩
  · simp only [List.cons_append, List.nil_append, List.mem_cons] at hm
    rcases hm with e | e | e | z
    · rw [e, k.X.xc] at gj; cases gj
    · rw [e, g1] at gj; cases gj
    · rw [e, g2] at gj; cases gj
    · exact sv_out k.X.rv gj (fun c e => by cases e) z
  · simp only [List.cons_append, List.nil_append, List.mem_cons] at hm
    rcases hm with e | e | e | z
    · have := k.X.xc; rw [← e, g] at this; cases this
    · exact k.ne.2.2.2.1 e
    · exact k.ne.2.2.2.2 e
    · exact sv_out k.X.rv g (fun c e => by cases e) z
theorem IOk.jg (k : IOk h xb A r mr t n0) : A.jb ∉ [A.sb, r] ++ blk t.da ∧ mr ∉ [A.sb, r] ++ blk t.da := by
  obtain ⟨es, ck, g, -⟩ := k.J.mp
  obtain ⟨es1, ck1, g1, -⟩ := k.G.mp
  have gj := k.J.jc
  have gs := k.G.sc
  refine ⟨fun hm => ?_, fun hm => ?_⟩
  · simp only [List.cons_append, List.nil_append, List.mem_cons] at hm
    rcases hm with e | e | z
    · rw [e, gs] at gj; cases gj
    · rw [e, g1] at gj; cases gj
    · exact sv_out k.G.dv gj (fun c e => by cases e) z
  · simp only [List.cons_append, List.nil_append, List.mem_cons] at hm
    rcases hm with e | e | z
    · rw [← e, g] at gs; cases gs
    · exact k.ne.1 e.symm
    · exact sv_out k.G.dv g (fun c e => by cases e) z
theorem IOk.dg (k : IOk h xb A r mr t n0) {a : Option Addr} {len cap : Nat} {cs : List Value} (d : Sv h 5 1 a len cap cs) : ∀ i ∈ blk a, i ∉ [A.sb, r] ++ blk t.da := fun i hi hm => by
  obtain ⟨es1, ck1, g1, -⟩ := k.G.mp
  simp only [List.cons_append, List.nil_append, List.mem_cons] at hm
  rcases hm with rfl | rfl | z
  · exact sv_out d k.G.sc (fun c e => by cases e) hi
  · exact sv_out d g1 (fun c e => by cases e) hi
  · exact sv_sv d k.G.dv (by decide) i hi z
theorem IOk.dj (k : IOk h xb A r mr t n0) {a : Option Addr} {len cap : Nat} {cs : List Value} (d : Sv h 5 1 a len cap cs) : ∀ i ∈ blk a, i ∉ [A.jb, mr] := fun i hi hm => by
  obtain ⟨es1, ck1, g1, -⟩ := k.J.mp
  simp only [List.mem_cons, List.not_mem_nil, or_false] at hm
  rcases hm with rfl | rfl
  · exact sv_out d k.J.jc (fun c e => by cases e) hi
  · exact sv_out d g1 (fun c e => by cases e) hi
theorem IOk.setG (k : IOk h xb A r mr t n0) {da' : Option Addr} {dc' c' : Nat} {ks' ds' : List Nat} (kk : Keeps ([A.sb, r] ++ blk t.da) h h') (G : GSet h' A.sb r c' ks' da' dc' ds' n0) : IOk h' xb A r mr { t with da := da', dc := dc', c := c', ks := ks', ds := ds' } n0 := ⟨k.X.kept kk (fun j hj hm => k.gx j hm hj) (fun d => k.dg d), G, k.J.kept kk k.jg.1 k.jg.2 (fun p hp => k.dg (k.J.dv p hp)), k.ne⟩
theorem IOk.setJ (k : IOk h xb A r mr t n0) {kept' : List PV} (kk : Keeps [A.jb, mr] h h') (J : FJ h' A.jb mr kept' n0) : IOk h' xb A r mr { t with kept := kept' } n0 := ⟨k.X.kept kk (fun j hj hm => by
  simp only [List.mem_cons, List.not_mem_nil, or_false] at hm
  rcases hm with rfl | rfl
  · exact k.jx.1 hj
  · exact k.jx.2 hj) (fun d => k.dj d), k.G.kept kk (fun j hj hm => by
  simp only [List.mem_cons, List.not_mem_nil, or_false] at hm
  rcases hm with rfl | rfl
  · exact k.jg.1 hj
  · exact k.jg.2 hj), J, k.ne⟩
theorem IOk.setX (k : IOk h xb A r mr t n0) {ra' : Option Addr} {rc' : Nat} {s' : IS} (kk : Keeps ([xb, A.nx, A.wt] ++ blk t.ra) h h') (X : IX h' xb A ra' rc' (lenS s') s' n0) : IOk h' xb A r mr { t with ra := ra', rc := rc', s := s' } n0 := ⟨X, k.G.kept kk k.gx, k.J.kept kk k.jx.1 k.jx.2 (fun p hp => k.X.out (k.J.dv p hp)), k.ne⟩
end
theorem inboxU : Try.prog.underlying 27 = some (.pointer 84) := by kernel_rfl
set_option maxHeartbeats 4000000 in
theorem icum_spec (xb : Nat) (A : IA) (r mr : Nat) (t : IT) (n0 : Nat) (h : AHeap) (k : IOk h xb A r mr t n0) : CallS Try.prog [] 19 [.pointer (some ⟨xb, 0, none⟩)] h fun v h' => v = .int .u32 (t.c : Nat) ∧ h' = h := by
  have gx := k.X.xc
  have hc := cum_spec A.sb r t.c t.ks t.da t.dc t.ds n0 h k.G
  (refine CallS.of1 Try.func19 rfl Try.ntmps19 Try.results19 rfl ?_)
  (refine Go.run (g:=?_))
  refine GoR.eqRef rfl rfl rfl rfl (.inl rfl) rfl rfl (aEq_ptrNil9 inboxU _) ?_
  (refine Go.run (g:=?_))
  refine GoR.call rfl rfl rfl rfl rfl rfl rfl (((hc).argA).mono ?_)
  rintro _ h2 ⟨rfl, rfl⟩ -
  (refine Go.run (g:=?_))
  (first|refine Go.finT (by first|exact .inr rfl|exact .inl rfl) rfl ?_|refine Go.fin1 (by first|exact .inr rfl|exact .inl rfl) rfl (hq:=?_))
  exact ⟨rfl, rfl⟩
set_option maxHeartbeats 4000000 in
theorem iready_spec (xb : Nat) (A : IA) (r mr : Nat) (t : IT) (n0 : Nat) (h : AHeap) (k : IOk h xb A r mr t n0) : CallS Try.prog [] 20 [.pointer (some ⟨xb, 0, none⟩)] h fun v h' => v = .int .i64 (t.s.ready.length : Nat) ∧ h' = h := by
  have gx := k.X.xc
  (refine CallS.of1 Try.func20 rfl Try.ntmps20 Try.results20 rfl ?_)
  (refine Go.run (g:=?_))
  refine GoR.eqRef rfl rfl rfl rfl (.inl rfl) rfl rfl (aEq_ptrNil9 inboxU _) ?_
  (refine Go.run (g:=?_))
  (first|refine Go.finT (by first|exact .inr rfl|exact .inl rfl) rfl ?_|refine Go.fin1 (by first|exact .inr rfl|exact .inl rfl) rfl (hq:=?_))
  exact ⟨rfl, rfl⟩
set_option maxHeartbeats 4000000 in
theorem iheld_spec (xb : Nat) (A : IA) (r mr : Nat) (t : IT) (n0 : Nat) (h : AHeap) (k : IOk h xb A r mr t n0) (hb : t.held ≤ 1000000000) : CallS Try.prog [] 21 [.pointer (some ⟨xb, 0, none⟩)] h fun v h' => v = .int .i64 (t.held : Nat) ∧ h' = h := by
  have gx := k.X.xc
  have hh := fheld_spec A.jb mr t.kept n0 h k.J
  unfold IT.held at *
  (refine CallS.of1 Try.func21 rfl Try.ntmps21 Try.results21 rfl ?_)
  (refine Go.run (g:=?_))
  refine GoR.eqRef rfl rfl rfl rfl (.inl rfl) rfl rfl (aEq_ptrNil9 inboxU _) ?_
  (refine Go.run (g:=?_))
  refine GoR.call rfl rfl rfl rfl rfl rfl rfl (((hh).argA).mono ?_)
  rintro _ h2 ⟨rfl, rfl⟩ -
  (refine Go.run (g:=?_))
  (first|refine Go.finT (by first|exact .inr rfl|exact .inl rfl) rfl ?_|refine Go.fin1 (by first|exact .inr rfl|exact .inl rfl) rfl (hq:=?_))
  exact ⟨rfl, rfl⟩
set_option maxHeartbeats 4000000 in
theorem irwnd_spec (xb : Nat) (A : IA) (r mr : Nat) (t : IT) (n0 : Nat) (h : AHeap) (k : IOk h xb A r mr t n0) (hb : t.held ≤ 1000000000) (hr : A.rm ≤ 1048576) (hs : A.sp ≤ 1048576) : CallS Try.prog [] 23 [.pointer (some ⟨xb, 0, none⟩)] h fun v h' => v = .int .u32 (A.rm - A.sp - t.held : Nat) ∧ h' = h := by
  have gx := k.X.xc
  have hh := iheld_spec xb A r mr t n0 h k hb
  generalize t.held = hd at *
  (refine CallS.of1 Try.func23 rfl Try.ntmps23 Try.results23 rfl ?_)
  (refine Go.run (g:=?_))
  refine GoR.eqRef rfl rfl rfl rfl (.inl rfl) rfl rfl (aEq_ptrNil9 inboxU _) ?_
  (refine Go.run (g:=?_))
  refine GoR.call rfl rfl rfl rfl rfl rfl rfl (((hh).argA).mono ?_)
  rintro _ h2 ⟨rfl, rfl⟩ -
  (refine Go.run (g:=?_))
  refine GoR.maxI rfl rfl rfl rfl rfl rfl ?_
  have e : (if (A.rm : Int) - (A.sp : Int) - (hd : Int) > 0 then (A.rm : Int) - (A.sp : Int) - (hd : Int) else 0) = ((A.rm - A.sp - hd : Nat) : Int) := by
    split <;> omega
  rw [e]
  have hlt : A.rm - A.sp - hd < 4294967296 := by omega
  generalize A.rm - A.sp - hd = w at *
  (refine Go.run (g:=?_))
  (first|refine Go.finT (by first|exact .inr rfl|exact .inl rfl) rfl ?_|refine Go.fin1 (by first|exact .inr rfl|exact .inl rfl) rfl (hq:=?_))
  exact ⟨rfl, rfl⟩
end Go.Proofs.Ytccbmmnkiihkaaa
namespace Go.Proofs.Ytccbmmnkiihkaaa
set_option maxRecDepth 100000
attribute [local irreducible] Go GoR GoL
def boundN (n : Int) : Nat := if n > 1048576 then 1048576 else n.toNat
theorem boundN_le (n : Int) : boundN n ≤ 1048576 := by unfold boundN; split <;> omega
theorem boundN_le2 (n : Int) (h : 0 ≤ n) : (boundN n : Int) ≤ n := by unfold boundN; split <;> omega
set_option maxHeartbeats 4000000 in
theorem bound_spec (n : Int) (h : AHeap) : CallS Try.prog [] 29 [.int .i64 n] h fun v h' => v = .int .i64 (boundN n : Nat) ∧ h' = h := by
  have key : (if (if (1048576 : Int) < n then (1048576 : Int) else n) > 0 then (if (1048576 : Int) < n then (1048576 : Int) else n) else 0) = ((boundN n : Nat) : Int) := by
    unfold boundN
    by_cases q : (1048576 : Int) < n
    · rw [if_pos q, if_pos (show n > 1048576 from q)]; rfl
    · rw [if_neg q, if_neg (show ¬ n > 1048576 from q)]
      by_cases p : n > 0
      · rw [if_pos p]; omega
      · rw [if_neg p]; omega
  (refine CallS.of1 Try.func29 rfl Try.ntmps29 Try.results29 rfl ?_)
  (refine Go.run (g:=?_))
  refine GoR.minI rfl rfl rfl rfl rfl rfl ?_
  refine GoR.maxI rfl rfl rfl rfl rfl rfl ?_
  rw [key]
  (refine Go.run (g:=?_))
  (first|refine Go.finT (by first|exact .inr rfl|exact .inl rfl) rfl ?_|refine Go.fin1 (by first|exact .inr rfl|exact .inl rfl) rfl (hq:=?_))
  exact ⟨rfl, rfl⟩
set_option maxHeartbeats 8000000 in
theorem inew_spec (st : Nat) (rm sp : Int) (c : Nat) (hc : c < 4294967296) (h : AHeap) : CallS Try.prog [] 8 [.int .u16 st, .int .i64 rm, .int .i64 sp, .int .u32 c] h fun v h' => ∃ xb sb jb nx wt r mr, v = .pointer (some ⟨xb, 0, none⟩) ∧ IOk h' xb ⟨st, boundN rm, boundN sp, sb, jb, nx, wt⟩ r mr ⟨none, 0, none, 0, c, [], [], [], ⟨[], [], []⟩⟩ h.n := by
  (refine CallS.of4 Try.func8 rfl Try.ntmps8 Try.results8 rfl ?_)
  (refine Go.run (g:=?_))
  refine GoR.call rfl rfl rfl rfl rfl rfl rfl (((bound_spec rm _).argA).mono ?_)
  rintro _ h1 ⟨rfl, rfl⟩ -
  (refine Go.run (g:=?_))
  refine GoR.call rfl rfl rfl rfl rfl rfl rfl (((bound_spec sp _).argA).mono ?_)
  rintro _ h2 ⟨rfl, rfl⟩ -
  (refine Go.run (g:=?_))
  refine GoR.call rfl rfl rfl rfl rfl rfl rfl (((gnew_spec c hc _).argA).mono ?_)
  rintro _ h3 ⟨sb, r, rfl, G⟩ s3
  (refine Go.run (g:=?_))
  refine GoR.call rfl rfl rfl rfl rfl rfl rfl (((fnew_spec _).argA).mono ?_)
  rintro _ h4 ⟨jb, mr, rfl, J⟩ s4
  (refine Go.run (g:=?_))
  refine GoR.makeMapI rfl rfl rfl rfl ?_
  intro h5 M5 s5 n5
  refine GoR.makeMapG tf rfl rfl rfl rfl ?_
  intro h6 M6 s6 n6
  have glt := G.lts
  have gow := G.owns
  have m3 := s3.1
  have m4 := s4.1
  have jlt := AHeap.lt J.jc
  have mlt := J.mp.lt
  have jow := J.ow
  have l1 := glt sb (by simp)
  have l2 := glt r (by simp)
  (refine Go.run (g:=?_))
  refine Go.name ?_
  intro h7 e7
  have s7 : Same h6 h7 := by subst e7; exact (Same.refl h6).push _
  have g7 : h7.get h6.n = some (.cells (xC st (boundN rm) (boundN sp) sb jb h4.n h5.n none 0 0 0) 84) := by subst e7; exact AHeap.get_push_same _ _
  clear e7
  have o1 := gow sb (by simp)
  have o2 := gow r (by simp)
  (first|refine Go.finT (by first|exact .inr rfl|exact .inl rfl) rfl ?_|refine Go.fin1 (by first|exact .inr rfl|exact .inl rfl) rfl (hq:=?_))
  refine ⟨_, sb, jb, h4.n, h5.n, r, mr, rfl, ⟨g7, ((M5 _).same s6).same s7, M6.same s7, Sv.nil, (fun m hm => by cases hm), (fun m hm => by cases hm), (fun m hm => by cases hm), (fun m hm => by cases hm), (fun m hm => by cases hm), by simp only; omega, ⟨by omega, by simp only; omega, by simp only; omega, Own.nil _⟩⟩, ?_, ?_, ⟨by omega, by simp only; omega, by simp only; omega, by simp only; omega, by simp only; omega⟩⟩
  · have G' := (((G.same s4).same s5).same s6).same s7
    exact { G' with ow := ⟨by omega, by omega, Own.nil _⟩ }
  · have J' := ((J.same s5).same s6).same s7
    exact { J' with ow := ⟨by simp only; omega, by omega⟩ }
theorem sv_narrow {h : AHeap} {t : TypeId} {sz : Nat} {a : Option Addr} {len cap cap' : Nat} {cs : List Value} (k : Sv h t sz a len cap cs) (h1 : len ≤ cap') (h2 : cap' ≤ cap) : Sv h t sz a len cap' cs := by
  cases k with
  | nil =>
    obtain rfl : cap' = 0 := by omega
    exact .nil
  | mk hg ho hl hc => exact .mk hg (by have := Nat.mul_le_mul_right sz h2; omega) h1 hc
theorem ics_drop (m : IM) (l : List IM) : (ics (m :: l)).drop (1 * 4) = ics l := rfl
set_option maxHeartbeats 16000000 in
theorem irecv_spec (xb : Nat) (A : IA) (r mr : Nat) (t : IT) (n0 : Nat) (h : AHeap) (hn0 : n0 ≤ h.n) (k : IOk h xb A r mr t n0) (hl : t.s.ready.length ≤ 1000000) (hb : t.held ≤ 1000000000) : CallS Try.prog [xb] 12 [.pointer (some ⟨xb, 0, none⟩)] h fun v h' => (t.s.ready = [] ∧ v = .tuple #[.agg #[.int .u16 0, .bool false, .int .u32 0, .slice none 0 0], .bool false] ∧ IOk h' xb A r mr t n0) ∨ ∃ m rest ra' rc', t.s.ready = m :: rest ∧ v = .tuple #[iV m, .bool true] ∧ IOk h' xb A r mr { t with ra := ra', rc := rc', s := { t.s with ready := rest } } n0 := by
  have gx := k.X.xc
  have hlt := AHeap.lt gx
  have hrd := iready_spec xb A r mr t n0
  have hlt2 := k.X.lts
  have hglt := k.G.lts
  have hjl := AHeap.lt k.J.jc
  have hmrl := k.J.mp.lt
  have hlen : lenI t.s.ready ≤ t.held := by unfold IT.held lenS; omega
  (refine CallS.of1 Try.func12 rfl Try.ntmps12 Try.results12 rfl ?_)
  (refine Go.run (g:=?_))
  refine GoR.name ?_
  intro h1 e1
  have s1 : Same h h1 := by subst e1; exact (Same.refl h).push _
  have g1 : h1.get h.n = some (.cells [.int .u16 0, .bool false, .int .u32 0, .slice none 0 0] 39) := by subst e1; exact AHeap.get_push_same _ _
  have n1 : h1.n = h.n + 1 := by subst e1; rfl
  clear e1
  have k1 := k.same s1
  have gx1 := k1.X.xc
  clear gx
  refine GoR.call rfl rfl rfl rfl rfl rfl rfl (((hrd _ k1).argA).mono ?_)
  rintro _ h2 ⟨rfl, rfl⟩ -
  cases hr : t.s.ready with
  | nil =>
    simp only [List.length_nil]
    (refine Go.run (g:=?_))
    refine Go.name ?_
    intro h3 e3
    have s3 : Same h h3 := by subst e3; exact s1.put (Nat.le_refl _) _
    have g3 : h3.get h.n = some (.cells [.int .u16 0, .bool false, .int .u32 0, .slice none 0 0] 39) := by subst e3; exact get_put_self g1
    clear e3
    refine Go.fin (by first|exact .inr rfl|exact .inl rfl) (.cellN rfl inferInstance (by (first | assumption | exact AHeap.get_push_same _ _ | ((repeat first | exact AHeap.get_push_same _ _ | assumption | refine get_push_lt ?_ | exact AHeap.get_put_same _ (by first | omega | (simp only [AHeap.n_push, AHeap.n_put]; omega)) _ | exact get_put_self (by assumption) | apply get_put_self | refine get_put_other (by first | omega | (simp only [AHeap.n_push, AHeap.n_put]; omega)) ?_ | refine Same.get (by assumption) ?_ | refine Keeps.get (by assumption) ?_ (fun hi => by have hx := Own.out (by assumption) hi; omega)) ; fail_if_success focus skip) | fail)) (by first | exact Nat.le_refl _ | (simp; omega)) rfl (.tmp rfl .nil)) ?_
    exact .inl ⟨trivial, rfl, k.same s3⟩
  | cons m rest =>
    have hrl : t.s.ready.length = rest.length + 1 := by rw [hr]; rfl
    have rv1 := k1.X.rv
    rw [hr] at rv1 gx1
    have c0 : ((ics (m :: rest)).drop (0 * 4)).take 4 = iC m := rfl
    have hbe : 0 * 4 + 4 ≤ (ics (m :: rest)).length := by rw [ics_len]; simp only [List.length_cons]; omega
    have hml : m.z.length ≤ lenS t.s := by unfold lenS lenI; rw [hr]; simp only [List.map_cons, List.sum_cons]; omega
    have hls : lenS t.s ≤ 1000000000 := by unfold IT.held at hb; omega
    have hlc : (m :: rest).length = rest.length + 1 := rfl
    simp only [iC] at c0
    (refine Go.run (g:=?_))
    refine GoR.name ?_
    intro h3 e3
    have s3 : Same h2 h3 := by subst e3; exact ((Same.refl h2).push _).put (Nat.le_refl _) _
    have g4 : h3.get h2.n = some (.cells [.int .u16 (m.sid : Nat), .bool m.un, .int .u32 (m.ppid : Nat), .slice m.a m.z.length m.cap] 39) := by subst e3; (first | assumption | exact AHeap.get_push_same _ _ | ((repeat first | exact AHeap.get_push_same _ _ | assumption | refine get_push_lt ?_ | exact AHeap.get_put_same _ (by first | omega | (simp only [AHeap.n_push, AHeap.n_put]; omega)) _ | exact get_put_self (by assumption) | apply get_put_self | refine get_put_other (by first | omega | (simp only [AHeap.n_push, AHeap.n_put]; omega)) ?_ | refine Same.get (by assumption) ?_ | refine Keeps.get (by assumption) ?_ (fun hi => by have hx := Own.out (by assumption) hi; omega)) ; fail_if_success focus skip) | fail)
    have n3 : h3.n = h2.n + 1 := by subst e3; rfl
    clear e3
    have k3 := k1.same s3
    have rv3 := rv1.same s3
    have gx3 := s3.get gx1
    have g13 := s3.get g1
    have xr3 := k3.X.xr
    clear k k1 rv1 gx1 g1 s1
    refine GoR.slice3V (lo' := some (.int .i64 1)) (hi := .int .i64 ((m :: rest).length : Nat)) (mx := .int .i64 ((m :: rest).length : Nat)) (l := 1) (r := (m :: rest).length) (xx := (m :: rest).length) rfl rfl rfl rfl rfl rfl rfl rfl rv3.rv (by simp [bnd]) (by simp [bnd]; omega) (by simp [bnd]; omega) (by rw [hlc]; omega) (Nat.le_refl _) rv3.le ?_
    have nv3 := sv_narrow rv3 (Nat.le_refl _) rv3.le
    have sb3 := nv3.sub (l := 1) (r := (m :: rest).length) (by rw [hlc]; omega) (Nat.le_refl _)
    rw [hlc, Nat.add_sub_cancel] at sb3
    rw [hlc, Nat.add_sub_cancel]
    rw [ics_drop, List.take_of_length_le (by rw [ics_len]; exact Nat.le_refl _)] at sb3
    have hsub : blk (subA t.ra (1 * 4)) = blk t.ra := by cases t.ra <;> rfl
    generalize subA t.ra (1 * 4) = ra' at *
    rw [hlc] at gx3
    (refine Go.run (g:=?_))
    refine Go.name ?_
    intro h4 e4
    have k4 : Keeps [xb] h3 h4 := by subst e4; exact (Keeps.rf _ _).pt (.inl (by simp)) _
    have gx4 : h4.get xb = some (.cells (xC A.st A.rm A.sp A.sb A.jb A.nx A.wt ra' rest.length rest.length (lenS t.s)) 84) := by subst e4; exact get_put_self gx3
    clear e4
    have g44 := k4.get g4 (by simp; omega)
    have g14 := k4.get g13 (by simp; omega)
    have n4 := k4.1
    clear gx3 g4
    (repeat (first|refine GoR.end ?_|(refine GoR.gd rfl ?_;first|refine GoR.wanted' rfl rfl rfl rfl (g:=?_)|refine GoR.unwanted' rfl rfl rfl rfl (hd:=rfl) (hN:=rfl) (g:=?_)|refine GoR.unwantedU rfl rfl rfl rfl rfl rfl ?_)|(refine GoR.kk 0 rfl ?_;first|refine GoR.move rfl rfl rfl rfl rfl ?_|refine GoR.assign rfl rfl rfl rfl rfl ?_)|(refine GoR.kk 1 rfl ?_;first|refine GoR.load' rfl rfl rfl rfl rfl (g:=?_)|refine GoR.loadA' rfl rfl rfl rfl rfl (hv:=rfl) (g:=?_)|refine GoR.loadV' rfl rfl rfl rfl rfl (g:=?_)|refine GoR.loadVN' rfl rfl rfl rfl rfl (g:=?_))|(refine GoR.kk 2 rfl ?_;first|refine GoR.store' rfl rfl rfl rfl rfl (hl:=rfl) (h1:=rfl) (h3:=rfl) (g:=?_))|(refine GoR.kk 3 rfl ?_;first|refine GoR.fieldAddr rfl rfl rfl rfl rfl ?_|refine GoR.indexN' rfl rfl rfl rfl rfl rfl (g:=?_)|refine GoR.indexNs' rfl rfl rfl rfl rfl rfl (g:=?_)|refine GoR.indexV' rfl rfl rfl rfl rfl rfl (g:=?_)|refine GoR.indexA' rfl rfl rfl rfl rfl rfl (g:=?_)|refine GoR.fieldV' rfl rfl rfl rfl rfl (g:=?_))|(refine GoR.kk 4 rfl ?_;first|refine GoR.eq rfl rfl rfl rfl rfl rfl ?_|refine GoR.ne rfl rfl rfl rfl rfl rfl ?_|refine GoR.lt rfl rfl rfl rfl rfl rfl ?_|refine GoR.le rfl rfl rfl rfl rfl rfl ?_|refine GoR.gt rfl rfl rfl rfl rfl rfl ?_|refine GoR.ge rfl rfl rfl rfl rfl rfl ?_|refine GoR.addN' rfl rfl rfl rfl rfl rfl (g:=?_)|refine GoR.subN' rfl rfl rfl rfl rfl rfl (g:=?_)|refine GoR.add' rfl rfl rfl rfl rfl rfl (g:=?_)|refine GoR.sub' rfl rfl rfl rfl rfl rfl (g:=?_)|refine GoR.addM' rfl rfl rfl rfl rfl rfl (g:=?_)|refine GoR.subM' rfl rfl rfl rfl rfl rfl (g:=?_)|refine GoR.mulM' rfl rfl rfl rfl rfl rfl (g:=?_)|refine GoR.shrN rfl rfl rfl rfl rfl rfl rfl ?_|refine GoR.structEq rfl rfl rfl rfl rfl rfl (by rfl) (by rfl) ?_|refine GoR.structNe rfl rfl rfl rfl rfl rfl (by rfl) (by rfl) ?_|refine GoR.strEq rfl rfl rfl rfl rfl rfl ?_|refine GoR.strNe rfl rfl rfl rfl rfl rfl ?_|refine GoR.remN' rfl rfl rfl rfl rfl rfl (g:=?_)|refine GoR.quoN' rfl rfl rfl rfl rfl rfl (g:=?_)|refine GoR.shlN' rfl rfl rfl rfl rfl rfl rfl (g:=?_)|refine GoR.orN' rfl rfl rfl rfl rfl rfl (g:=?_))|(refine GoR.kk 5 rfl ?_;first|refine GoR.len rfl rfl rfl rfl rfl ?_|refine GoR.lenStr rfl rfl rfl rfl rfl ?_|refine GoR.capB rfl rfl rfl rfl rfl ?_)|(refine GoR.kk 7 rfl ?_;first|refine GoR.pickE' rfl rfl rfl rfl rfl (hx:=rfl) (hy:=rfl) (g:=?_)|refine GoR.pickN' rfl rfl rfl rfl rfl (hx:=rfl) (hy:=rfl) (g:=?_)|refine GoR.pickB rfl rfl rfl rfl rfl rfl rfl ?_)|(refine GoR.kk 8 rfl ?_;first|refine GoR.boxA rfl rfl rfl rfl rfl ?_|refine GoR.boxS rfl rfl rfl rfl rfl rfl ?_|refine GoR.alloc rfl rfl rfl rfl ?_)|(refine GoR.kk 9 rfl ?_;first|refine GoR.strV' rfl rfl rfl rfl rfl (g:=?_)|refine GoR.conv_u8 rfl rfl rfl rfl rfl ?_|refine GoR.convW' rfl rfl rfl rfl rfl (g:=?_)|refine GoR.conv_u16 rfl rfl rfl rfl rfl ?_|refine GoR.conv_u32 rfl rfl rfl rfl rfl ?_)|(refine GoR.kk 10 rfl ?_;first|refine GoR.build' rfl rfl rfl rfl rfl rfl (g:=?_))|(refine GoR.kk 11 rfl ?_;first|refine GoR.extract rfl rfl rfl rfl rfl rfl ?_|refine GoR.not rfl rfl rfl rfl rfl ?_|refine GoR.nilCheck rfl rfl rfl rfl rfl ?_|refine GoR.nilCheckF rfl rfl rfl rfl rfl ?_|refine GoR.makeFunc rfl rfl rfl rfl rfl rfl ?_)|(refine Go.kk 0 rfl ?_;refine Go.seq ?_)|(refine Go.kk 1 rfl ?_;refine Go.region (by kernel_rfl) rfl ?_)|(refine Go.kk 3 rfl ?_;first|refine Go.cond_t' rfl (g:=?_)|refine Go.cond_f' rfl (g:=?_))|(refine Go.kk 4 rfl ?_;refine Go.block ?_)|(refine Go.kk 5 rfl ?_;first|refine Go.skip ?_|refine Go.ret ?_|refine Go.exit ?_|refine Go.scope ?_)|refine Go.leave_normal ?_|refine Go.leave_same ?_|refine Go.leave_ret ?_|refine Go.ret_code ?_|refine Go.exit_code ?_|refine Go.leave_other rfl ?_|refine Go.sc_normal ?_|refine Go.sc_ret ?_|refine Go.sc_exit ?_|refine Go.exit_back ?_|refine Go.ret_back ?_))
    refine Go.kk 2 rfl ?_
    refine Go.loud (by kernel_rfl) rfl ?_
    (refine Go.runL (g:=?_))
    refine GoL.store' rfl rfl rfl rfl rfl (hl:=rfl) (h1:=rfl) (h3:=rfl) (g:=?_)
    (refine Go.runL (g:=?_))
    (refine GoL.end_ (hl := by (simp only [List.nil_append, List.cons_append, AHeap.n_push, AHeap.n_put]); repeat (first | exact loudP.nil | refine loudP.none ?_ | refine loudP.new (fun _ hb => absurd hb List.not_mem_nil) ?_ | refine loudP.row (by repeat (first | exact loudRowP.nil | refine loudRowP.none ?_ | refine loudRowP.bef (by decide +kernel) ?_ | refine loudRowP.apart (by first | exact .inl rfl | exact .inr (by simp)) rfl (fun i hi => by simp only [List.mem_cons, List.not_mem_nil, or_false] at hi; subst hi; first | (simp; fail_if_success focus skip) | (simp; omega)) ?_)) ?_)) ?_)
    refine Go.name ?_
    intro h5 e5
    have k5 : Keeps [xb] h4 h5 := by subst e5; exact (Keeps.rf _ _).pt (.inl (by simp)) _
    have gx5 : h5.get xb = some (.cells (xC A.st A.rm A.sp A.sb A.jb A.nx A.wt ra' rest.length rest.length (lenS t.s - m.z.length)) 84) := by subst e5; exact get_put_self gx4
    clear e5
    have g45 := k5.get g44 (by simp; omega)
    have g15 := k5.get g14 (by simp; omega)
    have n5 := k5.1
    clear gx4 g44 g14
    (refine Go.run (g:=?_))
    refine Go.name ?_
    intro h6 e6
    have k6 : Keeps [h.n] h5 h6 := by subst e6; exact (Keeps.rf _ _).pt (.inl (by simp)) _
    have g16 : h6.get h.n = some (.cells [.int .u16 (m.sid : Nat), .bool m.un, .int .u32 (m.ppid : Nat), .slice m.a m.z.length m.cap] 39) := by subst e6; exact get_put_self g15
    clear e6
    have gx6 := k6.get gx5 (by simp; omega)
    have k36 : Keeps [xb, h.n] h3 h6 := ⟨by have := k6.1; omega, fun i hi hn => by
      simp only [List.mem_cons, List.not_mem_nil, or_false, not_or] at hn
      rw [k6.2 i (by omega) (by simpa using hn.2), k5.2 i (by omega) (by simpa using hn.1), k4.2 i hi (by simpa using hn.1)]⟩
    have hwh : lenS { t.s with ready := rest } = lenS t.s - m.z.length := by
      unfold lenS lenI
      rw [hr]
      simp only [List.map_cons, List.sum_cons]
      omega
    refine Go.fin (by first|exact .inr rfl|exact .inl rfl) (.cellN rfl inferInstance (by (first | assumption | exact AHeap.get_push_same _ _ | ((repeat first | exact AHeap.get_push_same _ _ | assumption | refine get_push_lt ?_ | exact AHeap.get_put_same _ (by first | omega | (simp only [AHeap.n_push, AHeap.n_put]; omega)) _ | exact get_put_self (by assumption) | apply get_put_self | refine get_put_other (by first | omega | (simp only [AHeap.n_push, AHeap.n_put]; omega)) ?_ | refine Same.get (by assumption) ?_ | refine Keeps.get (by assumption) ?_ (fun hi => by have hx := Own.out (by assumption) hi; omega)) ; fail_if_success focus skip) | fail)) (by first | exact Nat.le_refl _ | (simp; omega)) rfl (.tmp rfl .nil)) ?_
    have hmm : m ∈ t.s.ready := by rw [hr]; simp
    have hsb : ∀ q ∈ rest, q ∈ t.s.ready := fun q hq => by rw [hr]; simp [hq]
    have nin : ∀ j, j < h.n → j ≠ xb → j ∉ [xb, h.n] := fun j h1 h2 hm => by
      simp only [List.mem_cons, List.not_mem_nil, or_false] at hm
      omega
    have dat : ∀ {a : Option Addr} {len cap : Nat} {cs : List Value}, Sv h3 5 1 a len cap cs → Sv h6 5 1 a len cap cs := fun d => d.keeps k36 fun i hi hm => by
      simp only [List.mem_cons, List.not_mem_nil, or_false] at hm
      rcases hm with rfl | rfl
      · exact sv_out d k3.X.xc (fun c e => by cases e) hi
      · exact sv_out d g13 (fun c e => by cases e) hi
    refine .inr ⟨m, rest, ra', rest.length, rfl, rfl, ?_⟩
    have l0 := hlt2 xb (by simp)
    refine ⟨⟨by simp only [hwh]; exact gx6, k3.X.nm.keeps k36 (nin _ (hlt2 _ (by simp)) k3.X.xn), k3.X.wm.keeps k36 (nin _ (hlt2 _ (by simp)) k3.X.xw), sb3.keeps k36 (fun j hj => nin j (hlt2 j (by rw [hsub] at hj; simp [hj])) (fun e => xr3 (by rw [← e, ← hsub]; exact hj))), fun q hq => dat (k3.X.dr q (hsb q hq)), fun q hq => dat (k3.X.dw q hq), fun q hq => k3.X.mr q (hsb q hq), k3.X.mw, k3.X.nb, k3.X.ne, ⟨k3.X.ow.1, k3.X.ow.2.1, k3.X.ow.2.2.1, fun j hj => k3.X.ow.2.2.2 j (by rw [← hsub]; exact hj)⟩⟩, k3.G.kept k36 (fun j hj => nin j (hglt j hj) (fun e => k3.gx j hj (by simp [e]))), k3.J.kept k36 (nin _ hjl (fun e => k3.jx.1 (by simp [e]))) (nin _ hmrl (fun e => k3.jx.2 (by simp [e]))) (fun q hq i hi hm => ?_), k3.ne⟩
    simp only [List.mem_cons, List.not_mem_nil, or_false] at hm
    rcases hm with rfl | rfl
    · exact sv_out (k3.J.dv q hq) k3.X.xc (fun c e => by cases e) hi
    · exact sv_out (k3.J.dv q hq) g13 (fun c e => by cases e) hi
end Go.Proofs.Ytccbmmnkiihkaaa
namespace Go.Proofs.Ytccbmmnkiihkaaa
set_option maxRecDepth 100000
attribute [local irreducible] Go GoR GoL
def limitI (A : IA) (t : IT) (p : PV) : Int := if p.t = next32 t.c then (A.rm : Int) else (A.rm : Int) - (A.sp : Int)
inductive AddI (A : IA) (t : IT) (p : PV) : Int → IT → Prop
  | arg (h0 : p.z.length = 0) : AddI A t p 2 t
  | full (h0 : p.z.length ≠ 0) (h1 : ¬ hasN t.c t.ks p.t = true) (h2 : ¬ 65535 < spanN t.c p.t) (h3 : limitI A t p < (t.held : Int) + p.z.length) : AddI A t p 7 t
  | told {code c' : Nat} {ks' ds' : List Nat} {da' : Option Addr} {dc' : Nat} (h0 : p.z.length ≠ 0) (ha : addN t.c t.ks t.ds p.t = (code, c', ks', ds')) (hc : code ≠ 0) : AddI A t p 4 { t with c := c', ks := ks', ds := ds', da := da', dc := dc' }
  | stream {c' : Nat} {ks' ds' : List Nat} {da' : Option Addr} {dc' : Nat} (h0 : p.z.length ≠ 0) (ha : addN t.c t.ks t.ds p.t = (0, c', ks', ds')) (h3 : (t.held : Int) + p.z.length ≤ limitI A t p) (hs : A.st ≤ p.sid) : AddI A t p 100 { t with c := c', ks := ks', ds := ds', da := da', dc := dc' }
  | part {c' : Nat} {ks' ds' : List Nat} {da' : Option Addr} {dc' : Nat} {pa : Option Addr} {pc : Nat} (h0 : p.z.length ≠ 0) (ha : addN t.c t.ks t.ds p.t = (0, c', ks', ds')) (h3 : (t.held : Int) + p.z.length ≤ limitI A t p) (hs : p.sid < A.st) (hp : (putN t.kept { p with a := pa, cap := pc }).2 = none) : AddI A t p 0 { t with c := c', ks := ks', ds := ds', da := da', dc := dc', kept := (putN t.kept { p with a := pa, cap := pc }).1 }
  | whole {c' : Nat} {ks' ds' : List Nat} {da' : Option Addr} {dc' : Nat} {pa : Option Addr} {pc : Nat} {m : IM} {ra' : Option Addr} {rc' : Nat} {s' : IS} (h0 : p.z.length ≠ 0) (ha : addN t.c t.ks t.ds p.t = (0, c', ks', ds')) (h3 : (t.held : Int) + p.z.length ≤ limitI A t p) (hs : p.sid < A.st) (hp : (putN t.kept { p with a := pa, cap := pc }).2 = some (m.sid, m.un, m.ppid, m.z)) (hm : msgN t.s m p.ssn = some s' ∨ msgN t.s m p.ssn = none ∧ s' = t.s) : AddI A t p 0 { t with c := c', ks := ks', ds := ds', da := da', dc := dc', kept := (putN t.kept { p with a := pa, cap := pc }).1, ra := ra', rc := rc', s := s' }
set_option maxHeartbeats 64000000 in
theorem iadd_spec (xb : Nat) (A : IA) (r mr : Nat) (t : IT) (n0 : Nat) (p : PV) (pb : PB p) (h : AHeap) (hn0 : n0 ≤ h.n) (k : IOk h xb A r mr t n0) (hrm : A.rm ≤ 1048576) (hsp : A.sp ≤ 1048576) (hst : A.st < 65536) (hl : t.s.ready.length + t.s.waits.length ≤ 900000) (hkl : t.kept.length ≤ 1000000) (hds : t.ds.length ≤ 16) (hb : t.held + p.z.length ≤ 900000000) (hpo : ∀ i ∈ blk p.a, i < n0) (hz : Rv Try.prog h 1 p.a p.z.length p.cap (p.z.map bv)) : CallS Try.prog ([xb, A.nx, A.wt] ++ blk t.ra ++ ([A.sb, r] ++ blk t.da) ++ [A.jb, mr]) 10 [.pointer (some ⟨xb, 0, none⟩), pV p] h fun v h' => ∃ code t', v = .int .i64 code ∧ AddI A t p code t' ∧ IOk h' xb A r mr t' n0 := by
  have gx := k.X.xc
  have hlt := AHeap.lt gx
  obtain ⟨b1, b2, b3, b4, b5⟩ := pb
  (refine CallS.of2 Try.func10 rfl Try.ntmps10 Try.results10 rfl ?_)
  simp only [pV, pC]
  by_cases h0 : p.z.length = 0
  · (refine Go.run (g:=?_))
    refine GoR.eqRef rfl rfl rfl rfl (.inl rfl) rfl rfl (aEq_ptrNil9 inboxU _) ?_
    (refine Go.run (g:=?_))
    refine Go.name ?_
    intro h1 e1
    have s1 : Same h h1 := by subst e1; exact (Same.refl h).push _
    clear e1
    (first|refine Go.finT (by first|exact .inr rfl|exact .inl rfl) rfl ?_|refine Go.fin1 (by first|exact .inr rfl|exact .inl rfl) rfl (hq:=?_))
    exact ⟨2, t, rfl, .arg h0, k.same s1⟩
  have gG := k.G.sc
  (refine Go.run (g:=?_))
  refine GoR.eqRef rfl rfl rfl rfl (.inl rfl) rfl rfl (aEq_ptrNil9 inboxU _) ?_
  (refine Go.run (g:=?_))
  refine GoR.name ?_
  intro h1 e1
  have s1 : Same h h1 := by subst e1; exact (Same.refl h).push _
  have g3 : h1.get h.n = some (.cells [.int .u32 (p.t : Nat), .int .u8 (p.fl : Nat), .int .u16 (p.sid : Nat), .int .u16 (p.ssn : Nat), .int .u32 (p.ppid : Nat), .slice p.a p.z.length p.cap] 33) := by subst e1; exact AHeap.get_push_same _ _
  have n1 : h1.n = h.n + 1 := by subst e1; rfl
  clear e1
  have k1 := k.same s1
  have gx1 := k1.X.xc
  have hz1 := hz.same s1
  have kb := k.G.cb
  have xlt := k.X.lts
  have glt := k.G.lts
  have jl1 := AHeap.lt k.J.jc
  have jl2 := k.J.mp.lt
  clear gx k gG hz s1
  refine GoR.call rfl rfl rfl rfl rfl rfl rfl (((gnext_spec A.sb r t.c t.ks t.da t.dc t.ds n0 p.t b1 _ k1.G).argA).mono ?_)
  rintro _ h2 ⟨rfl, rfl⟩ -
  (refine Go.run (g:=?_))
  have hL1 : -1048576 ≤ limitI A t p ∧ limitI A t p ≤ 1048576 := by unfold limitI; split <;> omega
  refine Go.join1 (α := Unit) (fun _ => [(5, .int .i64 (limitI A t p)), (3, .pointer (some ⟨h.n, 0, none⟩)), (0, .pointer (some ⟨xb, 0, none⟩))]) (fun _ => []) (fun _ => h2) (fun _ => True) ?_ ?_
  · by_cases hnx : p.t = next32 t.c
    · rw [decide_eq_true hnx, show limitI A t p = (A.rm : Int) from if_pos hnx]
      (refine Go.run (g:=?_))
      exact Go.joined () trivial ⟨rfl, rfl, rfl, trivial⟩ rfl rfl
    · rw [decide_eq_false hnx, show limitI A t p = (A.rm : Int) - (A.sp : Int) from if_neg hnx]
      (refine Go.run (g:=?_))
      exact Go.joined () trivial ⟨rfl, rfl, rfl, trivial⟩ rfl rfl
  rintro - -
  (repeat (first|refine GoR.end ?_|(refine GoR.gd rfl ?_;first|refine GoR.wanted' rfl rfl rfl rfl (g:=?_)|refine GoR.unwanted' rfl rfl rfl rfl (hd:=rfl) (hN:=rfl) (g:=?_)|refine GoR.unwantedU rfl rfl rfl rfl rfl rfl ?_)|(refine GoR.kk 0 rfl ?_;first|refine GoR.move rfl rfl rfl rfl rfl ?_|refine GoR.assign rfl rfl rfl rfl rfl ?_)|(refine GoR.kk 1 rfl ?_;first|refine GoR.load' rfl rfl rfl rfl rfl (g:=?_)|refine GoR.loadA' rfl rfl rfl rfl rfl (hv:=rfl) (g:=?_)|refine GoR.loadV' rfl rfl rfl rfl rfl (g:=?_)|refine GoR.loadVN' rfl rfl rfl rfl rfl (g:=?_))|(refine GoR.kk 2 rfl ?_;first|refine GoR.store' rfl rfl rfl rfl rfl (hl:=rfl) (h1:=rfl) (h3:=rfl) (g:=?_))|(refine GoR.kk 3 rfl ?_;first|refine GoR.fieldAddr rfl rfl rfl rfl rfl ?_|refine GoR.indexN' rfl rfl rfl rfl rfl rfl (g:=?_)|refine GoR.indexNs' rfl rfl rfl rfl rfl rfl (g:=?_)|refine GoR.indexV' rfl rfl rfl rfl rfl rfl (g:=?_)|refine GoR.indexA' rfl rfl rfl rfl rfl rfl (g:=?_)|refine GoR.fieldV' rfl rfl rfl rfl rfl (g:=?_))|(refine GoR.kk 4 rfl ?_;first|refine GoR.eq rfl rfl rfl rfl rfl rfl ?_|refine GoR.ne rfl rfl rfl rfl rfl rfl ?_|refine GoR.lt rfl rfl rfl rfl rfl rfl ?_|refine GoR.le rfl rfl rfl rfl rfl rfl ?_|refine GoR.gt rfl rfl rfl rfl rfl rfl ?_|refine GoR.ge rfl rfl rfl rfl rfl rfl ?_|refine GoR.addN' rfl rfl rfl rfl rfl rfl (g:=?_)|refine GoR.subN' rfl rfl rfl rfl rfl rfl (g:=?_)|refine GoR.add' rfl rfl rfl rfl rfl rfl (g:=?_)|refine GoR.sub' rfl rfl rfl rfl rfl rfl (g:=?_)|refine GoR.addM' rfl rfl rfl rfl rfl rfl (g:=?_)|refine GoR.subM' rfl rfl rfl rfl rfl rfl (g:=?_)|refine GoR.mulM' rfl rfl rfl rfl rfl rfl (g:=?_)|refine GoR.shrN rfl rfl rfl rfl rfl rfl rfl ?_|refine GoR.structEq rfl rfl rfl rfl rfl rfl (by rfl) (by rfl) ?_|refine GoR.structNe rfl rfl rfl rfl rfl rfl (by rfl) (by rfl) ?_|refine GoR.strEq rfl rfl rfl rfl rfl rfl ?_|refine GoR.strNe rfl rfl rfl rfl rfl rfl ?_|refine GoR.remN' rfl rfl rfl rfl rfl rfl (g:=?_)|refine GoR.quoN' rfl rfl rfl rfl rfl rfl (g:=?_)|refine GoR.shlN' rfl rfl rfl rfl rfl rfl rfl (g:=?_)|refine GoR.orN' rfl rfl rfl rfl rfl rfl (g:=?_))|(refine GoR.kk 5 rfl ?_;first|refine GoR.len rfl rfl rfl rfl rfl ?_|refine GoR.lenStr rfl rfl rfl rfl rfl ?_|refine GoR.capB rfl rfl rfl rfl rfl ?_)|(refine GoR.kk 7 rfl ?_;first|refine GoR.pickE' rfl rfl rfl rfl rfl (hx:=rfl) (hy:=rfl) (g:=?_)|refine GoR.pickN' rfl rfl rfl rfl rfl (hx:=rfl) (hy:=rfl) (g:=?_)|refine GoR.pickB rfl rfl rfl rfl rfl rfl rfl ?_)|(refine GoR.kk 8 rfl ?_;first|refine GoR.boxA rfl rfl rfl rfl rfl ?_|refine GoR.boxS rfl rfl rfl rfl rfl rfl ?_|refine GoR.alloc rfl rfl rfl rfl ?_)|(refine GoR.kk 9 rfl ?_;first|refine GoR.strV' rfl rfl rfl rfl rfl (g:=?_)|refine GoR.conv_u8 rfl rfl rfl rfl rfl ?_|refine GoR.convW' rfl rfl rfl rfl rfl (g:=?_)|refine GoR.conv_u16 rfl rfl rfl rfl rfl ?_|refine GoR.conv_u32 rfl rfl rfl rfl rfl ?_)|(refine GoR.kk 10 rfl ?_;first|refine GoR.build' rfl rfl rfl rfl rfl rfl (g:=?_))|(refine GoR.kk 11 rfl ?_;first|refine GoR.extract rfl rfl rfl rfl rfl rfl ?_|refine GoR.not rfl rfl rfl rfl rfl ?_|refine GoR.nilCheck rfl rfl rfl rfl rfl ?_|refine GoR.nilCheckF rfl rfl rfl rfl rfl ?_|refine GoR.makeFunc rfl rfl rfl rfl rfl rfl ?_)|(refine Go.kk 0 rfl ?_;refine Go.seq ?_)|(refine Go.kk 1 rfl ?_;refine Go.region (by kernel_rfl) rfl ?_)|(refine Go.kk 3 rfl ?_;first|refine Go.cond_t' rfl (g:=?_)|refine Go.cond_f' rfl (g:=?_))|(refine Go.kk 4 rfl ?_;refine Go.block ?_)|(refine Go.kk 5 rfl ?_;first|refine Go.skip ?_|refine Go.ret ?_|refine Go.exit ?_|refine Go.scope ?_)|refine Go.leave_normal ?_|refine Go.leave_same ?_|refine Go.leave_ret ?_|refine Go.ret_code ?_|refine Go.exit_code ?_|refine Go.leave_other rfl ?_|refine Go.sc_normal ?_|refine Go.sc_ret ?_|refine Go.sc_exit ?_|refine Go.exit_back ?_|refine Go.ret_back ?_))
  obtain ⟨pr, hpr⟩ : ∃ pr, pr = (hasN t.c t.ks p.t || decide (65535 < spanN t.c p.t)) := ⟨_, rfl⟩
  refine Go.join1 (α := AHeap) (fun _ => [(6, .bool pr), (5, .int .i64 (limitI A t p)), (3, .pointer (some ⟨h.n, 0, none⟩)), (0, .pointer (some ⟨xb, 0, none⟩))]) (fun _ => []) (fun x => x) (fun x => Same h2 x) ?_ ?_
  · generalize limitI A t p = L at *
    (refine Go.run (g:=?_))
    refine GoR.call rfl rfl rfl rfl rfl rfl rfl (((has_spec A.sb r t.c t.ks t.da t.dc t.ds n0 p.t b1 _ k1.G).argA).mono ?_)
    rintro _ h3 rfl s3
    cases hH : hasN t.c t.ks p.t with
    | true =>
      rw [hH, Bool.true_or] at hpr
      subst hpr
      (refine Go.run (g:=?_))
      exact Go.joined h3 s3 ⟨rfl, rfl, rfl, rfl, trivial⟩ rfl rfl
    | false =>
      rw [hH, Bool.false_or] at hpr
      have k3 := k1.same s3
      have gx3 := k3.X.xc
      have g33 := s3.get g3
      (refine Go.run (g:=?_))
      refine GoR.call rfl rfl rfl rfl rfl rfl rfl (((cum_spec A.sb r t.c t.ks t.da t.dc t.ds n0 _ k3.G).argA).mono ?_)
      rintro _ h4 ⟨rfl, rfl⟩ -
      (refine Go.run (g:=?_))
      refine GoR.call rfl rfl rfl rfl rfl rfl rfl (((span_spec t.c p.t kb b1 _).argA).mono ?_)
      rintro _ h5 ⟨rfl, rfl⟩ -
      by_cases hsp : 65535 < spanN t.c p.t
      · rw [decide_eq_true hsp] at hpr
        subst hpr
        (refine Go.run (g:=?_))
        rw [decide_eq_true (show (65535 : Int) < ((spanN t.c p.t : Nat) : Int) by omega)]
        exact Go.joined h5 s3 ⟨rfl, rfl, rfl, rfl, trivial⟩ rfl rfl
      · rw [decide_eq_false hsp] at hpr
        subst hpr
        (refine Go.run (g:=?_))
        rw [decide_eq_false (show ¬ (65535 : Int) < ((spanN t.c p.t : Nat) : Int) by omega)]
        exact Go.joined h5 s3 ⟨rfl, rfl, rfl, rfl, trivial⟩ rfl rfl
  intro h3 s3
  have k3 := k1.same s3
  have gx3 := k3.X.xc
  have g33 := s3.get g3
  have hz3 := hz1.same s3
  have n3 := s3.1
  clear k1 gx1 g3 hz1 s3
  (repeat (first|refine GoR.end ?_|(refine GoR.gd rfl ?_;first|refine GoR.wanted' rfl rfl rfl rfl (g:=?_)|refine GoR.unwanted' rfl rfl rfl rfl (hd:=rfl) (hN:=rfl) (g:=?_)|refine GoR.unwantedU rfl rfl rfl rfl rfl rfl ?_)|(refine GoR.kk 0 rfl ?_;first|refine GoR.move rfl rfl rfl rfl rfl ?_|refine GoR.assign rfl rfl rfl rfl rfl ?_)|(refine GoR.kk 1 rfl ?_;first|refine GoR.load' rfl rfl rfl rfl rfl (g:=?_)|refine GoR.loadA' rfl rfl rfl rfl rfl (hv:=rfl) (g:=?_)|refine GoR.loadV' rfl rfl rfl rfl rfl (g:=?_)|refine GoR.loadVN' rfl rfl rfl rfl rfl (g:=?_))|(refine GoR.kk 2 rfl ?_;first|refine GoR.store' rfl rfl rfl rfl rfl (hl:=rfl) (h1:=rfl) (h3:=rfl) (g:=?_))|(refine GoR.kk 3 rfl ?_;first|refine GoR.fieldAddr rfl rfl rfl rfl rfl ?_|refine GoR.indexN' rfl rfl rfl rfl rfl rfl (g:=?_)|refine GoR.indexNs' rfl rfl rfl rfl rfl rfl (g:=?_)|refine GoR.indexV' rfl rfl rfl rfl rfl rfl (g:=?_)|refine GoR.indexA' rfl rfl rfl rfl rfl rfl (g:=?_)|refine GoR.fieldV' rfl rfl rfl rfl rfl (g:=?_))|(refine GoR.kk 4 rfl ?_;first|refine GoR.eq rfl rfl rfl rfl rfl rfl ?_|refine GoR.ne rfl rfl rfl rfl rfl rfl ?_|refine GoR.lt rfl rfl rfl rfl rfl rfl ?_|refine GoR.le rfl rfl rfl rfl rfl rfl ?_|refine GoR.gt rfl rfl rfl rfl rfl rfl ?_|refine GoR.ge rfl rfl rfl rfl rfl rfl ?_|refine GoR.addN' rfl rfl rfl rfl rfl rfl (g:=?_)|refine GoR.subN' rfl rfl rfl rfl rfl rfl (g:=?_)|refine GoR.add' rfl rfl rfl rfl rfl rfl (g:=?_)|refine GoR.sub' rfl rfl rfl rfl rfl rfl (g:=?_)|refine GoR.addM' rfl rfl rfl rfl rfl rfl (g:=?_)|refine GoR.subM' rfl rfl rfl rfl rfl rfl (g:=?_)|refine GoR.mulM' rfl rfl rfl rfl rfl rfl (g:=?_)|refine GoR.shrN rfl rfl rfl rfl rfl rfl rfl ?_|refine GoR.structEq rfl rfl rfl rfl rfl rfl (by rfl) (by rfl) ?_|refine GoR.structNe rfl rfl rfl rfl rfl rfl (by rfl) (by rfl) ?_|refine GoR.strEq rfl rfl rfl rfl rfl rfl ?_|refine GoR.strNe rfl rfl rfl rfl rfl rfl ?_|refine GoR.remN' rfl rfl rfl rfl rfl rfl (g:=?_)|refine GoR.quoN' rfl rfl rfl rfl rfl rfl (g:=?_)|refine GoR.shlN' rfl rfl rfl rfl rfl rfl rfl (g:=?_)|refine GoR.orN' rfl rfl rfl rfl rfl rfl (g:=?_))|(refine GoR.kk 5 rfl ?_;first|refine GoR.len rfl rfl rfl rfl rfl ?_|refine GoR.lenStr rfl rfl rfl rfl rfl ?_|refine GoR.capB rfl rfl rfl rfl rfl ?_)|(refine GoR.kk 7 rfl ?_;first|refine GoR.pickE' rfl rfl rfl rfl rfl (hx:=rfl) (hy:=rfl) (g:=?_)|refine GoR.pickN' rfl rfl rfl rfl rfl (hx:=rfl) (hy:=rfl) (g:=?_)|refine GoR.pickB rfl rfl rfl rfl rfl rfl rfl ?_)|(refine GoR.kk 8 rfl ?_;first|refine GoR.boxA rfl rfl rfl rfl rfl ?_|refine GoR.boxS rfl rfl rfl rfl rfl rfl ?_|refine GoR.alloc rfl rfl rfl rfl ?_)|(refine GoR.kk 9 rfl ?_;first|refine GoR.strV' rfl rfl rfl rfl rfl (g:=?_)|refine GoR.conv_u8 rfl rfl rfl rfl rfl ?_|refine GoR.convW' rfl rfl rfl rfl rfl (g:=?_)|refine GoR.conv_u16 rfl rfl rfl rfl rfl ?_|refine GoR.conv_u32 rfl rfl rfl rfl rfl ?_)|(refine GoR.kk 10 rfl ?_;first|refine GoR.build' rfl rfl rfl rfl rfl rfl (g:=?_))|(refine GoR.kk 11 rfl ?_;first|refine GoR.extract rfl rfl rfl rfl rfl rfl ?_|refine GoR.not rfl rfl rfl rfl rfl ?_|refine GoR.nilCheck rfl rfl rfl rfl rfl ?_|refine GoR.nilCheckF rfl rfl rfl rfl rfl ?_|refine GoR.makeFunc rfl rfl rfl rfl rfl rfl ?_)|(refine Go.kk 0 rfl ?_;refine Go.seq ?_)|(refine Go.kk 1 rfl ?_;refine Go.region (by kernel_rfl) rfl ?_)|(refine Go.kk 3 rfl ?_;first|refine Go.cond_t' rfl (g:=?_)|refine Go.cond_f' rfl (g:=?_))|(refine Go.kk 4 rfl ?_;refine Go.block ?_)|(refine Go.kk 5 rfl ?_;first|refine Go.skip ?_|refine Go.ret ?_|refine Go.exit ?_|refine Go.scope ?_)|refine Go.leave_normal ?_|refine Go.leave_same ?_|refine Go.leave_ret ?_|refine Go.ret_code ?_|refine Go.exit_code ?_|refine Go.leave_other rfl ?_|refine Go.sc_normal ?_|refine Go.sc_ret ?_|refine Go.sc_exit ?_|refine Go.exit_back ?_|refine Go.ret_back ?_))
  refine Go.join2 (α := Unit) (fun _ => [(3, .pointer (some ⟨h.n, 0, none⟩)), (0, .pointer (some ⟨xb, 0, none⟩))]) (fun _ => []) (fun _ => h3) (fun _ => pr = true ∨ (t.held : Int) + p.z.length ≤ limitI A t p) ?_ ?_
  · cases hp1 : pr with
    | true =>
      (refine Go.run (g:=?_))
      exact Go.joined () (.inl rfl) ⟨rfl, rfl, trivial⟩ rfl rfl
    | false =>
      have hih := iheld_spec xb A r mr t n0 h3 k3 (by omega)
      have hno : hasN t.c t.ks p.t = false ∧ ¬ 65535 < spanN t.c p.t := by
        rw [hp1] at hpr
        have := hpr.symm
        rw [Bool.or_eq_false_iff] at this
        exact ⟨this.1, of_decide_eq_false this.2⟩
      (refine Go.run (g:=?_))
      refine GoR.call rfl rfl rfl rfl rfl rfl rfl (((hih).argA).mono ?_)
      rintro _ h4 ⟨rfl, rfl⟩ -
      rcases Int.lt_or_le (limitI A t p) ((t.held : Int) + p.z.length) with hf | hf
      · (refine Go.run (g:=?_))
        (first|refine Go.finT (by first|exact .inr rfl|exact .inl rfl) rfl ?_|refine Go.fin1 (by first|exact .inr rfl|exact .inl rfl) rfl (hq:=?_))
        exact ⟨7, t, rfl, .full h0 (by rw [hno.1]; decide) hno.2 hf, k3⟩
      · (refine Go.run (g:=?_))
        exact Go.joined () (.inr hf) ⟨rfl, rfl, trivial⟩ rfl rfl
  rintro - hacc
  obtain ⟨code, c', ks', ds', hA⟩ : ∃ code c' ks' ds', addN t.c t.ks t.ds p.t = (code, c', ks', ds') := ⟨_, _, _, _, rfl⟩
  (repeat (first|refine GoR.end ?_|(refine GoR.gd rfl ?_;first|refine GoR.wanted' rfl rfl rfl rfl (g:=?_)|refine GoR.unwanted' rfl rfl rfl rfl (hd:=rfl) (hN:=rfl) (g:=?_)|refine GoR.unwantedU rfl rfl rfl rfl rfl rfl ?_)|(refine GoR.kk 0 rfl ?_;first|refine GoR.move rfl rfl rfl rfl rfl ?_|refine GoR.assign rfl rfl rfl rfl rfl ?_)|(refine GoR.kk 1 rfl ?_;first|refine GoR.load' rfl rfl rfl rfl rfl (g:=?_)|refine GoR.loadA' rfl rfl rfl rfl rfl (hv:=rfl) (g:=?_)|refine GoR.loadV' rfl rfl rfl rfl rfl (g:=?_)|refine GoR.loadVN' rfl rfl rfl rfl rfl (g:=?_))|(refine GoR.kk 2 rfl ?_;first|refine GoR.store' rfl rfl rfl rfl rfl (hl:=rfl) (h1:=rfl) (h3:=rfl) (g:=?_))|(refine GoR.kk 3 rfl ?_;first|refine GoR.fieldAddr rfl rfl rfl rfl rfl ?_|refine GoR.indexN' rfl rfl rfl rfl rfl rfl (g:=?_)|refine GoR.indexNs' rfl rfl rfl rfl rfl rfl (g:=?_)|refine GoR.indexV' rfl rfl rfl rfl rfl rfl (g:=?_)|refine GoR.indexA' rfl rfl rfl rfl rfl rfl (g:=?_)|refine GoR.fieldV' rfl rfl rfl rfl rfl (g:=?_))|(refine GoR.kk 4 rfl ?_;first|refine GoR.eq rfl rfl rfl rfl rfl rfl ?_|refine GoR.ne rfl rfl rfl rfl rfl rfl ?_|refine GoR.lt rfl rfl rfl rfl rfl rfl ?_|refine GoR.le rfl rfl rfl rfl rfl rfl ?_|refine GoR.gt rfl rfl rfl rfl rfl rfl ?_|refine GoR.ge rfl rfl rfl rfl rfl rfl ?_|refine GoR.addN' rfl rfl rfl rfl rfl rfl (g:=?_)|refine GoR.subN' rfl rfl rfl rfl rfl rfl (g:=?_)|refine GoR.add' rfl rfl rfl rfl rfl rfl (g:=?_)|refine GoR.sub' rfl rfl rfl rfl rfl rfl (g:=?_)|refine GoR.addM' rfl rfl rfl rfl rfl rfl (g:=?_)|refine GoR.subM' rfl rfl rfl rfl rfl rfl (g:=?_)|refine GoR.mulM' rfl rfl rfl rfl rfl rfl (g:=?_)|refine GoR.shrN rfl rfl rfl rfl rfl rfl rfl ?_|refine GoR.structEq rfl rfl rfl rfl rfl rfl (by rfl) (by rfl) ?_|refine GoR.structNe rfl rfl rfl rfl rfl rfl (by rfl) (by rfl) ?_|refine GoR.strEq rfl rfl rfl rfl rfl rfl ?_|refine GoR.strNe rfl rfl rfl rfl rfl rfl ?_|refine GoR.remN' rfl rfl rfl rfl rfl rfl (g:=?_)|refine GoR.quoN' rfl rfl rfl rfl rfl rfl (g:=?_)|refine GoR.shlN' rfl rfl rfl rfl rfl rfl rfl (g:=?_)|refine GoR.orN' rfl rfl rfl rfl rfl rfl (g:=?_))|(refine GoR.kk 5 rfl ?_;first|refine GoR.len rfl rfl rfl rfl rfl ?_|refine GoR.lenStr rfl rfl rfl rfl rfl ?_|refine GoR.capB rfl rfl rfl rfl rfl ?_)|(refine GoR.kk 7 rfl ?_;first|refine GoR.pickE' rfl rfl rfl rfl rfl (hx:=rfl) (hy:=rfl) (g:=?_)|refine GoR.pickN' rfl rfl rfl rfl rfl (hx:=rfl) (hy:=rfl) (g:=?_)|refine GoR.pickB rfl rfl rfl rfl rfl rfl rfl ?_)|(refine GoR.kk 8 rfl ?_;first|refine GoR.boxA rfl rfl rfl rfl rfl ?_|refine GoR.boxS rfl rfl rfl rfl rfl rfl ?_|refine GoR.alloc rfl rfl rfl rfl ?_)|(refine GoR.kk 9 rfl ?_;first|refine GoR.strV' rfl rfl rfl rfl rfl (g:=?_)|refine GoR.conv_u8 rfl rfl rfl rfl rfl ?_|refine GoR.convW' rfl rfl rfl rfl rfl (g:=?_)|refine GoR.conv_u16 rfl rfl rfl rfl rfl ?_|refine GoR.conv_u32 rfl rfl rfl rfl rfl ?_)|(refine GoR.kk 10 rfl ?_;first|refine GoR.build' rfl rfl rfl rfl rfl rfl (g:=?_))|(refine GoR.kk 11 rfl ?_;first|refine GoR.extract rfl rfl rfl rfl rfl rfl ?_|refine GoR.not rfl rfl rfl rfl rfl ?_|refine GoR.nilCheck rfl rfl rfl rfl rfl ?_|refine GoR.nilCheckF rfl rfl rfl rfl rfl ?_|refine GoR.makeFunc rfl rfl rfl rfl rfl rfl ?_)|(refine Go.kk 0 rfl ?_;refine Go.seq ?_)|(refine Go.kk 1 rfl ?_;refine Go.region (by kernel_rfl) rfl ?_)|(refine Go.kk 3 rfl ?_;first|refine Go.cond_t' rfl (g:=?_)|refine Go.cond_f' rfl (g:=?_))|(refine Go.kk 4 rfl ?_;refine Go.block ?_)|(refine Go.kk 5 rfl ?_;first|refine Go.skip ?_|refine Go.ret ?_|refine Go.exit ?_|refine Go.scope ?_)|refine Go.leave_normal ?_|refine Go.leave_same ?_|refine Go.leave_ret ?_|refine Go.ret_code ?_|refine Go.exit_code ?_|refine Go.leave_other rfl ?_|refine Go.sc_normal ?_|refine Go.sc_ret ?_|refine Go.sc_exit ?_|refine Go.exit_back ?_|refine Go.ret_back ?_))
  refine Go.kk 2 rfl ?_
  refine Go.loud (by kernel_rfl) rfl ?_
  (refine Go.runL (g:=?_))
  refine GoL.call rfl rfl rfl rfl rfl rfl rfl (((add_specE A.sb r t.c t.ks t.da t.dc t.ds n0 p.t b1 hds _ (by omega) k3.G hA).argA).mono ?_)
  rintro _ h4 ⟨rfl, da4, dc4, G4, bb4⟩ k4
  refine ⟨fun j hj => .inl (by simp only [List.mem_append]; exact .inl (.inr (List.mem_append.1 hj))), ?_⟩
  have n4 := k4.1
  have kA := k3.setG k4 G4
  have g34 := k4.get g33 (fun q => by have := glt _ q; omega)
  have hz4 := hz3.keeps k4 (fun i hi q => by have := k3.G.owns i q; have := hpo i hi; omega)
  have hdis : ∀ b ∈ [A.sb, r] ++ blk t.da, b ≠ h.n ∧ b ≠ xb := fun b hb => by
    have := glt b hb
    exact ⟨by omega, fun e => k3.gx b hb (by simp [e])⟩
  have hdis2 := hdis
  (refine Go.runL (g:=?_))
  refine GoL.end_ (hl := by (simp only [List.nil_append, List.cons_append]); repeat (first | exact loudP.nil | refine loudP.none ?_ | refine loudP.new (fun _ hb => absurd hb List.not_mem_nil) ?_ | refine loudP.row (by repeat (first | exact loudRowP.nil | refine loudRowP.none ?_ | refine loudRowP.bef (by decide +kernel) ?_ | refine loudRowP.apart (by first | exact .inl rfl | exact .inr (by simp)) rfl (fun i hi => by first | (have hx := hdis _ hi; first | (simp; fail_if_success focus skip) | (simp; omega)) | (have hx := hdis2 _ hi; first | (simp; fail_if_success focus skip) | (simp; omega))) ?_)) ?_)) ?_
  clear hdis hdis2 k4 G4 hz3 g33 gx3 k3
  have gxA := kA.X.xc
  have plim := hacc
  by_cases hcode : code = 0
  case neg =>
    (refine Go.run (g:=?_))
    (first|refine Go.finT (by first|exact .inr rfl|exact .inl rfl) rfl ?_|refine Go.fin1 (by first|exact .inr rfl|exact .inl rfl) rfl (hq:=?_))
    exact ⟨4, _, rfl, .told h0 hA hcode, kA⟩
  subst hcode
  have hprf : pr = false := by
    rw [hpr]
    cases hH : hasN t.c t.ks p.t with
    | true => rw [addN_has t.ds hH] at hA; cases hA
    | false =>
      rw [Bool.false_or]
      refine decide_eq_false fun q => ?_
      rw [addN_far t.ds (by rw [hH]; decide) q] at hA
      cases hA
  have hlim : (t.held : Int) + p.z.length ≤ limitI A t p := by
    rcases hacc with q | q
    · rw [hprf] at q; cases q
    · exact q
  clear hacc plim hpr hprf hL1
  rcases Nat.lt_or_ge p.sid A.st with hsd | hsd
  case inr =>
    (refine Go.run (g:=?_))
    (first|refine Go.finT (by first|exact .inr rfl|exact .inl rfl) rfl ?_|refine Go.fin1 (by first|exact .inr rfl|exact .inl rfl) rfl (hq:=?_))
    exact ⟨100, _, rfl, .stream h0 hA hlim hsd, kA⟩
  have hheld : heldN t.kept + p.z.length ≤ 1000000000 := by unfold IT.held at hb; omega
  (repeat (first|refine GoR.end ?_|(refine GoR.gd rfl ?_;first|refine GoR.wanted' rfl rfl rfl rfl (g:=?_)|refine GoR.unwanted' rfl rfl rfl rfl (hd:=rfl) (hN:=rfl) (g:=?_)|refine GoR.unwantedU rfl rfl rfl rfl rfl rfl ?_)|(refine GoR.kk 0 rfl ?_;first|refine GoR.move rfl rfl rfl rfl rfl ?_|refine GoR.assign rfl rfl rfl rfl rfl ?_)|(refine GoR.kk 1 rfl ?_;first|refine GoR.load' rfl rfl rfl rfl rfl (g:=?_)|refine GoR.loadA' rfl rfl rfl rfl rfl (hv:=rfl) (g:=?_)|refine GoR.loadV' rfl rfl rfl rfl rfl (g:=?_)|refine GoR.loadVN' rfl rfl rfl rfl rfl (g:=?_))|(refine GoR.kk 2 rfl ?_;first|refine GoR.store' rfl rfl rfl rfl rfl (hl:=rfl) (h1:=rfl) (h3:=rfl) (g:=?_))|(refine GoR.kk 3 rfl ?_;first|refine GoR.fieldAddr rfl rfl rfl rfl rfl ?_|refine GoR.indexN' rfl rfl rfl rfl rfl rfl (g:=?_)|refine GoR.indexNs' rfl rfl rfl rfl rfl rfl (g:=?_)|refine GoR.indexV' rfl rfl rfl rfl rfl rfl (g:=?_)|refine GoR.indexA' rfl rfl rfl rfl rfl rfl (g:=?_)|refine GoR.fieldV' rfl rfl rfl rfl rfl (g:=?_))|(refine GoR.kk 4 rfl ?_;first|refine GoR.eq rfl rfl rfl rfl rfl rfl ?_|refine GoR.ne rfl rfl rfl rfl rfl rfl ?_|refine GoR.lt rfl rfl rfl rfl rfl rfl ?_|refine GoR.le rfl rfl rfl rfl rfl rfl ?_|refine GoR.gt rfl rfl rfl rfl rfl rfl ?_|refine GoR.ge rfl rfl rfl rfl rfl rfl ?_|refine GoR.addN' rfl rfl rfl rfl rfl rfl (g:=?_)|refine GoR.subN' rfl rfl rfl rfl rfl rfl (g:=?_)|refine GoR.add' rfl rfl rfl rfl rfl rfl (g:=?_)|refine GoR.sub' rfl rfl rfl rfl rfl rfl (g:=?_)|refine GoR.addM' rfl rfl rfl rfl rfl rfl (g:=?_)|refine GoR.subM' rfl rfl rfl rfl rfl rfl (g:=?_)|refine GoR.mulM' rfl rfl rfl rfl rfl rfl (g:=?_)|refine GoR.shrN rfl rfl rfl rfl rfl rfl rfl ?_|refine GoR.structEq rfl rfl rfl rfl rfl rfl (by rfl) (by rfl) ?_|refine GoR.structNe rfl rfl rfl rfl rfl rfl (by rfl) (by rfl) ?_|refine GoR.strEq rfl rfl rfl rfl rfl rfl ?_|refine GoR.strNe rfl rfl rfl rfl rfl rfl ?_|refine GoR.remN' rfl rfl rfl rfl rfl rfl (g:=?_)|refine GoR.quoN' rfl rfl rfl rfl rfl rfl (g:=?_)|refine GoR.shlN' rfl rfl rfl rfl rfl rfl rfl (g:=?_)|refine GoR.orN' rfl rfl rfl rfl rfl rfl (g:=?_))|(refine GoR.kk 5 rfl ?_;first|refine GoR.len rfl rfl rfl rfl rfl ?_|refine GoR.lenStr rfl rfl rfl rfl rfl ?_|refine GoR.capB rfl rfl rfl rfl rfl ?_)|(refine GoR.kk 7 rfl ?_;first|refine GoR.pickE' rfl rfl rfl rfl rfl (hx:=rfl) (hy:=rfl) (g:=?_)|refine GoR.pickN' rfl rfl rfl rfl rfl (hx:=rfl) (hy:=rfl) (g:=?_)|refine GoR.pickB rfl rfl rfl rfl rfl rfl rfl ?_)|(refine GoR.kk 8 rfl ?_;first|refine GoR.boxA rfl rfl rfl rfl rfl ?_|refine GoR.boxS rfl rfl rfl rfl rfl rfl ?_|refine GoR.alloc rfl rfl rfl rfl ?_)|(refine GoR.kk 9 rfl ?_;first|refine GoR.strV' rfl rfl rfl rfl rfl (g:=?_)|refine GoR.conv_u8 rfl rfl rfl rfl rfl ?_|refine GoR.convW' rfl rfl rfl rfl rfl (g:=?_)|refine GoR.conv_u16 rfl rfl rfl rfl rfl ?_|refine GoR.conv_u32 rfl rfl rfl rfl rfl ?_)|(refine GoR.kk 10 rfl ?_;first|refine GoR.build' rfl rfl rfl rfl rfl rfl (g:=?_))|(refine GoR.kk 11 rfl ?_;first|refine GoR.extract rfl rfl rfl rfl rfl rfl ?_|refine GoR.not rfl rfl rfl rfl rfl ?_|refine GoR.nilCheck rfl rfl rfl rfl rfl ?_|refine GoR.nilCheckF rfl rfl rfl rfl rfl ?_|refine GoR.makeFunc rfl rfl rfl rfl rfl rfl ?_)|(refine Go.kk 0 rfl ?_;refine Go.seq ?_)|(refine Go.kk 1 rfl ?_;refine Go.region (by kernel_rfl) rfl ?_)|(refine Go.kk 3 rfl ?_;first|refine Go.cond_t' rfl (g:=?_)|refine Go.cond_f' rfl (g:=?_))|(refine Go.kk 4 rfl ?_;refine Go.block ?_)|(refine Go.kk 5 rfl ?_;first|refine Go.skip ?_|refine Go.ret ?_|refine Go.exit ?_|refine Go.scope ?_)|refine Go.leave_normal ?_|refine Go.leave_same ?_|refine Go.leave_ret ?_|refine Go.ret_code ?_|refine Go.exit_code ?_|refine Go.leave_other rfl ?_|refine Go.sc_normal ?_|refine Go.sc_ret ?_|refine Go.sc_exit ?_|refine Go.exit_back ?_|refine Go.ret_back ?_))
  refine Go.kk 2 rfl ?_
  refine Go.drawnQ rfl (by kernel_rfl) rfl ?_
  (repeat (first|refine GoR.end ?_|(refine GoR.gd rfl ?_;first|refine GoR.wanted' rfl rfl rfl rfl (g:=?_)|refine GoR.unwanted' rfl rfl rfl rfl (hd:=rfl) (hN:=rfl) (g:=?_)|refine GoR.unwantedU rfl rfl rfl rfl rfl rfl ?_)|(refine GoR.kk 0 rfl ?_;first|refine GoR.move rfl rfl rfl rfl rfl ?_|refine GoR.assign rfl rfl rfl rfl rfl ?_)|(refine GoR.kk 1 rfl ?_;first|refine GoR.load' rfl rfl rfl rfl rfl (g:=?_)|refine GoR.loadA' rfl rfl rfl rfl rfl (hv:=rfl) (g:=?_)|refine GoR.loadV' rfl rfl rfl rfl rfl (g:=?_)|refine GoR.loadVN' rfl rfl rfl rfl rfl (g:=?_))|(refine GoR.kk 2 rfl ?_;first|refine GoR.store' rfl rfl rfl rfl rfl (hl:=rfl) (h1:=rfl) (h3:=rfl) (g:=?_))|(refine GoR.kk 3 rfl ?_;first|refine GoR.fieldAddr rfl rfl rfl rfl rfl ?_|refine GoR.indexN' rfl rfl rfl rfl rfl rfl (g:=?_)|refine GoR.indexNs' rfl rfl rfl rfl rfl rfl (g:=?_)|refine GoR.indexV' rfl rfl rfl rfl rfl rfl (g:=?_)|refine GoR.indexA' rfl rfl rfl rfl rfl rfl (g:=?_)|refine GoR.fieldV' rfl rfl rfl rfl rfl (g:=?_))|(refine GoR.kk 4 rfl ?_;first|refine GoR.eq rfl rfl rfl rfl rfl rfl ?_|refine GoR.ne rfl rfl rfl rfl rfl rfl ?_|refine GoR.lt rfl rfl rfl rfl rfl rfl ?_|refine GoR.le rfl rfl rfl rfl rfl rfl ?_|refine GoR.gt rfl rfl rfl rfl rfl rfl ?_|refine GoR.ge rfl rfl rfl rfl rfl rfl ?_|refine GoR.addN' rfl rfl rfl rfl rfl rfl (g:=?_)|refine GoR.subN' rfl rfl rfl rfl rfl rfl (g:=?_)|refine GoR.add' rfl rfl rfl rfl rfl rfl (g:=?_)|refine GoR.sub' rfl rfl rfl rfl rfl rfl (g:=?_)|refine GoR.addM' rfl rfl rfl rfl rfl rfl (g:=?_)|refine GoR.subM' rfl rfl rfl rfl rfl rfl (g:=?_)|refine GoR.mulM' rfl rfl rfl rfl rfl rfl (g:=?_)|refine GoR.shrN rfl rfl rfl rfl rfl rfl rfl ?_|refine GoR.structEq rfl rfl rfl rfl rfl rfl (by rfl) (by rfl) ?_|refine GoR.structNe rfl rfl rfl rfl rfl rfl (by rfl) (by rfl) ?_|refine GoR.strEq rfl rfl rfl rfl rfl rfl ?_|refine GoR.strNe rfl rfl rfl rfl rfl rfl ?_|refine GoR.remN' rfl rfl rfl rfl rfl rfl (g:=?_)|refine GoR.quoN' rfl rfl rfl rfl rfl rfl (g:=?_)|refine GoR.shlN' rfl rfl rfl rfl rfl rfl rfl (g:=?_)|refine GoR.orN' rfl rfl rfl rfl rfl rfl (g:=?_))|(refine GoR.kk 5 rfl ?_;first|refine GoR.len rfl rfl rfl rfl rfl ?_|refine GoR.lenStr rfl rfl rfl rfl rfl ?_|refine GoR.capB rfl rfl rfl rfl rfl ?_)|(refine GoR.kk 7 rfl ?_;first|refine GoR.pickE' rfl rfl rfl rfl rfl (hx:=rfl) (hy:=rfl) (g:=?_)|refine GoR.pickN' rfl rfl rfl rfl rfl (hx:=rfl) (hy:=rfl) (g:=?_)|refine GoR.pickB rfl rfl rfl rfl rfl rfl rfl ?_)|(refine GoR.kk 8 rfl ?_;first|refine GoR.boxA rfl rfl rfl rfl rfl ?_|refine GoR.boxS rfl rfl rfl rfl rfl rfl ?_|refine GoR.alloc rfl rfl rfl rfl ?_)|(refine GoR.kk 9 rfl ?_;first|refine GoR.strV' rfl rfl rfl rfl rfl (g:=?_)|refine GoR.conv_u8 rfl rfl rfl rfl rfl ?_|refine GoR.convW' rfl rfl rfl rfl rfl (g:=?_)|refine GoR.conv_u16 rfl rfl rfl rfl rfl ?_|refine GoR.conv_u32 rfl rfl rfl rfl rfl ?_)|(refine GoR.kk 10 rfl ?_;first|refine GoR.build' rfl rfl rfl rfl rfl rfl (g:=?_))|(refine GoR.kk 11 rfl ?_;first|refine GoR.extract rfl rfl rfl rfl rfl rfl ?_|refine GoR.not rfl rfl rfl rfl rfl ?_|refine GoR.nilCheck rfl rfl rfl rfl rfl ?_|refine GoR.nilCheckF rfl rfl rfl rfl rfl ?_|refine GoR.makeFunc rfl rfl rfl rfl rfl rfl ?_)|(refine Go.kk 0 rfl ?_;refine Go.seq ?_)|(refine Go.kk 1 rfl ?_;refine Go.region (by kernel_rfl) rfl ?_)|(refine Go.kk 3 rfl ?_;first|refine Go.cond_t' rfl (g:=?_)|refine Go.cond_f' rfl (g:=?_))|(refine Go.kk 4 rfl ?_;refine Go.block ?_)|(refine Go.kk 5 rfl ?_;first|refine Go.skip ?_|refine Go.ret ?_|refine Go.exit ?_|refine Go.scope ?_)|refine Go.leave_normal ?_|refine Go.leave_same ?_|refine Go.leave_ret ?_|refine Go.ret_code ?_|refine Go.exit_code ?_|refine Go.leave_other rfl ?_|refine Go.sc_normal ?_|refine Go.sc_ret ?_|refine Go.sc_exit ?_|refine Go.exit_back ?_|refine Go.ret_back ?_))
  refine Go.kk 2 rfl ?_
  refine Go.loud (by kernel_rfl) rfl ?_
  (refine Go.runL (g:=?_))
  refine GoL.call rfl rfl rfl rfl rfl rfl rfl (((put_spec A.jb mr t.kept n0 p ⟨b1, b2, b3, b4, b5⟩ hkl hheld _ (by omega) kA.J hz4).argA).mono ?_)
  rintro v5 h5 ⟨pa, pc, J5, V5⟩ k5
  refine ⟨fun j hj => .inl (List.mem_append_right _ hj), ?_⟩
  have n5 := k5.1
  have kB := kA.setJ k5 J5
  have hjd : ∀ b ∈ [A.jb, mr], b < h.n := fun b hb => by
    simp only [List.mem_cons, List.not_mem_nil, or_false] at hb
    rcases hb with rfl | rfl <;> omega
  have g35 := k5.get g34 (fun q => by have := hjd _ q; omega)
  have hdis : ∀ b ∈ [A.jb, mr], b ≠ h.n ∧ b ≠ xb ∧ b < h4.n := fun b hb => by
    have := hjd b hb
    refine ⟨by omega, fun e => ?_, by omega⟩
    simp only [List.mem_cons, List.not_mem_nil, or_false] at hb
    rcases hb with rfl | rfl
    · exact kA.jx.1 (by simp [e])
    · exact kA.jx.2 (by simp [e])
  have hdis2 := hdis
  cases hput : (putN t.kept { p with a := pa, cap := pc }).2 with
  | none =>
    rw [hput] at V5
    obtain rfl : v5 = _ := V5
    (refine Go.runL (g:=?_))
    refine GoL.store' rfl rfl rfl rfl rfl (hl:=rfl) (h1:=rfl) (h3:=rfl) (g:=?_)
    (refine Go.runL (g:=?_))
    refine GoL.end_ (hl := by (simp only [List.nil_append, List.cons_append]); repeat (first | exact loudP.nil | refine loudP.none ?_ | refine loudP.new (fun _ hb => absurd hb List.not_mem_nil) ?_ | refine loudP.row (by repeat (first | exact loudRowP.nil | refine loudRowP.none ?_ | refine loudRowP.bef (by decide +kernel) ?_ | refine loudRowP.apart (by first | exact .inl rfl | exact .inr (by simp)) rfl (fun i hi => by first | (have hx := hdis _ hi; first | (simp; fail_if_success focus skip) | (simp; omega)) | (have hx := hdis2 _ hi; first | (simp; fail_if_success focus skip) | (simp; omega))) ?_)) ?_)) ?_
    clear hdis hdis2
    refine Go.name ?_
    intro h6 e6
    have s6 : Same h5 h6 := by subst e6; exact ((Same.refl h5).push _).put (Nat.le_refl _) _
    clear e6
    (refine Go.run (g:=?_))
    (first|refine Go.finT (by first|exact .inr rfl|exact .inl rfl) rfl ?_|refine Go.fin1 (by first|exact .inr rfl|exact .inl rfl) rfl (hq:=?_))
    exact ⟨0, _, rfl, .part h0 hA hlim hsd hput, kB.same s6⟩
  | some ms =>
    obtain ⟨sid, un, ppid, D⟩ := ms
    rw [hput] at V5
    obtain ⟨ma, mc, rfl, sm5, om5⟩ := V5
    (refine Go.runL (g:=?_))
    refine GoL.store' rfl rfl rfl rfl rfl (hl:=rfl) (h1:=rfl) (h3:=rfl) (g:=?_)
    (refine Go.runL (g:=?_))
    refine GoL.end_ (hl := by (simp only [List.nil_append, List.cons_append]); repeat (first | exact loudP.nil | refine loudP.none ?_ | refine loudP.new (fun _ hb => absurd hb List.not_mem_nil) ?_ | refine loudP.row (by repeat (first | exact loudRowP.nil | refine loudRowP.none ?_ | refine loudRowP.bef (by decide +kernel) ?_ | refine loudRowP.apart (by first | exact .inl rfl | exact .inr (by simp)) rfl (fun i hi => by first | (have hx := hdis _ hi; first | (simp; fail_if_success focus skip) | (simp; omega)) | (have hx := hdis2 _ hi; first | (simp; fail_if_success focus skip) | (simp; omega))) ?_)) ?_)) ?_
    clear hdis hdis2
    refine Go.name ?_
    intro h6 e6
    have s6 : Same h5 h6 := by subst e6; exact ((Same.refl h5).push _).put (Nat.le_refl _) _
    have g76 : h6.get h5.n = some (.cells [.int .u16 (sid : Nat), .bool un, .int .u32 (ppid : Nat), .slice ma D.length mc] 39) := by subst e6; (first | assumption | exact AHeap.get_push_same _ _ | ((repeat first | exact AHeap.get_push_same _ _ | assumption | refine get_push_lt ?_ | exact AHeap.get_put_same _ (by first | omega | (simp only [AHeap.n_push, AHeap.n_put]; omega)) _ | exact get_put_self (by assumption) | apply get_put_self | refine get_put_other (by first | omega | (simp only [AHeap.n_push, AHeap.n_put]; omega)) ?_ | refine Same.get (by assumption) ?_ | refine Keeps.get (by assumption) ?_ (fun hi => by have hx := Own.out (by assumption) hi; omega)) ; fail_if_success focus skip) | fail)
    have n6 : h6.n = h5.n + 1 := by subst e6; rfl
    clear e6
    have kC := kB.same s6
    have sm6 := sm5.same s6
    obtain ⟨bs, bp⟩ := putN_bound kA.J.pb (show PB { p with a := pa, cap := pc } from ⟨b1, b2, b3, b4, b5⟩) hput
    have hph := putN_held t.kept { p with a := pa, cap := pc }
    rw [hput] at hph
    have hDl : lenS t.s + D.length ≤ 1000000000 := by
      have : heldN (putN t.kept { p with a := pa, cap := pc }).1 + D.length ≤ heldN t.kept + p.z.length := hph
      unfold IT.held at hb
      omega
    clear kA kB hph k5 J5 gxA s6 sm5
    (refine Go.run (g:=?_))
    refine GoR.callW rfl rfl rfl rfl rfl rfl rfl (((message_spec xb A t.ra t.rc (lenS t.s) t.s n0 ⟨sid, un, ppid, ma, mc, D⟩ p.ssn b4 hl hDl _ (by omega) kC.X ⟨bs, bp⟩ sm6).argA).mono ?_)
    rintro _ h7 ⟨ra7, rc7, X7, o7⟩ k7
    refine ⟨fun i hi => .inl (List.mem_append_left _ (List.mem_append_left _ hi)), ?_⟩
    cases hmsg : msgN t.s ⟨sid, un, ppid, ma, mc, D⟩ p.ssn with
    | none =>
      rw [hmsg] at X7
      have kD := kC.setX k7 X7
      (refine Go.run (g:=?_))
      (first|refine Go.finT (by first|exact .inr rfl|exact .inl rfl) rfl ?_|refine Go.fin1 (by first|exact .inr rfl|exact .inl rfl) rfl (hq:=?_))
      exact ⟨0, _, rfl, .whole (m := ⟨sid, un, ppid, ma, mc, D⟩) h0 hA hlim hsd hput (.inr ⟨hmsg, rfl⟩), kD⟩
    | some s' =>
      rw [hmsg] at X7
      have hml := msg_len hmsg
      have X7 : IX h7 xb A ra7 rc7 (lenS t.s + D.length) s' n0 := X7
      rw [show lenS t.s + D.length = lenS s' from hml.symm] at X7
      have kD := kC.setX k7 X7
      (refine Go.run (g:=?_))
      (first|refine Go.finT (by first|exact .inr rfl|exact .inl rfl) rfl ?_|refine Go.fin1 (by first|exact .inr rfl|exact .inl rfl) rfl (hq:=?_))
      exact ⟨0, _, rfl, .whole (m := ⟨sid, un, ppid, ma, mc, D⟩) h0 hA hlim hsd hput (.inl hmsg), kD⟩
end Go.Proofs.Ytccbmmnkiihkaaa
namespace Go.Proofs.Ytccbmmnkiihkaaa
set_option maxRecDepth 100000
attribute [local irreducible] Go GoR GoL
theorem settle_far (n : Nat) : ∀ (c : Nat) (ks : List Nat), c < 4294967296 → ∃ k, k ≤ n ∧ (settleN n c ks).1 = (c + k) % 4294967296 := by
  induction n with
  | zero => intro c ks hc; exact ⟨0, Nat.le_refl _, by rw [Nat.add_zero, Nat.mod_eq_of_lt hc]; rfl⟩
  | succ n ih =>
    intro c ks hc
    by_cases h : next32 c ∈ ks
    · obtain ⟨k, hk, e⟩ := ih (next32 c) (ks.erase (next32 c)) (next32_lt c)
      refine ⟨k + 1, by omega, ?_⟩
      rw [settleN_yes h, e]
      unfold next32
      omega
    · rw [settleN_no h]
      exact ⟨0, Nat.zero_le _, by rw [Nat.add_zero, Nat.mod_eq_of_lt hc]⟩
theorem addN_far2 {c t : Nat} {ks ds : List Nat} (hc : c < 4294967296) : ∃ k, k ≤ ks.length + 1 ∧ (addN c ks ds t).2.1 = (c + k) % 4294967296 := by
  by_cases h : hasN c ks t = true
  · rw [addN_has ds h]; exact ⟨0, Nat.zero_le _, by rw [Nat.add_zero, Nat.mod_eq_of_lt hc]⟩
  · by_cases h2 : 65535 < spanN c t
    · rw [addN_far ds h h2]; exact ⟨0, Nat.zero_le _, by rw [Nat.add_zero, Nat.mod_eq_of_lt hc]⟩
    · obtain ⟨X, hX⟩ : ∃ X, settleN (ks.length + 1) c (ks ++ [t]) = X := ⟨_, rfl⟩
      have := settle_far (ks.length + 1) c (ks ++ [t]) hc
      rw [hX] at this
      rw [addN_new ds h h2 hX]
      exact this
theorem drain_cnt : ∀ (n sid t : Nat) (w : WL) (rd : List IM), (drainN n sid t w rd).2.1.length + (drainN n sid t w rd).2.2.length = w.length + rd.length
  | 0, sid, t, w, rd => rfl
  | n + 1, sid, t, w, rd => by
    cases h : gl w (sid, t) with
    | none => rw [drainN_none h]
    | some m =>
      rw [drainN_some h]
      have h1 := drain_cnt n sid (nx16 t) (gdel w (sid, t)) (rd ++ [m])
      have h2 := gdel_len h
      rw [List.length_append] at h1
      simp only [List.length_cons, List.length_nil] at h1
      omega
theorem msg_cnt {s s' : IS} {m : IM} {ssn : Nat} (h : msgN s m ssn = some s') : s'.ready.length + s'.waits.length = s.ready.length + s.waits.length + 1 := by
  unfold msgN at h
  split at h
  · cases h; simp only [List.length_append, List.length_cons, List.length_nil]; omega
  · split at h
    · cases h
      have := drain_cnt (s.waits.length + 1) m.sid (nx16 ssn) s.waits (s.ready ++ [m])
      rw [List.length_append] at this
      simp only [List.length_cons, List.length_nil] at this ⊢
      omega
    · split at h
      · cases h; simp only [List.length_append, List.length_cons, List.length_nil]; omega
      · cases h
structure AddO (A : IA) (t t' : IT) : Prop where
  held : t.held ≤ A.rm → t'.held ≤ A.rm
  cum : ∃ k, k ≤ t.ks.length + 1 ∧ t'.c = (t.c + k) % 4294967296
  ks : t'.ks.length ≤ t.ks.length + 1
  ds : t'.ds.length ≤ 16
  kept : t'.kept.length ≤ t.kept.length + 1
  cnt : t'.s.ready.length + t'.s.waits.length ≤ t.s.ready.length + t.s.waits.length + 1
theorem addI_ok {A : IA} {t t' : IT} {p : PV} {code : Int} (hc : t.c < 4294967296) (hd : t.ds.length ≤ 16) (h : AddI A t p code t') : AddO A t t' ∧ (code = 7 → t' = t) := by
  have c0 : ∃ k, k ≤ t.ks.length + 1 ∧ t.c = (t.c + k) % 4294967296 := ⟨0, Nat.zero_le _, by rw [Nat.add_zero, Nat.mod_eq_of_lt hc]⟩
  have hlim : ∀ p, limitI A t p ≤ A.rm := fun p => by unfold limitI; split <;> omega
  have f1 := @addN_far2 t.c p.t t.ks t.ds hc
  have f2 := addN_len t.c t.ks t.ds p.t
  have f3 := addN_ds t.c t.ks t.ds p.t hd
  cases h with
  | arg h0 => exact ⟨⟨id, c0, Nat.le_succ _, hd, Nat.le_succ _, Nat.le_succ _⟩, fun e => by cases e⟩
  | full h0 h1 h2 h3 => exact ⟨⟨id, c0, Nat.le_succ _, hd, Nat.le_succ _, Nat.le_succ _⟩, fun _ => rfl⟩
  | told h0 ha hcc => rw [ha] at f1 f2 f3; exact ⟨⟨id, f1, f2, f3, Nat.le_succ _, Nat.le_succ _⟩, fun e => by cases e⟩
  | stream h0 ha h3 hs => rw [ha] at f1 f2 f3; exact ⟨⟨id, f1, f2, f3, Nat.le_succ _, Nat.le_succ _⟩, fun e => by cases e⟩
  | @part c' ks' ds' da' dc' pa pc h0 ha h3 hs hp =>
    rw [ha] at f1 f2 f3
    have g1 := putN_held t.kept { p with a := pa, cap := pc }
    have g2 := putN_len t.kept { p with a := pa, cap := pc }
    rw [hp] at g1
    have g1 : heldN (putN t.kept { p with a := pa, cap := pc }).1 + 0 ≤ heldN t.kept + p.z.length := g1
    have hl := hlim p
    refine ⟨⟨fun _ => ?_, f1, f2, f3, g2, Nat.le_succ _⟩, fun e => by cases e⟩
    unfold IT.held at h3 ⊢
    simp only
    omega
  | @whole c' ks' ds' da' dc' pa pc m ra' rc' s' h0 ha h3 hs hp hm =>
    rw [ha] at f1 f2 f3
    have g1 := putN_held t.kept { p with a := pa, cap := pc }
    have g2 := putN_len t.kept { p with a := pa, cap := pc }
    rw [hp] at g1
    have g1 : heldN (putN t.kept { p with a := pa, cap := pc }).1 + m.z.length ≤ heldN t.kept + p.z.length := g1
    have hl := hlim p
    have hls : lenS s' ≤ lenS t.s + m.z.length ∧ s'.ready.length + s'.waits.length ≤ t.s.ready.length + t.s.waits.length + 1 := by
      rcases hm with e | ⟨-, e⟩
      · exact ⟨Nat.le_of_eq (msg_len e), Nat.le_of_eq (msg_cnt e)⟩
      · subst e; exact ⟨Nat.le_add_right _ _, Nat.le_succ _⟩
    refine ⟨⟨fun _ => ?_, f1, f2, f3, g2, hls.2⟩, fun e => by cases e⟩
    unfold IT.held at h3 ⊢
    simp only
    omega
abbrev dos10 (l : List (Int × PV)) : List Value := (l.map fun x => Value.int .i64 x.1 :: pC x.2).flatten
theorem dos10_len (l : List (Int × PV)) : (dos10 l).length = l.length * 7 := by
  induction l with
  | nil => rfl
  | cons x l ih => simp only [dos10, List.map_cons, List.flatten_cons, List.length_append, List.length_cons, List.length_nil, pC] at ih ⊢; omega
theorem dos10_get : ∀ {l : List (Int × PV)} {i : Nat} (hi : i < l.length), ((dos10 l).drop (i * 7)).take 7 = .int .i64 l[i].1 :: pC l[i].2
  | x :: l, 0, _ => rfl
  | x :: l, i + 1, hi => by
    have := dos10_get (l := l) (i := i) (by simpa using hi)
    rw [show (i + 1) * 7 = i * 7 + 1 + 1 + 1 + 1 + 1 + 1 + 1 by omega]
    exact this
def addsN (l : List (Int × PV)) : Nat := (l.map fun x => if x.1 = 0 then 1 else 0).sum
def sumN (l : List (Int × PV)) : Nat := (l.map fun x => x.2.z.length).sum
theorem addsN_snoc (l : List (Int × PV)) (x : Int × PV) : addsN (l ++ [x]) = addsN l + if x.1 = 0 then 1 else 0 := by simp [addsN]
theorem sumN_snoc (l : List (Int × PV)) (x : Int × PV) : sumN (l ++ [x]) = sumN l + x.2.z.length := by simp [sumN]
set_option maxHeartbeats 16000000 in
theorem heavy_spec (l : List (Int × PV)) (a : Option Addr) (cap : Nat) (h : AHeap) (hz : Rv Try.prog h 7 a l.length cap (dos10 l)) (hlen : l.length ≤ 140737488355328) (hb : ∀ x ∈ l, x.2.z.length ≤ 140737488355328) : CallS Try.prog [] 7 [.slice a l.length cap] h fun v h' => ∃ b, v = .bool b ∧ (b = false → sumN l ≤ 20000 ∧ addsN l ≤ 60 ∧ l.length ≤ 200) := by
  (refine CallS.of1 Try.func7 rfl Try.ntmps7 Try.results7 rfl ?_)
  (refine Go.run (g:=?_))
  refine Go.loop (α := Nat × AHeap) (fun x => [(9, .int .i64 x.1), (8, .int .i64 l.length), (7, .slice a l.length cap), (0, .slice a l.length cap), (3, .int .i64 (sumN (l.take x.1) : Nat)), (4, .int .i64 (addsN (l.take x.1) : Nat))]) (fun _ => []) (fun x => x.2) (fun x => x.1 ≤ l.length ∧ sumN (l.take x.1) ≤ 20000 ∧ addsN (l.take x.1) ≤ 60 ∧ Same h x.2) (fun x => l.length - x.1) (0, h) ⟨Nat.zero_le _, by simp [sumN], by simp [addsN], Same.refl _⟩ ⟨rfl, rfl, rfl, rfl, rfl, rfl, trivial⟩ rfl rfl ?_
  rintro ⟨i, H⟩ ⟨hi, hs, ha, s⟩
  simp only at hi hs ha s ⊢
  have hz1 := hz.same s
  have nH := s.1
  rcases Nat.lt_or_ge i l.length with i0 | i0
  case inr =>
    have hie : i = l.length := by omega
    subst hie
    rw [List.take_length] at hs ha
    rcases Nat.lt_or_ge 200 l.length with q | q
    · (refine Go.run (g:=?_))
      (first|refine Go.finT (by first|exact .inr rfl|exact .inl rfl) rfl ?_|refine Go.fin1 (by first|exact .inr rfl|exact .inl rfl) rfl (hq:=?_))
      exact ⟨true, by simp only [retV]; congr 1; exact decide_eq_true (by omega), fun e => by cases e⟩
    · (refine Go.run (g:=?_))
      (first|refine Go.finT (by first|exact .inr rfl|exact .inl rfl) rfl ?_|refine Go.fin1 (by first|exact .inr rfl|exact .inl rfl) rfl (hq:=?_))
      exact ⟨false, by simp only [retV]; congr 1; exact decide_eq_false (by omega), fun _ => ⟨hs, ha, q⟩⟩
  have c0 := dos10_get i0
  have hbe : i * 7 + 7 ≤ (dos10 l).length := by rw [dos10_len]; omega
  have hzb := hb _ (List.getElem_mem i0)
  have htk : l.take (i + 1) = l.take i ++ [l[i]] := by simp
  have e1 : sumN (l.take (i + 1)) = sumN (l.take i) + l[i].2.z.length := by rw [htk, sumN_snoc]
  have e2 : addsN (l.take (i + 1)) = addsN (l.take i) + if l[i].1 = 0 then 1 else 0 := by rw [htk, addsN_snoc]
  generalize hS1 : sumN (l.take (i + 1)) = S1 at *
  generalize hA1 : addsN (l.take (i + 1)) = A1 at *
  generalize sumN (l.take i) = S0 at *
  generalize addsN (l.take i) = A0 at *
  simp only [pC] at c0
  generalize l[i].1 = kd at *
  generalize l[i].2 = p at *
  clear htk
  by_cases k0 : kd = 0
  · rw [if_pos k0] at e2
    subst e1 e2
    rcases Nat.lt_or_ge 20000 (S0 + p.z.length) with q1 | q1
    · (refine Go.run (g:=?_))
      (first|refine Go.finT (by first|exact .inr rfl|exact .inl rfl) rfl ?_|refine Go.fin1 (by first|exact .inr rfl|exact .inl rfl) rfl (hq:=?_))
      exact ⟨true, rfl, fun e => by cases e⟩
    rcases Nat.lt_or_ge 60 (A0 + 1) with q2 | q2
    · (refine Go.run (g:=?_))
      (first|refine Go.finT (by first|exact .inr rfl|exact .inl rfl) rfl ?_|refine Go.fin1 (by first|exact .inr rfl|exact .inl rfl) rfl (hq:=?_))
      exact ⟨true, rfl, fun e => by cases e⟩
    (refine Go.run (g:=?_))
    refine Go.name ?_
    intro H3 e3
    have s3 : Same H H3 := by subst e3; exact ((Same.refl H).push _).put (Nat.le_refl _) _
    clear e3
    exact Go.again (i + 1, H3) ⟨i0, by simp only; rw [hS1]; exact q1, by simp only; rw [hA1]; exact q2, s.trans s3⟩ (by simp only; omega) ⟨rfl, rfl, rfl, rfl, by rw [hS1]; rfl, by rw [hA1]; rfl, trivial⟩ rfl rfl
  · rw [if_neg k0] at e2
    rw [Nat.add_zero] at e2
    subst e1
    rw [← e2] at *
    rcases Nat.lt_or_ge 20000 (S0 + p.z.length) with q1 | q1
    · (refine Go.run (g:=?_))
      (first|refine Go.finT (by first|exact .inr rfl|exact .inl rfl) rfl ?_|refine Go.fin1 (by first|exact .inr rfl|exact .inl rfl) rfl (hq:=?_))
      exact ⟨true, rfl, fun e => by cases e⟩
    rcases Nat.lt_or_ge 60 A1 with q2 | q2
    · (refine Go.run (g:=?_))
      (first|refine Go.finT (by first|exact .inr rfl|exact .inl rfl) rfl ?_|refine Go.fin1 (by first|exact .inr rfl|exact .inl rfl) rfl (hq:=?_))
      exact ⟨true, rfl, fun e => by cases e⟩
    (refine Go.run (g:=?_))
    refine Go.name ?_
    intro H3 e3
    have s3 : Same H H3 := by subst e3; exact ((Same.refl H).push _).put (Nat.le_refl _) _
    clear e3
    exact Go.again (i + 1, H3) ⟨i0, by simp only; rw [hS1]; exact q1, by simp only; rw [hA1]; exact q2, s.trans s3⟩ (by simp only; omega) ⟨rfl, rfl, rfl, rfl, by rw [hS1]; rfl, by rw [hA1]; rfl, trivial⟩ rfl rfl
end Go.Proofs.Ytccbmmnkiihkaaa
namespace Go.Proofs.Ytccbmmnkiihkaaa
open Go.RowKit
set_option maxRecDepth 100000
def asB10 : Value → AHeap → List Nat → Option Bool
  | .bool b, _, _ => some b
  | _, _, _ => none
theorem asB10_true {v : Value} {h : AHeap} {wr : List Nat} (e : asB10 v h wr = some true) : v = .bool true := by
  unfold asB10 at e
  split at e
  · cases e; rfl
  · cases e
theorem known10Run : callK (A := Bool) Try.prog noS (fev Try.prog noS 50000) 6 [] emptyH asB10 = some true := by kernel_rfl
theorem known10 (h : AHeap) : CallS Try.prog [] 6 [] h fun u h' => u = .bool true ∧ h' = h := by
  obtain ⟨v, h', wr, hc, he⟩ := callRun_of (noS_ok _) known10Run
  obtain rfl := asB10_true he
  exact CallS.known noGlobals hc rfl h
end Go.Proofs.Ytccbmmnkiihkaaa
namespace Go.Proofs.Ytccbmmnkiihkaaa
set_option maxRecDepth 100000
attribute [local irreducible] Go GoR GoL
theorem boolU10 : Try.prog.underlying 4 = some .bool := by kernel_rfl
theorem sumN_mem : ∀ {l : List (Int × PV)} {x : Int × PV}, x ∈ l → x.2.z.length ≤ sumN l
  | y :: l, x, h => by
    show _ ≤ y.2.z.length + sumN l
    rcases List.mem_cons.1 h with rfl | h
    · omega
    · have := sumN_mem h; omega
structure RdOk (h H : AHeap) (xb : Nat) (A : IA) (r mr : Nat) (t : IT) (i : Nat) : Prop where
  k : IOk H xb A r mr t h.n
  old : Same h H
  held : t.held ≤ A.rm
  ks : t.ks.length ≤ i
  ds : t.ds.length ≤ 16
  kept : t.kept.length ≤ i
  cnt : t.s.ready.length + t.s.waits.length ≤ i
set_option maxHeartbeats 64000000 in
theorem inboxHolds_spec (st : Nat) (hst : st < 65536) (room most : Int) (hroom : room ≤ 9223372036854775807) (c : Nat) (hc : c < 4294967296) (l : List (Int × PV)) (a : Option Addr) (cap : Nat) (h : AHeap) (hz : Rv Try.prog h 7 a l.length cap (dos10 l)) (hlen : l.length ≤ 140737488355328) (hb : ∀ x ∈ l, x.2.z.length ≤ 140737488355328) (hpb : ∀ x ∈ l, PB x.2) (hd : ∀ x ∈ l, Rv Try.prog h 1 x.2.a x.2.z.length x.2.cap (x.2.z.map bv)) : CallS Try.prog [] 4 [.int .u16 st, .int .i64 room, .int .i64 most, .int .u32 c, .slice a l.length cap] h fun v h' => v = .bool true := by
  have hkn := known10 h
  have hhv := heavy_spec l a cap h hz hlen hb
  (refine CallS.of5 Try.func4 rfl Try.ntmps4 Try.results4 rfl ?_)
  (refine Go.run (g:=?_))
  refine GoR.call rfl rfl rfl rfl rfl rfl rfl (((hkn).argA).mono ?_)
  rintro _ h1 ⟨rfl, rfl⟩ -
  (refine Go.run (g:=?_))
  refine GoR.call rfl rfl rfl rfl rfl rfl rfl (((hhv).argA).mono ?_)
  rintro _ h2 ⟨hv, rfl, hvf⟩ s2
  cases hv with
  | true =>
    (refine Go.run (g:=?_))
    (first|refine Go.finT (by first|exact .inr rfl|exact .inl rfl) rfl ?_|refine Go.fin1 (by first|exact .inr rfl|exact .inl rfl) rfl (hq:=?_))
    rfl
  | false =>
  obtain ⟨hsum, hadd, h200⟩ := hvf rfl
  have n2 := s2.1
  (refine Go.run (g:=?_))
  refine GoR.call rfl rfl rfl rfl rfl rfl rfl (((inew_spec st room most c hc _).argA).mono ?_)
  rintro _ h3 ⟨xb, sb, jb, nx, wt, r, mr, rfl, k3⟩ s3
  have hrm := boundN_le room
  have hsp := boundN_le most
  have k3' : IOk h3 xb ⟨st, boundN room, boundN most, sb, jb, nx, wt⟩ r mr ⟨none, 0, none, 0, c, [], [], [], ⟨[], [], []⟩⟩ h1.n := by
    have X := k3.X
    have G := k3.G
    have J := k3.J
    exact ⟨{ X with ow := ⟨Nat.le_trans n2 X.ow.1, Nat.le_trans n2 X.ow.2.1, Nat.le_trans n2 X.ow.2.2.1, Own.nil _⟩ }, { G with ow := ⟨Nat.le_trans n2 G.ow.1, Nat.le_trans n2 G.ow.2.1, Own.nil _⟩ }, { J with ow := ⟨Nat.le_trans n2 J.ow.1, Nat.le_trans n2 J.ow.2⟩ }, k3.ne⟩
  have ok0 : RdOk h1 h3 xb ⟨st, boundN room, boundN most, sb, jb, nx, wt⟩ r mr ⟨none, 0, none, 0, c, [], [], [], ⟨[], [], []⟩⟩ 0 := ⟨k3', s2.trans s3, Nat.zero_le _, Nat.le_refl _, Nat.zero_le _, Nat.le_refl _, Nat.le_refl _⟩
  have hmax : ∀ n : Nat, n ≤ boundN room → (n : Int) ≤ (if room > 0 then room else 0) := fun n hn => by
    have : (boundN room : Int) ≤ (if room > 0 then room else 0) := by
      split
      · exact boundN_le2 room (by omega)
      · unfold boundN; split <;> omega
    omega
  obtain ⟨A, hA⟩ : ∃ A : IA, A = ⟨st, boundN room, boundN most, sb, jb, nx, wt⟩ := ⟨_, rfl⟩
  have hArm : A.rm = boundN room := by rw [hA]
  have hAsp : A.sp ≤ 1048576 := by rw [hA]; exact hsp
  have hAst : A.st < 65536 := by rw [hA]; exact hst
  rw [← hA] at ok0
  rw [← hArm] at hrm hmax
  clear k3 k3' s2 s3 hA hkn hhv
  (refine Go.run (g:=?_))
  refine Go.loop (α := Nat × IT × AHeap) (fun x => [(31, .int .i64 x.1), (30, .int .i64 l.length), (29, .slice a l.length cap), (11, .pointer (some ⟨xb, 0, none⟩)), (1, .int .i64 room)]) (fun _ => []) (fun x => x.2.2) (fun x => x.1 ≤ l.length ∧ RdOk h1 x.2.2 xb A r mr x.2.1 x.1) (fun x => l.length - x.1) (0, _, h3) ⟨Nat.zero_le _, ok0⟩ ⟨rfl, rfl, rfl, rfl, rfl, trivial⟩ rfl rfl ?_
  clear ok0
  rintro ⟨i, t, H⟩ ⟨hi, ok⟩
  simp only at hi ok ⊢
  obtain ⟨k, old, held, hks, hds, hkept, hcnt⟩ := ok
  have hz1 := hz.same old
  have hHn := old.1
  rcases Nat.lt_or_ge i l.length with i0 | i0
  case inr =>
    (refine Go.run (g:=?_))
    (first|refine Go.finT (by first|exact .inr rfl|exact .inl rfl) rfl ?_|refine Go.fin1 (by first|exact .inr rfl|exact .inl rfl) rfl (hq:=?_))
    rfl
  have c0 := dos10_get i0
  have hbe : i * 7 + 7 ≤ (dos10 l).length := by rw [dos10_len]; omega
  have hp1 := hpb _ (List.getElem_mem i0)
  have hd1 := (hd _ (List.getElem_mem i0)).same old
  have hdlt := (hd _ (List.getElem_mem i0)).lt
  have hzs : l[i].2.z.length ≤ 20000 := by
    have : l[i].2.z.length ≤ sumN l := by
      exact sumN_mem (List.getElem_mem i0)
    omega
  generalize l[i].1 = kd at *
  generalize l[i].2 = p at *
  simp only [pC] at c0
  have gx := k.X.xc
  (refine Go.run (g:=?_))
  refine GoR.name ?_
  intro H1 e1
  have s1 : Same H H1 := by subst e1; exact ((Same.refl H).push _).put (Nat.le_refl _) _
  have g13 : H1.get H.n = some (.cells [.int .i64 kd, .int .u32 (p.t : Nat), .int .u8 (p.fl : Nat), .int .u16 (p.sid : Nat), .int .u16 (p.ssn : Nat), .int .u32 (p.ppid : Nat), .slice p.a p.z.length p.cap] 35) := by subst e1; (first | assumption | exact AHeap.get_push_same _ _ | ((repeat first | exact AHeap.get_push_same _ _ | assumption | refine get_push_lt ?_ | exact AHeap.get_put_same _ (by first | omega | (simp only [AHeap.n_push, AHeap.n_put]; omega)) _ | exact get_put_self (by assumption) | apply get_put_self | refine get_put_other (by first | omega | (simp only [AHeap.n_push, AHeap.n_put]; omega)) ?_ | refine Same.get (by assumption) ?_ | refine Keeps.get (by assumption) ?_ (fun hi => by have hx := Own.out (by assumption) hi; omega)) ; fail_if_success focus skip) | fail)
  have n1 : H1.n = H.n + 1 := by subst e1; rfl
  clear e1
  have k1 := k.same s1
  have old1 := old.trans s1
  have hd1' := hd1.same s1
  have hh9 : t.held ≤ 1000000000 := by omega
  have klt := k.X.lts
  have glt := k.G.lts
  have jlt1 := AHeap.lt k.J.jc
  have jlt2 := k.J.mp.lt
  clear k old hz1 gx hd1 s1
  have gx1 := k1.X.xc
  refine GoR.call rfl rfl rfl rfl rfl rfl rfl (((icum_spec xb A r mr t h1.n _ k1).argA).mono ?_)
  rintro _ H2 ⟨rfl, rfl⟩ -
  (refine Go.run (g:=?_))
  refine GoR.call rfl rfl rfl rfl rfl rfl rfl (((iheld_spec xb A r mr t h1.n _ k1 hh9).argA).mono ?_)
  rintro _ H3 ⟨rfl, rfl⟩ -
  (refine Go.run (g:=?_))
  refine GoR.call rfl rfl rfl rfl rfl rfl rfl (((iready_spec xb A r mr t h1.n _ k1).argA).mono ?_)
  rintro _ H4 ⟨rfl, rfl⟩ -
  (refine Go.run (g:=?_))
  have tcb := k1.G.cb
  refine Go.join2 (α := IT × AHeap) (fun _ => [(31, .int .i64 i), (30, .int .i64 l.length), (29, .slice a l.length cap), (11, .pointer (some ⟨xb, 0, none⟩)), (1, .int .i64 room), (14, .int .u32 (t.c : Nat))]) (fun _ => []) (fun x => x.2) (fun x => RdOk h1 x.2 xb A r mr x.1 (i + 1) ∧ ∃ kq, kq ≤ 1000 ∧ x.1.c = (t.c + kq) % 4294967296) ?_ ?_
  · have hc0 : ∃ kq, kq ≤ 1000 ∧ t.c = (t.c + kq) % 4294967296 := ⟨0, by omega, by rw [Nat.add_zero, Nat.mod_eq_of_lt tcb]⟩
    by_cases k0 : kd = 0
    · subst k0
      (refine Go.run (g:=?_))
      refine GoR.callW rfl rfl rfl rfl rfl rfl rfl (((iadd_spec xb A r mr t h1.n p hp1 _ (by omega) k1 (by omega) hAsp hAst (by omega) (by omega) hds (by omega) hdlt hd1').argA).mono ?_)
      rintro _ H5 ⟨code, t', rfl, hai, k5⟩ kk
      have hperm : ∀ j ∈ [xb, A.nx, A.wt] ++ blk t.ra ++ ([A.sb, r] ++ blk t.da) ++ [A.jb, mr], h1.n ≤ j := fun j hj => by
        rcases List.mem_append.1 hj with hj | hj
        · rcases List.mem_append.1 hj with hj | hj
          · exact k1.X.owns j hj
          · exact k1.G.owns j hj
        · simp only [List.mem_cons, List.not_mem_nil, or_false] at hj
          rcases hj with rfl | rfl
          · exact k1.J.ow.1
          · exact k1.J.ow.2
      refine ⟨fun j hj => .inr (hperm j hj), ?_⟩
      have old5 := old1.own kk hperm
      obtain ⟨ao, hfull⟩ := addI_ok tcb hds hai
      have hheld5 := ao.held held
      have rd5 : RdOk h1 H5 xb A r mr t' (i + 1) := ⟨k5, old5, hheld5, by have := ao.ks; omega, ao.ds, by have := ao.kept; omega, by have := ao.cnt; omega⟩
      have hc5 : ∃ kq, kq ≤ 1000 ∧ t'.c = (t.c + kq) % 4294967296 := by
        obtain ⟨kq, h1', h2'⟩ := ao.cum
        exact ⟨kq, by omega, h2'⟩
      by_cases c7 : code = 7
      · obtain rfl := hfull c7
        subst c7
        have gx5 := k5.X.xc
        (refine Go.run (g:=?_))
        refine GoR.call rfl rfl rfl rfl rfl rfl rfl (((iheld_spec xb A r mr _ h1.n _ k5 hh9).argA).mono ?_)
        rintro _ H6 ⟨rfl, rfl⟩ -
        (refine Go.run (g:=?_))
        refine GoR.call rfl rfl rfl rfl rfl rfl rfl (((icum_spec xb A r mr _ h1.n _ k5).argA).mono ?_)
        rintro _ H7 ⟨rfl, rfl⟩ -
        (refine Go.run (g:=?_))
        refine GoR.call rfl rfl rfl rfl rfl rfl rfl (((iready_spec xb A r mr _ h1.n _ k5).argA).mono ?_)
        rintro _ H8 ⟨rfl, rfl⟩ -
        (refine Go.run (g:=?_))
        exact Go.joined (_, _) ⟨rd5, hc5⟩ ⟨rfl, rfl, rfl, rfl, rfl, rfl, trivial⟩ rfl rfl
      · (refine Go.run (g:=?_))
        exact Go.joined (t', H5) ⟨rd5, hc5⟩ ⟨rfl, rfl, rfl, rfl, rfl, rfl, trivial⟩ rfl rfl
    by_cases k1' : kd = 1
    · subst k1'
      (refine Go.run (g:=?_))
      refine GoR.callW rfl rfl rfl rfl rfl rfl rfl (((irecv_spec xb A r mr t h1.n _ (by omega) k1 (by omega) hh9).argA).mono ?_)
      rintro v H5 hv kk
      refine ⟨fun j hj => .inr (by
        simp only [List.mem_singleton] at hj
        subst hj
        exact k1.X.ow.1), ?_⟩
      have old5 := old1.own kk (fun j hj => by
        simp only [List.mem_singleton] at hj
        subst hj
        exact k1.X.ow.1)
      obtain ⟨m, t', rfl, k5, hh, hrc⟩ : ∃ (m : IM) (t' : IT), v = .tuple #[.agg #[.int .u16 (m.sid : Nat), .bool m.un, .int .u32 (m.ppid : Nat), .slice m.a m.z.length m.cap], .bool (decide (0 < t.s.ready.length))] ∧ IOk H5 xb A r mr t' h1.n ∧ t'.held + m.z.length = t.held ∧ t'.c = t.c ∧ t'.ks = t.ks ∧ t'.ds = t.ds ∧ t'.kept = t.kept ∧ t'.s.ready.length ≤ t.s.ready.length ∧ t'.s.waits = t.s.waits := by
        rcases hv with ⟨hre, rfl, k5⟩ | ⟨m, rest, ra', rc', hre, rfl, k5⟩
        · refine ⟨⟨0, false, 0, none, 0, []⟩, t, ?_, k5, rfl, rfl, rfl, rfl, rfl, Nat.le_refl _, rfl⟩
          rw [hre]; rfl
        · refine ⟨m, _, ?_, k5, ?_, rfl, rfl, rfl, rfl, ?_, rfl⟩
          · rw [hre, List.length_cons, decide_eq_true (Nat.succ_pos _)]; rfl
          · unfold IT.held lenS lenI
            simp only
            rw [hre]
            simp only [List.map_cons, List.sum_cons]
            omega
          · simp only
            rw [hre]
            exact Nat.le_succ _
      clear hv
      obtain ⟨hcc, hkk, hdd, hke, hrl, hwt⟩ := hrc
      have n5 := kk.1
      have hB : (!(decide (0 < t.s.ready.length) == decide ((0 : Int) < (t.s.ready.length : Nat)))) = false := by
        rw [show decide ((0 : Int) < (t.s.ready.length : Nat)) = decide (0 < t.s.ready.length) from decide_eq_decide.2 (by omega)]
        simp
      (refine Go.run (g:=?_))
      refine GoR.boolNe rfl rfl rfl rfl rfl rfl boolU10 ?_
      rw [hB]
      refine GoR.name ?_
      intro H6 e6
      have s6 : Same H5 H6 := by subst e6; exact ((Same.refl H5).push _).put (Nat.le_refl _) _
      have g18 : H6.get H5.n = some (.cells [.int .u16 (m.sid : Nat), .bool m.un, .int .u32 (m.ppid : Nat), .slice m.a m.z.length m.cap] 39) := by subst e6; (first | assumption | exact AHeap.get_push_same _ _ | ((repeat first | exact AHeap.get_push_same _ _ | assumption | refine get_push_lt ?_ | exact AHeap.get_put_same _ (by first | omega | (simp only [AHeap.n_push, AHeap.n_put]; omega)) _ | exact get_put_self (by assumption) | apply get_put_self | refine get_put_other (by first | omega | (simp only [AHeap.n_push, AHeap.n_put]; omega)) ?_ | refine Same.get (by assumption) ?_ | refine Keeps.get (by assumption) ?_ (fun hi => by have hx := Own.out (by assumption) hi; omega)) ; fail_if_success focus skip) | fail)
      clear e6
      have k6 := k5.same s6
      have hh5 : t'.held ≤ 1000000000 := by omega
      have rd6 : RdOk h1 H6 xb A r mr t' (i + 1) := ⟨k6, old5.trans s6, by omega, by rw [hkk]; omega, by rw [hdd]; exact hds, by rw [hke]; omega, by rw [hwt]; omega⟩
      have hc6 : ∃ kq, kq ≤ 1000 ∧ t'.c = (t.c + kq) % 4294967296 := by rw [hcc]; exact hc0
      (refine Go.run (g:=?_))
      refine GoR.call rfl rfl rfl rfl rfl rfl rfl (((iheld_spec xb A r mr _ h1.n _ k6 hh5).argA).mono ?_)
      rintro _ H7 ⟨rfl, rfl⟩ -
      (refine Go.run (g:=?_))
      exact Go.joined (t', _) ⟨rd6, hc6⟩ ⟨rfl, rfl, rfl, rfl, rfl, rfl, trivial⟩ rfl rfl
    (refine Go.run (g:=?_))
    exact Go.joined (t, _) ⟨⟨k1, old1, held, Nat.le_succ_of_le hks, hds, Nat.le_succ_of_le hkept, Nat.le_succ_of_le hcnt⟩, hc0⟩ ⟨rfl, rfl, rfl, rfl, rfl, rfl, trivial⟩ rfl rfl
  clear k1 old1 held hks hds hkept hcnt gx1 g13 hd1' hh9 klt glt jlt1 jlt2 c0 hbe hdlt
  rintro ⟨t', H5⟩ ⟨rd, kq, hkq, hc5⟩
  simp only at rd hc5 ⊢
  obtain ⟨k, old, held, hks, hds, hkept, hcnt⟩ := rd
  have hh9 : t'.held ≤ 1000000000 := by omega
  have hM := hmax t'.held (by omega)
  have gx := k.X.xc
  have tcb' := k.G.cb
  generalize hMX : (if room > 0 then room else 0) = MX at *
  (refine Go.run (g:=?_))
  refine GoR.call rfl rfl rfl rfl rfl rfl rfl (((iheld_spec xb A r mr _ h1.n _ k hh9).argA).mono ?_)
  rintro _ H6 ⟨rfl, rfl⟩ -
  (refine Go.run (g:=?_))
  refine GoR.call rfl rfl rfl rfl rfl rfl rfl (((iheld_spec xb A r mr _ h1.n _ k hh9).argA).mono ?_)
  rintro _ H7 ⟨rfl, rfl⟩ -
  (refine Go.run (g:=?_))
  refine GoR.maxI rfl rfl rfl rfl rfl rfl ?_
  rw [hMX]
  (refine Go.run (g:=?_))
  refine GoR.call rfl rfl rfl rfl rfl rfl rfl (((iheld_spec xb A r mr _ h1.n _ k hh9).argA).mono ?_)
  rintro _ H8 ⟨rfl, rfl⟩ -
  have hc' : ((spanN t.c t'.c : Nat) : Int) ≤ 2147483648 := by
    have : spanN t.c t'.c = kq := by unfold spanN; omega
    omega
  have hc3 : t.c < 4294967296 := tcb
  have hs32 := sub32 t.c t'.c hc3 tcb'
  by_cases hz0 : t'.held = 0
  · have hz2 : (t'.held : Int) = 0 := by omega
    (refine Go.run (g:=?_))
    refine GoR.call rfl rfl rfl rfl rfl rfl rfl (((icum_spec xb A r mr _ h1.n _ k).argA).mono ?_)
    rintro _ H9 ⟨rfl, rfl⟩ -
    (refine Go.run (g:=?_))
    refine GoR.bin rfl rfl rfl rfl rfl rfl hs32 ?_
    (refine Go.run (g:=?_))
    exact Go.again (i + 1, t', _) ⟨by simp only; omega, k, old, held, hks, hds, hkept, hcnt⟩ (by simp only; omega) ⟨rfl, rfl, rfl, rfl, rfl, trivial⟩ rfl rfl
  have hw : ((A.rm - A.sp - t'.held : Nat) : Int) + (t'.held : Int) ≤ MX := by
    by_cases q : t'.held ≤ A.rm - A.sp
    · have := hmax (A.rm - A.sp) (by omega)
      omega
    · omega
  have hw2 : A.rm - A.sp - t'.held ≤ 1048576 := by omega
  (refine Go.run (g:=?_))
  refine GoR.call rfl rfl rfl rfl rfl rfl rfl (((irwnd_spec xb A r mr _ h1.n _ k hh9 hrm hAsp).argA).mono ?_)
  rintro _ H9 ⟨rfl, rfl⟩ -
  generalize A.rm - A.sp - t'.held = w at *
  (refine Go.run (g:=?_))
  refine GoR.call rfl rfl rfl rfl rfl rfl rfl (((iheld_spec xb A r mr _ h1.n _ k hh9).argA).mono ?_)
  rintro _ H10 ⟨rfl, rfl⟩ -
  (refine Go.run (g:=?_))
  refine GoR.maxI rfl rfl rfl rfl rfl rfl ?_
  rw [hMX]
  (refine Go.run (g:=?_))
  refine GoR.call rfl rfl rfl rfl rfl rfl rfl (((icum_spec xb A r mr _ h1.n _ k).argA).mono ?_)
  rintro _ H11 ⟨rfl, rfl⟩ -
  (refine Go.run (g:=?_))
  refine GoR.bin rfl rfl rfl rfl rfl rfl hs32 ?_
  (refine Go.run (g:=?_))
  exact Go.again (i + 1, t', _) ⟨by simp only; omega, k, old, held, hks, hds, hkept, hcnt⟩ (by simp only; omega) ⟨rfl, rfl, rfl, rfl, rfl, trivial⟩ rfl rfl
end Go.Proofs.Ytccbmmnkiihkaaa
namespace Go.Proofs.Ytccbmmnkiihkaaa
set_option maxRecDepth 100000
open Go.ChangeShapes Go.WideShapes Go.ChangeAt Go.RowKit
theorem v10i : Try.prog.underlying 3 = some (.int .i64) := by kernel_rfl
theorem v10u8 : Try.prog.underlying 5 = some (.int .u8) := by kernel_rfl
theorem v10u16 : Try.prog.underlying 22 = some (.int .u16) := by kernel_rfl
theorem v10u32 : Try.prog.underlying 23 = some (.int .u32) := by kernel_rfl
theorem v10bs : Try.prog.underlying 31 = some (.slice 5) := by kernel_rfl
theorem v10dos : Try.prog.underlying 24 = some (.slice 35) := by kernel_rfl
theorem v10w : Try.prog.bytesOf 5 = 1 := by kernel_rfl
theorem v10plain : plainB Try.prog 6 24 = true := by kernel_rfl
theorem cells10P {α : Type} {f : α → List Value} {p : α → Prop} {sz : Nat} : ∀ (len : Nat) (c : List Value), c.length = len * sz → (∀ i, i < len → ∃ x, (c.drop (i * sz)).take sz = f x ∧ p x) → ∃ l : List α, l.length = len ∧ c = (l.map f).flatten ∧ ∀ x ∈ l, p x
  | 0, c, hl, _ => ⟨[], rfl, by simpa using hl, fun x hx => by cases hx⟩
  | n + 1, c, hl, each => by
    obtain ⟨x, e, hp⟩ := each 0 (by omega)
    rw [Nat.zero_mul, List.drop_zero] at e
    obtain ⟨l, h1, h2, h3⟩ := cells10P (f := f) (p := p) (sz := sz) n (c.drop sz) (by rw [List.length_drop, hl, Nat.succ_mul]; omega) (fun i hi => by
      have := each (i + 1) (by omega)
      rwa [show (i + 1) * sz = sz + i * sz from by rw [Nat.succ_mul]; omega, ← List.drop_drop] at this)
    refine ⟨x :: l, by simp [h1], ?_, fun y hy => ?_⟩
    · rw [← List.take_append_drop sz c, e, h2]; simp
    · rcases List.mem_cons.1 hy with rfl | hy
      · exact hp
      · exact h3 y hy
theorem len10 {n b : Nat} (hb : 0 < b) (h : n * b ≤ reachBytes) : n ≤ 140737488355328 := by
  have := reachBytes_lt
  have : n ≤ n * b := Nat.le_mul_of_pos_right n hb
  omega
structure PIn (h : AHeap) (p : PV) : Prop where
  b : PB p
  len : p.z.length ≤ 140737488355328
  ok : Rv Try.prog h 1 p.a p.z.length p.cap (p.z.map bv)
theorem piece_of {h : AHeap} {H : Type} {cs : List Value} {d : DataW H} (r : ARd Try.prog h 33 cs d) (z : Sized Try.prog 33 d) : ∃ p : PV, cs = pC p ∧ PIn h p := by
  obtain ⟨hl, hf⟩ := r.fieldZ z Try.underlying33
  rw [show Try.prog.cellsOf 33 = 6 from by kernel_rfl] at hl
  match cs, hl with
  | [c0, c1, c2, c3, c4, c5], _ =>
    obtain ⟨d0, r0, -⟩ := hf 0 23 0 1 rfl (by kernel_rfl)
    obtain ⟨d1, r1, -⟩ := hf 1 5 1 1 rfl (by kernel_rfl)
    obtain ⟨d2, r2, -⟩ := hf 2 22 2 1 rfl (by kernel_rfl)
    obtain ⟨d3, r3, -⟩ := hf 3 22 3 1 rfl (by kernel_rfl)
    obtain ⟨d4, r4, -⟩ := hf 4 23 4 1 rfl (by kernel_rfl)
    obtain ⟨d5, r5, z5⟩ := hf 5 31 5 1 rfl (by kernel_rfl)
    obtain ⟨n0, e0, b0⟩ := r0.u_inv rfl v10u32
    obtain ⟨n1, e1, b1⟩ := r1.u_inv rfl v10u8
    obtain ⟨n2, e2, b2⟩ := r2.u_inv rfl v10u16
    obtain ⟨n3, e3, b3⟩ := r3.u_inv rfl v10u16
    obtain ⟨n4, e4, b4⟩ := r4.u_inv rfl v10u32
    obtain ⟨a, cap, zs, e5, hR, hm, hZ⟩ := r5.bytesZ z5 v10bs v10u8 (by kernel_rfl) v10w
    simp at e0 e1 e2 e3 e4 e5
    subst e0 e1 e2 e3 e4 e5
    exact ⟨⟨n0, n1, n2, n3, n4, a, cap, zs⟩, rfl, ⟨b0, b1, b2, b3, b4⟩, hZ, hR⟩
theorem do10_of {h : AHeap} {H : Type} {cs : List Value} {d : DataW H} (r : ARd Try.prog h 35 cs d) (z : Sized Try.prog 35 d) : ∃ x : Int × PV, cs = .int .i64 x.1 :: pC x.2 ∧ PIn h x.2 := by
  obtain ⟨hl, hf⟩ := r.fieldZ z Try.underlying35
  rw [show Try.prog.cellsOf 35 = 7 from by kernel_rfl] at hl
  match cs, hl with
  | [c0, c1, c2, c3, c4, c5, c6], _ =>
    obtain ⟨d0, r0, -⟩ := hf 0 3 0 1 rfl (by kernel_rfl)
    obtain ⟨d1, r1, z1⟩ := hf 1 33 1 6 rfl (by kernel_rfl)
    obtain ⟨n, e0, -⟩ := r0.int_inv v10i
    obtain ⟨p, e1, hp⟩ := piece_of r1 z1
    simp only [List.drop_succ_cons, List.drop_zero, List.take_succ_cons, List.take_zero] at e0 e1
    obtain rfl := (List.cons.inj e0).1
    exact ⟨(n, p), by rw [← e1], hp⟩
section
variable {H : Type} {enc : TypeId × Value → H} {W : World} {m : Mp} {h : AHeap} {base : Nat} {v : Value} {d : DataW H} {ps : List MemPlace}
theorem imp_dos10 (o : Value.okWide Try.prog W .any base 24 v) (ht : DataW.Trod enc Try.prog W 0 (fun _ => true) true 24 v d ps) (z : Sized Try.prog 24 d) (I : Im Try.prog W m h) :
    ∃ m' h', Im Try.prog W m' h' ∧ ∃ (a : Option Addr) (cap : Nat) (l : List (Int × PV)), VRel m' (.slice a l.length cap) v ∧ Rv Try.prog h' 7 a l.length cap (dos10 l) ∧ l.length ≤ 140737488355328 ∧ ∀ x ∈ l, PIn h' x.2 := by
  obtain ⟨a0, l0, c0, rfl⟩ := okWide_slice v10dos o
  obtain ⟨m', h', cs, I', hm, hs, hA, hR, hl⟩ := imp_val v10plain ht I
  obtain ⟨x, rfl, hv⟩ := vrel_one hA (by rw [hl]; kernel_rfl) rfl
  obtain ⟨a, len, cap, c, e, hz, -, hb, hel⟩ := hR.slice_invZ z v10dos
  cases e
  rw [show Try.prog.cellsOf 35 = 7 from by kernel_rfl] at hz hel
  obtain ⟨l, rfl, rfl, hp⟩ := cells10P (f := fun x : Int × PV => .int .i64 x.1 :: pC x.2) (p := fun x => PIn h' x.2) len c hz.length fun i hi => let ⟨d', r, z'⟩ := hel i hi; do10_of r z'
  exact ⟨m', h', I', a, cap, l, hv, hz, len10 (show 0 < Try.prog.bytesOf 35 from of_decide_eq_true (by kernel_rfl)) hb, hp⟩
end
theorem u16_of {n : Int} (w : (Lit.int .u16 n).wf = true) : ∃ k : Nat, k < 65536 ∧ n = (k : Nat) := by
  simp [Lit.wf, IntKind.wrap, IntKind.bits, IntKind.signed, IntKind.min, IntKind.max] at w
  exact ⟨n.toNat, by omega, by omega⟩
theorem u32_of10 {n : Int} (w : (Lit.int .u32 n).wf = true) : ∃ k : Nat, k < 4294967296 ∧ n = (k : Nat) := by
  simp [Lit.wf, IntKind.wrap, IntKind.bits, IntKind.signed, IntKind.min, IntKind.max] at w
  exact ⟨n.toNat, by omega, by omega⟩
theorem i64_le {n : Int} (w : (Lit.int .i64 n).wf = true) : n ≤ 9223372036854775807 := by
  simp [Lit.wf, IntKind.wrap, IntKind.bits, IntKind.signed, IntKind.min, IntKind.max] at w
  omega
end Go.Proofs.Ytccbmmnkiihkaaa
namespace Go.Proofs.Ytccbmmnkiihkaaa
open Go.ChangeShapes Go.WideShapes Go.ChangeAt Go.RowKit
set_option maxRecDepth 100000
theorem inboxHoldsWalk {H : Type} {enc : TypeId × Value → H} {base : Nat} {d4 : DataW H} {p4 : List MemPlace} (a0 a1 a2 a3 : Int) (v4 : Value) (W : World) (w0 : (Lit.int .u16 a0).wf = true) (w1 : (Lit.int .i64 a1).wf = true) (w2 : (Lit.int .i64 a2).wf = true) (w3 : (Lit.int .u32 a3).wf = true) (o4 : Value.okWide Try.prog W .any base 24 v4) (h4 : DataW.Trod enc Try.prog W 0 (fun _ => true) true 24 v4 d4 p4) (z4 : Sized Try.prog 24 d4) : Calls Try.prog 4 #[.int .u16 a0, .int .i64 a1, .int .i64 a2, .int .u32 a3, v4] W fun e w' => e = .returned (.bool true) ∧ Below W.heap.size W w' := by
  obtain ⟨m, h, I, a, cap, l, hv, hz, hlen, hp⟩ := imp_dos10 o4 h4 z4 (Im.empty Try.prog W)
  obtain ⟨st, hst, rfl⟩ := u16_of w0
  obtain ⟨c, hc, rfl⟩ := u32_of10 w3
  refine calls_imp noGlobals I rfl (inboxHolds_spec st hst a1 a2 (i64_le w1) c hc l a cap h hz hlen (fun x hx => (hp x hx).len) (fun x hx => (hp x hx).b) (fun x hx => (hp x hx).ok)) ?_
  exact (((((ARel.single (.int _ _)).push (.int _ _)).push (.int _ _)).push (.int _ _)).push hv)
end Go.Proofs.Ytccbmmnkiihkaaa