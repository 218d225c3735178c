/- What the law leans on, part 6. No conditions. -/
import Derived.Test.YtncbbeghkpjpbaaDoorProg
import Derived.KernelRfl
import Derived.Lib.Bytealg
import Derived.Test.YtncbbeghkpjpbaaDoorRows
import Derived.Lib.LaidTab
import Derived.Stop.LaidErr
import Derived.MakeChecks
import Derived.Test.YtncbbeghkpjpbaaDoorScriptAnswersPart5
set_option linter.unusedVariables false
set_option linter.unusedSimpArgs false
namespace Go.Proofs.YtncbbeghkpjpbaaDoor
theorem un2 : Tryd.prog.underlying 2 = some (.int .i64) := by kernel_rfl
instance : CT Tryd.prog 3 none := ⟨by kernel_rfl⟩
theorem un3 : Tryd.prog.underlying 3 = some (.int .i64) := by kernel_rfl
instance : CT Tryd.prog 4 none := ⟨by kernel_rfl⟩
instance : CT Tryd.prog 5 none := ⟨by kernel_rfl⟩
instance : SZ Tryd.prog 5 1 := ⟨by kernel_rfl⟩
theorem un5 : Tryd.prog.underlying 5 = some (.int .u8) := by kernel_rfl
instance : UN Tryd.prog 9 .string := ⟨by kernel_rfl⟩
instance : CT Tryd.prog 24 none := ⟨by kernel_rfl⟩
instance : CT Tryd.prog 29 none := ⟨by kernel_rfl⟩
theorem un29 : Tryd.prog.underlying 29 = some (.int .u16) := by kernel_rfl
instance : CT Tryd.prog 30 none := ⟨by kernel_rfl⟩
theorem un30 : Tryd.prog.underlying 30 = some (.int .u32) := by kernel_rfl
instance : CT Tryd.prog 31 none := ⟨by kernel_rfl⟩
instance : SZ Tryd.prog 31 1 := ⟨by kernel_rfl⟩
instance : EL Tryd.prog 31 (none, 1) := ⟨by kernel_rfl⟩
instance : UN Tryd.prog 31 (.slice 5) := ⟨by kernel_rfl⟩
instance : BS Tryd.prog 31 5 1 (.int .u8 0) := .of (by kernel_rfl) (by kernel_rfl) (by kernel_rfl) (by kernel_rfl) (by kernel_rfl)
instance : AP Tryd.prog 31 31 5 1 1 := .of (inf := Tryd.t5) (z := .int .u8 0) (e₂ := 5) (by kernel_rfl) (by kernel_rfl) (by kernel_rfl) (by kernel_rfl) (by kernel_rfl) (by kernel_rfl) (by decide) (by kernel_rfl) (by kernel_rfl)
instance : CT Tryd.prog 33 (some 4) := ⟨by kernel_rfl⟩
instance : SZ Tryd.prog 33 4 := ⟨by kernel_rfl⟩
instance : FO Tryd.prog 33 0 0 := ⟨by kernel_rfl⟩
instance : FO Tryd.prog 33 1 1 := ⟨by kernel_rfl⟩
instance : FO Tryd.prog 33 2 2 := ⟨by kernel_rfl⟩
instance : FO Tryd.prog 33 3 3 := ⟨by kernel_rfl⟩
instance : FO Tryd.prog 35 0 0 := ⟨by kernel_rfl⟩
instance : FO Tryd.prog 35 1 1 := ⟨by kernel_rfl⟩
instance : CT Tryd.prog 37 (some 8) := ⟨by kernel_rfl⟩
instance : SZ Tryd.prog 37 8 := ⟨by kernel_rfl⟩
instance : FO Tryd.prog 37 0 0 := ⟨by kernel_rfl⟩
instance : FO Tryd.prog 37 1 1 := ⟨by kernel_rfl⟩
instance : FO Tryd.prog 37 2 2 := ⟨by kernel_rfl⟩
instance : FO Tryd.prog 37 3 6 := ⟨by kernel_rfl⟩
instance : CT Tryd.prog 87 none := ⟨by kernel_rfl⟩
theorem un87 : Tryd.prog.underlying 87 = some (.int .u64) := by kernel_rfl
instance : CT Tryd.prog 101 none := ⟨by kernel_rfl⟩
instance : SZ Tryd.prog 101 1 := ⟨by kernel_rfl⟩
instance : FO Tryd.prog 103 0 0 := ⟨by kernel_rfl⟩
instance : FO Tryd.prog 103 1 1 := ⟨by kernel_rfl⟩
instance : AL Tryd.prog 103 [.pointer none, .slice none 0 0] := ⟨by kernel_rfl⟩
instance : EL Tryd.prog 112 (some 24, 1) := ⟨by kernel_rfl⟩
instance : AL Tryd.prog 112 [.int .u8 0, .int .u8 0, .int .u8 0, .int .u8 0, .int .u8 0, .int .u8 0, .int .u8 0, .int .u8 0, .int .u8 0, .int .u8 0, .int .u8 0, .int .u8 0, .int .u8 0, .int .u8 0, .int .u8 0, .int .u8 0, .int .u8 0, .int .u8 0, .int .u8 0, .int .u8 0, .int .u8 0, .int .u8 0, .int .u8 0, .int .u8 0] := ⟨by kernel_rfl⟩
instance : EL Tryd.prog 134 (some 20, 1) := ⟨by kernel_rfl⟩
instance : IC Tryd.prog 2 5 .u8 := .of un2 un5
instance : IC Tryd.prog 2 87 .u64 := .of un2 un87
instance : IC Tryd.prog 5 2 .i64 := .of un5 un2
instance : IC Tryd.prog 5 3 .i64 := .of un5 un3
instance : IC Tryd.prog 29 2 .i64 := .of un29 un2
instance : IC Tryd.prog 29 3 .i64 := .of un29 un3
instance : IC Tryd.prog 30 2 .i64 := .of un30 un2
instance : IC Tryd.prog 30 5 .u8 := .of un30 un5
instance : IC Tryd.prog 30 87 .u64 := .of un30 un87
instance : IC Tryd.prog 87 3 .i64 := .of un87 un3
instance : IC Tryd.prog 87 5 .u8 := .of un87 un5
instance : IC Tryd.prog 87 30 .u32 := .of un87 un30
instance : BY Tryd.prog 31 9 := ⟨⟨5, by kernel_rfl, by kernel_rfl⟩, by kernel_rfl⟩
theorem nGlobals : Tryd.prog.globals.size = 8 := by kernel_rfl
end Go.Proofs.YtncbbeghkpjpbaaDoor
namespace Go.Proofs.YtncbbeghkpjpbaaDoor
open Go.RowKit
set_option maxRecDepth 100000
attribute [local irreducible] Go GoR GoL
def ixV (zs : List UInt8) (c : UInt8) : Int := match zs.findIdx? (· == c) with
 | some i => (i : Int)
 | none => -1
theorem find_range (zs : List UInt8) (c : UInt8) : ((List.range (ByteArray.mk zs.toArray).size).find? fun i => (ByteArray.mk zs.toArray)[i]! == c) = zs.findIdx? (· == c) := by
 have e : ∀ i, i < zs.length → (ByteArray.mk zs.toArray)[i]! = zs[i]! := fun i hi => by
  have h1 : i < (ByteArray.mk zs.toArray).size := by rw [ba_size]; exact hi
  rw [getElem!_pos (ByteArray.mk zs.toArray) i h1, getElem!_pos zs i hi]
  rfl
 rw [ba_size]
 cases hf : zs.findIdx? (· == c) with
 | none =>
  rw [List.find?_eq_none]
  intro i hi
  rw [List.mem_range] at hi
  rw [e i hi, getElem!_pos zs i hi]
  have := List.findIdx?_eq_none_iff.1 hf zs[i] (List.getElem_mem hi)
  simpa using this
 | some j =>
  obtain ⟨hj, h1, h2⟩ := List.findIdx?_eq_some_iff_getElem.1 hf
  rw [List.find?_range_eq_some]
  refine ⟨?_, List.mem_range.2 hj, fun k hk => ?_⟩
  · rw [e j hj, getElem!_pos zs j hj]; exact h1
  ·
   rw [e k (by omega), getElem!_pos zs k (by omega)]
   simpa using h2 k hk
theorem u8_back (c : UInt8) : ((c.toNat : Nat) : Int).toNat.toUInt8 = c := by simp
theorem ixb_calm (P : Program) (zs : List UInt8) (c : UInt8) : calm P (Extern.BytealgIndexByte.indexByte #[.string ⟨zs.toArray⟩, .int .u8 (c.toNat : Nat)]) = some (.int .i64 (ixV zs c)) := by
 show calm P (match ((List.range (ByteArray.mk zs.toArray).size).find? fun i => (ByteArray.mk zs.toArray)[i]! == ((c.toNat : Nat) : Int).toNat.toUInt8) with
  | some i => Sem.pure (Value.int .i64 (i : Nat))
  | none => Sem.pure (Value.int .i64 (-1))) = _
 rw [u8_back, find_range]
 unfold ixV
 cases zs.findIdx? (· == c) <;> rfl
set_option maxHeartbeats 4000000 in
theorem ixb_spec (zs : List UInt8) (c : UInt8) (h : AHeap) : CallS Tryd.prog [] 59 [.string ⟨zs.toArray⟩, .int .u8 (c.toNat : Nat)] h fun v h' => v = .int .i64 (ixV zs c) ∧ h' = h := by
 (refine CallS.of2 Tryd.func59 rfl Tryd.ntmps59 Tryd.results59 rfl ?_)
 (refine Go.run (g:=?_))
 refine goR_extC rfl rfl rfl rfl rfl rfl Tryd.func73 (by kernel_rfl) (by kernel_rfl) (by kernel_rfl) (e := Extern.BytealgIndexByte.indexByte) (by kernel_rfl) rfl (ixb_calm _ zs c) rfl ?_
 (refine Go.run (g:=?_))
 (first|refine Go.finA rfl ?_|refine Go.finB rfl (hq:=?_))
 exact ⟨rfl, rfl⟩
def cntV (zs : List UInt8) (c : UInt8) : Nat := zs.count c
theorem cnt_calm (P : Program) (zs : List UInt8) (c : UInt8) : calm P (Extern.BytealgCount.count #[.string ⟨zs.toArray⟩, .int .u8 (c.toNat : Nat)]) = some (.int .i64 (cntV zs c : Nat)) := by
 show calm P (Sem.pure (goInt ((ByteArray.mk zs.toArray).foldl (fun (n : Int) x => if x == ((c.toNat : Nat) : Int).toNat.toUInt8 then n + 1 else n) ((0 : Nat) : Int)))) = _
 rw [u8_back, Go.Lib.foldl_data, Go.Lib.count_foldl]
 simp [goInt, calm, cntV, Go.Lib.countByte]
set_option maxHeartbeats 4000000 in
theorem cnt_spec (zs : List UInt8) (c : UInt8) (h : AHeap) : CallS Tryd.prog [] 43 [.string ⟨zs.toArray⟩, .string ⟨[c].toArray⟩] h fun v h' => v = .int .i64 (cntV zs c : Nat) ∧ h' = h := by
 (refine CallS.of2 Tryd.func43 rfl Tryd.ntmps43 Tryd.results43 rfl ?_)
 (refine Go.run (g:=?_))
 refine GoR.strAtI (zs := [c]) rfl rfl rfl rfl rfl rfl (by decide) (z := c) rfl ?_
 (refine Go.run (g:=?_))
 refine goR_extC rfl rfl rfl rfl rfl rfl Tryd.func58 (by kernel_rfl) (by kernel_rfl) (by kernel_rfl) (e := Extern.BytealgCount.count) (by kernel_rfl) rfl (cnt_calm _ zs c) rfl ?_
 (refine Go.run (g:=?_))
 (first|refine Go.finA rfl ?_|refine Go.finB rfl (hq:=?_))
 exact ⟨rfl, rfl⟩
noncomputable def ixK : List Value → AHeap → Option (Value × AHeap × List Nat)
 | [.string s, .int .u8 (.ofNat k)], h => Bool.rec none (some (.int .i64 (ixV s.data.toList (UInt8.ofNat k)), h, [])) (Nat.blt k 256)
 | _, _ => none
noncomputable def cntK : List Value → AHeap → Option (Value × AHeap × List Nat)
 | [.string s, .string t], h => match t.data.toList with
  | [c] => some (.int .i64 (cntV s.data.toList c : Nat), h, [])
  | _ => none
 | _, _ => none
noncomputable def strOn : Summ := fun f args h => Bool.rec (Bool.rec none (cntK args h) (Nat.beq f 43)) (ixK args h) (Nat.beq f 59)
theorem strOn_ok : SOk Tryd.prog strOn := fun f args h v h' wr e => by
 unfold strOn at e
 cases h1 : Nat.beq f 59 with
 | true =>
  rw [h1] at e
  obtain rfl := Nat.eq_of_beq_eq_true h1
  unfold ixK at e
  split at e
  case h_2 => cases e
  rename_i s k
  cases h2 : Nat.blt k 256 with
  | false => rw [h2] at e; cases e
  | true =>
   rw [h2] at e
   cases e
   have hk : k < 256 := by simpa [Nat.blt_eq] using h2
   obtain ⟨v, h', hc, rfl, rfl⟩ := ixb_spec s.data.toList (UInt8.ofNat k) h
   have e1 : (((UInt8.ofNat k).toNat : Nat) : Int) = Int.ofNat k := by
    rw [UInt8.toNat_ofNat', Nat.mod_eq_of_lt (by omega)]; rfl
   rw [e1] at hc
   exact hc
 | false =>
  rw [h1] at e
  cases h2 : Nat.beq f 43 with
  | false => rw [h2] at e; cases e
  | true =>
   rw [h2] at e
   obtain rfl := Nat.eq_of_beq_eq_true h2
   have e : cntK args h = some (v, h', wr) := e
   unfold cntK at e
   split at e
   case h_2 => cases e
   rename_i s t _
   obtain ⟨⟨tl⟩⟩ := t
   cases tl with
   | nil => cases e
   | cons c r => cases r with
    | nil =>
     cases e
     obtain ⟨v, h', hc, rfl, rfl⟩ := cnt_spec s.data.toList c h
     exact hc
    | cons _ _ => cases e
end Go.Proofs.YtncbbeghkpjpbaaDoor
namespace Go.Proofs.YtncbbeghkpjpbaaDoor
open Go.RowKit
set_option maxRecDepth 100000
attribute [local irreducible] Go GoR GoL
set_option maxHeartbeats 4000000 in
theorem digitsN_spec : ∀ (n : Nat), n < 9223372036854775808 → ∀ h : AHeap, CallS Tryd.prog [] 22 [.int .i64 (n : Nat)] h fun v h' => v = .string ⟨(dg n).toArray⟩ := by
 intro n
 induction n using Nat.strongRecOn with
 | _ n ih =>
  intro hn h
  (refine CallS.of1 Tryd.func22 rfl Tryd.ntmps22 Tryd.results22 rfl ?_)
  (refine Go.run (g:=?_))
  have e15 : ((((48 + n % 10) % 256 : Nat) : Int)) = ((dch (n % 10)).toNat : Nat) := by rw [dch_nat (by omega)]; omega
  rw [e15]
  refine GoR.buildRo (c := [dch (n % 10)].map bv) rfl rfl rfl rfl rfl (by decide) (by rfl) (by rfl) ?_
  intro b h1 r1 ro1 ow1 s1 n1
  rcases Nat.lt_or_ge n 10 with hs | hs
  ·
   (refine Go.run (g:=?_))
   (first|refine Go.finA rfl ?_|refine Go.finB rfl (hq:=?_))
   rw [dg_small hs, Nat.mod_eq_of_lt hs]; rfl
  ·
   (refine Go.run (g:=?_))
   refine GoR.call rfl rfl rfl rfl rfl rfl rfl (((ih (n / 10) (by omega) (by omega) _).argA).mono ?_)
   rintro _ h2 rfl s2
   (refine Go.run (g:=?_))
   refine GoR.strAdd rfl rfl rfl rfl rfl rfl ?_ ?_
   ·
    have := dg_len 19 (n / 10) (by omega)
    simp only [List.length_cons, List.length_nil]; omega
   (refine Go.run (g:=?_))
   (first|refine Go.finA rfl ?_|refine Go.finB rfl (hq:=?_))
   rw [dg_big hs]; rfl
set_option maxHeartbeats 4000000 in
theorem digits_spec (n : Int) (h0 : -9223372036854775808 ≤ n) (h1 : n < 9223372036854775808) (h : AHeap) : CallS Tryd.prog [] 22 [.int .i64 n] h fun v h' => v = .string ⟨(dgI n).toArray⟩ := by
 rcases Int.lt_or_le n 0 with hn | hn
 case inr =>
  obtain ⟨k, rfl⟩ : ∃ k : Nat, n = k := ⟨n.toNat, by omega⟩
  rw [dgI_nat]
  exact digitsN_spec k (by omega) h
 obtain ⟨k, hk, rfl⟩ : ∃ k : Nat, 0 < k ∧ n = -(k : Int) := ⟨(-n).toNat, by omega, by omega⟩
 rw [dgI_neg hk]
 (refine CallS.of1 Tryd.func22 rfl Tryd.ntmps22 Tryd.results22 rfl ?_)
 by_cases hm : k = 9223372036854775808
 ·
  subst hm
  (refine Go.run (g:=?_))
  (first|refine Go.finA rfl ?_|refine Go.finB rfl (hq:=?_))
  rw [← pd_dg 18 9223372036854775808 (.inr (by decide)) (by decide)]
  show Value.string _ = Value.string _
  congr 2
 ·
  (refine Go.run (g:=?_))
  refine GoR.neg rfl rfl rfl rfl rfl ?_
  rw [show IntKind.i64.wrap (0 - -(k : Int)) = (k : Nat) from by rw [show (0 - -(k : Int)) = (k : Nat) from by omega]; exact Sm.wrap (k := .i64) (by show k < 2 ^ (64 - 1); omega)]
  (refine Go.run (g:=?_))
  refine GoR.call rfl rfl rfl rfl rfl rfl rfl (((digitsN_spec k (by omega) _).argA).mono ?_)
  rintro _ h2 rfl s2
  (refine Go.run (g:=?_))
  refine GoR.strAdd (a := [45]) rfl rfl rfl rfl rfl rfl ?_ ?_
  ·
   have := dg_len 19 k (by omega)
   simp only [List.length_cons, List.length_nil]; omega
  (refine Go.run (g:=?_))
  (first|refine Go.finA rfl ?_|refine Go.finB rfl (hq:=?_))
  rfl
end Go.Proofs.YtncbbeghkpjpbaaDoor
namespace Go.Proofs.YtncbbeghkpjpbaaDoor
open Go.RowKit
set_option maxRecDepth 100000
def pow10L : List Value := (List.range 20).map fun i => .int .u64 ((10 ^ i : Nat) : Int)
def GH : AHeap := AHeap.put ⟨8, .nil⟩ 1 (some (.ro pow10L))
theorem GH_get (i : Nat) (o : AObj) (e : GH.get i = some o) : i = 1 ∧ o = .ro pow10L := by
 unfold GH at e
 rw [AHeap.get_put] at e
 split at e
 ·
  rename_i h
  rw [if_pos (by subst h; decide)] at e
  cases e; exact ⟨h.symm, rfl⟩
 · simp [AHeap.get, Tr.get] at e
theorem pow10_flat : ∀ x ∈ pow10L, flatB x = true := List.all_eq_true.1 (by decide)
theorem GH_flat : FlatRo GH := fun i o e => by
 obtain ⟨rfl, rfl⟩ := GH_get i o e
 exact ⟨_, rfl, pow10_flat⟩
theorem GH_size : Tryd.prog.globals.size ≤ GH.n := by rw [nGlobals]; exact Nat.le_refl 8
theorem Holds.pow {h : AHeap} (k : Holds GH h) : h.get 1 = some (.ro pow10L) := k.2 _ _ (by unfold GH; rw [AHeap.get_put, if_pos rfl, if_pos (by decide)])
def asB32 : Value → AHeap → List Nat → Option Bool
 | .bool b, _, _ => some b
 | _, _, _ => none
theorem asB32_true {v : Value} {h : AHeap} {wr : List Nat} (e : asB32 v h wr = some true) : v = .bool true := by
 unfold asB32 at e
 split at e
 · cases e; rfl
 · cases e
theorem known32Run : callK (A := Bool) Tryd.prog strOn (fev Tryd.prog strOn 50000) 5 [] GH asB32 = some true := by kernel_rfl
theorem known32 (h : AHeap) (hG : Holds GH h) : CallS Tryd.prog [] 5 [] h fun u h' => u = .bool true ∧ h' = h := by
 obtain ⟨v, h', wr, hc, he⟩ := callRun_of strOn_ok known32Run
 obtain rfl := asB32_true he
 exact CallS.knownG GH_flat GH_size hc rfl h hG
end Go.Proofs.YtncbbeghkpjpbaaDoor
namespace Go.Proofs.YtncbbeghkpjpbaaDoor
open Go.RowKit
set_option maxRecDepth 100000
attribute [local irreducible] Go GoR GoL
set_option maxHeartbeats 4000000 in
theorem len64_spec (x : Nat) (hx : x < 18446744073709551616) (h : AHeap) : CallS Tryd.prog [] 88 [.int .u64 (x : Nat)] h fun v h' => ∃ b : Nat, v = .int .i64 (b : Nat) ∧ b ≤ 64 ∧ Bl x b := by
 (refine CallS.of1 Tryd.func88 rfl Tryd.ntmps88 Tryd.results88 rfl ?_)
 rcases Nat.lt_or_ge x 4294967296 with g32 | g32
 ·
  skip
  rcases Nat.lt_or_ge x 65536 with g16 | g16
  ·
   skip
   rcases Nat.lt_or_ge x 256 with g8 | g8
   ·
    skip
    obtain ⟨t, t1, t2, t3⟩ := len8_at (y := x) (by omega)
    have t4 : (UInt8.ofNat t).toNat = t := by rw [UInt8.toNat_ofNat', Nat.mod_eq_of_lt (by omega)]
    (refine Go.run (g:=?_))
    rw [show x % 256 = x from Nat.mod_eq_of_lt (by omega)]
    refine GoR.strAt (zs := len8L) rfl rfl rfl rfl rfl rfl t1 ?_
    rw [t4]
    (refine Go.run (g:=?_))
    (first|refine Go.finA rfl ?_|refine Go.finB rfl (hq:=?_))
    exact ⟨t, by rw [Nat.zero_add]; rfl, by omega, t3⟩
   ·
    skip
    obtain ⟨x', e8⟩ : ∃ z, x / 2 ^ 8 = z := ⟨_, rfl⟩
    (refine Go.run (g:=?_))
    rw [e8]
    obtain ⟨t, t1, t2, t3⟩ := len8_at (y := x') (by omega)
    have t4 : (UInt8.ofNat t).toNat = t := by rw [UInt8.toNat_ofNat', Nat.mod_eq_of_lt (by omega)]
    (refine Go.run (g:=?_))
    rw [show x' % 256 = x' from Nat.mod_eq_of_lt (by omega)]
    refine GoR.strAt (zs := len8L) rfl rfl rfl rfl rfl rfl t1 ?_
    rw [t4]
    (refine Go.run (g:=?_))
    (first|refine Go.finA rfl ?_|refine Go.finB rfl (hq:=?_))
    exact ⟨8 + t, rfl, by omega, by have := (Bl.up t3 e8 (by omega)); rwa [show 8 + t = 8 + t from by omega] at this⟩
  ·
   skip
   obtain ⟨x', e16⟩ : ∃ z, x / 2 ^ 16 = z := ⟨_, rfl⟩
   (refine Go.run (g:=?_))
   rw [e16]
   rcases Nat.lt_or_ge x' 256 with g8 | g8
   ·
    skip
    obtain ⟨t, t1, t2, t3⟩ := len8_at (y := x') (by omega)
    have t4 : (UInt8.ofNat t).toNat = t := by rw [UInt8.toNat_ofNat', Nat.mod_eq_of_lt (by omega)]
    (refine Go.run (g:=?_))
    rw [show x' % 256 = x' from Nat.mod_eq_of_lt (by omega)]
    refine GoR.strAt (zs := len8L) rfl rfl rfl rfl rfl rfl t1 ?_
    rw [t4]
    (refine Go.run (g:=?_))
    (first|refine Go.finA rfl ?_|refine Go.finB rfl (hq:=?_))
    exact ⟨16 + t, rfl, by omega, by have := (Bl.up t3 e16 (by omega)); rwa [show 16 + t = 16 + t from by omega] at this⟩
   ·
    skip
    obtain ⟨x'', e8⟩ : ∃ z, x' / 2 ^ 8 = z := ⟨_, rfl⟩
    (refine Go.run (g:=?_))
    rw [e8]
    obtain ⟨t, t1, t2, t3⟩ := len8_at (y := x'') (by omega)
    have t4 : (UInt8.ofNat t).toNat = t := by rw [UInt8.toNat_ofNat', Nat.mod_eq_of_lt (by omega)]
    (refine Go.run (g:=?_))
    rw [show x'' % 256 = x'' from Nat.mod_eq_of_lt (by omega)]
    refine GoR.strAt (zs := len8L) rfl rfl rfl rfl rfl rfl t1 ?_
    rw [t4]
    (refine Go.run (g:=?_))
    (first|refine Go.finA rfl ?_|refine Go.finB rfl (hq:=?_))
    exact ⟨24 + t, rfl, by omega, by have := (Bl.up (Bl.up t3 e8 (by omega)) e16 (by omega)); rwa [show 16 + (8 + t) = 24 + t from by omega] at this⟩
 ·
  skip
  obtain ⟨x', e32⟩ : ∃ z, x / 2 ^ 32 = z := ⟨_, rfl⟩
  (refine Go.run (g:=?_))
  rw [e32]
  rcases Nat.lt_or_ge x' 65536 with g16 | g16
  ·
   skip
   rcases Nat.lt_or_ge x' 256 with g8 | g8
   ·
    skip
    obtain ⟨t, t1, t2, t3⟩ := len8_at (y := x') (by omega)
    have t4 : (UInt8.ofNat t).toNat = t := by rw [UInt8.toNat_ofNat', Nat.mod_eq_of_lt (by omega)]
    (refine Go.run (g:=?_))
    rw [show x' % 256 = x' from Nat.mod_eq_of_lt (by omega)]
    refine GoR.strAt (zs := len8L) rfl rfl rfl rfl rfl rfl t1 ?_
    rw [t4]
    (refine Go.run (g:=?_))
    (first|refine Go.finA rfl ?_|refine Go.finB rfl (hq:=?_))
    exact ⟨32 + t, rfl, by omega, by have := (Bl.up t3 e32 (by omega)); rwa [show 32 + t = 32 + t from by omega] at this⟩
   ·
    skip
    obtain ⟨x'', e8⟩ : ∃ z, x' / 2 ^ 8 = z := ⟨_, rfl⟩
    (refine Go.run (g:=?_))
    rw [e8]
    obtain ⟨t, t1, t2, t3⟩ := len8_at (y := x'') (by omega)
    have t4 : (UInt8.ofNat t).toNat = t := by rw [UInt8.toNat_ofNat', Nat.mod_eq_of_lt (by omega)]
    (refine Go.run (g:=?_))
    rw [show x'' % 256 = x'' from Nat.mod_eq_of_lt (by omega)]
    refine GoR.strAt (zs := len8L) rfl rfl rfl rfl rfl rfl t1 ?_
    rw [t4]
    (refine Go.run (g:=?_))
    (first|refine Go.finA rfl ?_|refine Go.finB rfl (hq:=?_))
    exact ⟨40 + t, rfl, by omega, by have := (Bl.up (Bl.up t3 e8 (by omega)) e32 (by omega)); rwa [show 32 + (8 + t) = 40 + t from by omega] at this⟩
  ·
   skip
   obtain ⟨x'', e16⟩ : ∃ z, x' / 2 ^ 16 = z := ⟨_, rfl⟩
   (refine Go.run (g:=?_))
   rw [e16]
   rcases Nat.lt_or_ge x'' 256 with g8 | g8
   ·
    skip
    obtain ⟨t, t1, t2, t3⟩ := len8_at (y := x'') (by omega)
    have t4 : (UInt8.ofNat t).toNat = t := by rw [UInt8.toNat_ofNat', Nat.mod_eq_of_lt (by omega)]
    (refine Go.run (g:=?_))
    rw [show x'' % 256 = x'' from Nat.mod_eq_of_lt (by omega)]
    refine GoR.strAt (zs := len8L) rfl rfl rfl rfl rfl rfl t1 ?_
    rw [t4]
    (refine Go.run (g:=?_))
    (first|refine Go.finA rfl ?_|refine Go.finB rfl (hq:=?_))
    exact ⟨48 + t, rfl, by omega, by have := (Bl.up (Bl.up t3 e16 (by omega)) e32 (by omega)); rwa [show 32 + (16 + t) = 48 + t from by omega] at this⟩
   ·
    skip
    obtain ⟨x''', e8⟩ : ∃ z, x'' / 2 ^ 8 = z := ⟨_, rfl⟩
    (refine Go.run (g:=?_))
    rw [e8]
    obtain ⟨t, t1, t2, t3⟩ := len8_at (y := x''') (by omega)
    have t4 : (UInt8.ofNat t).toNat = t := by rw [UInt8.toNat_ofNat', Nat.mod_eq_of_lt (by omega)]
    (refine Go.run (g:=?_))
    rw [show x''' % 256 = x''' from Nat.mod_eq_of_lt (by omega)]
    refine GoR.strAt (zs := len8L) rfl rfl rfl rfl rfl rfl t1 ?_
    rw [t4]
    (refine Go.run (g:=?_))
    (first|refine Go.finA rfl ?_|refine Go.finB rfl (hq:=?_))
    exact ⟨56 + t, rfl, by omega, by have := (Bl.up (Bl.up (Bl.up t3 e8 (by omega)) e16 (by omega)) e32 (by omega)); rwa [show 32 + (16 + (8 + t)) = 56 + t from by omega] at this⟩
theorem pow2_spec (x : Nat) (hx : x ≤ 64) (h : AHeap) : CallS Tryd.prog [] 87 [.int .i64 (x : Nat)] h fun v h' => v = .int .i64 ((x * 78913 / 262144 : Nat) : Nat) := by
 (refine CallS.of1 Tryd.func87 rfl Tryd.ntmps87 Tryd.results87 rfl ?_)
 (refine Go.run (g:=?_))
 (first|refine Go.finA rfl ?_|refine Go.finB rfl (hq:=?_))
 rfl
theorem bool2_spec (b : Bool) (h : AHeap) : CallS Tryd.prog [] 89 [.bool b] h fun v h' => v = .int .i64 (b.toNat : Nat) := by
 (refine CallS.of1 Tryd.func89 rfl Tryd.ntmps89 Tryd.results89 rfl ?_)
 cases b
 ·
  (refine Go.run (g:=?_))
  (first|refine Go.finA rfl ?_|refine Go.finB rfl (hq:=?_))
  rfl
 ·
  (refine Go.run (g:=?_))
  (first|refine Go.finA rfl ?_|refine Go.finB rfl (hq:=?_))
  rfl
theorem small_spec (x : Nat) (hx : x < 100) (h : AHeap) : CallS Tryd.prog [] 67 [.int .i64 (x : Nat)] h fun v h' => v = .string ⟨(dg x).toArray⟩ := by
 (refine CallS.of1 Tryd.func67 rfl Tryd.ntmps67 Tryd.results67 rfl ?_)
 rcases Nat.lt_or_ge x 10 with h1 | h1
 ·
  (refine Go.run (g:=?_))
  refine GoR.strLH (zs := digL) (l := x) (r := x + 1) rfl rfl rfl rfl rfl rfl rfl (by omega) (by rw [digL_len]; omega) ?_
  rw [digL_at h1]
  (refine Go.run (g:=?_))
  (first|refine Go.finA rfl ?_|refine Go.finB rfl (hq:=?_))
  rw [dg_small h1]; rfl
 ·
  (refine Go.run (g:=?_))
  refine GoR.strLH (zs := smallsL) (l := x * 2) (r := x * 2 + 2) rfl rfl rfl rfl rfl rfl rfl (by omega) (by rw [smalls_len]; omega) ?_
  rw [smalls2_at hx]
  (refine Go.run (g:=?_))
  (first|refine Go.finA rfl ?_|refine Go.finB rfl (hq:=?_))
  rw [dg_two hx h1]; rfl
end Go.Proofs.YtncbbeghkpjpbaaDoor
namespace Go.Proofs.YtncbbeghkpjpbaaDoor
open Go.RowKit
set_option maxRecDepth 100000
attribute [local irreducible] Go GoR GoL
theorem pow10L_at {k : Nat} (h : k ≤ 19) : pow10L[k]? = some (.int .u64 ((10 ^ k : Nat) : Int)) := by
 unfold pow10L
 rw [List.getElem?_map, List.getElem?_range (by omega)]
 rfl
set_option maxHeartbeats 4000000 in
theorem numDigits_spec (x : Nat) (h0 : 0 < x) (hx : x < 18446744073709551616) (h : AHeap) (hG : Holds GH h) : CallS Tryd.prog [] 68 [.int .u64 (x : Nat)] h fun v h' => ∃ k : Nat, v = .int .i64 ((k + 1 : Nat) : Int) ∧ k ≤ 19 ∧ (k = 0 ∨ 10 ^ k ≤ x) ∧ x < 10 ^ (k + 1) := by
 (refine CallS.of1 Tryd.func68 rfl Tryd.ntmps68 Tryd.results68 rfl ?_)
 (refine Go.run (g:=?_))
 refine GoR.call rfl rfl rfl rfl rfl rfl rfl (((len64_spec x hx _).argA).mono ?_)
 rintro _ h1 ⟨b, rfl, hb, b1⟩ s1
 (refine Go.run (g:=?_))
 refine GoR.call rfl rfl rfl rfl rfl rfl rfl (((pow2_spec b hb _).argA).mono ?_)
 rintro _ h2 rfl s2
 obtain ⟨d1, k, k1, k2, k3, k4⟩ := digits_of h0 hb b1
 generalize b * 78913 / 262144 = n at *
 (refine Go.run (g:=?_))
 rw [show 0 + ((n : Nat) : Int).toNat * 1 = 0 + n from by simp]
 have r1 : Rv Tryd.prog h2 1 (some ⟨1, 0, none⟩) 20 20 pow10L := .mk (.inr (((hG.same s1).same s2).pow)) (by decide) (Nat.le_refl _) (List.take_of_length_le (by decide))
 refine GoR.loadV (a := some ⟨1, 0, none⟩) (kv := n) rfl rfl rfl rfl rfl r1 (pow10L_at d1) ?_
 generalize hp : 10 ^ n = p at *
 (refine Go.run (g:=?_))
 rw [show decide ((p : Int) ≤ (x : Int)) = decide (p ≤ x) from by simp]
 refine GoR.call rfl rfl rfl rfl rfl rfl rfl (((bool2_spec _ _).argA).mono ?_)
 rintro _ h3 rfl s3
 have k5 : (decide (p ≤ x)).toNat ≤ 1 := Bool.toNat_le _
 (refine Go.run (g:=?_))
 (first|refine Go.finA rfl ?_|refine Go.finB rfl (hq:=?_))
 exact ⟨k, by rw [k2]; rfl, k1, k3, k4⟩
end Go.Proofs.YtncbbeghkpjpbaaDoor
namespace Go.Proofs.YtncbbeghkpjpbaaDoor
open Go.RowKit
set_option maxRecDepth 100000
attribute [local irreducible] Go GoR GoL
def Suf (cs : List Value) (n k U : Nat) : Prop := cs.length = n ∧ ∀ j, j < k → cs[n - 1 - j]? = some (bv (dch (U / 10 ^ j % 10)))
theorem Suf.two {cs : List Value} {n k U x p q : Nat} (h : Suf cs n k U) (hk : k + 2 ≤ n) (hx : U / 10 ^ k % 100 = x) (hp : p = n - 1 - k) (hq : q = n - 1 - (k + 1)) : Suf ((cs.set p (bv (dch (x % 10)))).set q (bv (dch (x / 10)))) n (k + 2) U := by
 refine ⟨by simp [h.1], fun j hj => ?_⟩
 have hl := h.1
 rcases Nat.lt_or_ge j k with h1 | h1
 ·
  rw [List.getElem?_set_ne (by omega), List.getElem?_set_ne (by omega)]
  exact h.2 j h1
 ·
  rcases Nat.eq_or_lt_of_le h1 with rfl | h2
  ·
   rw [List.getElem?_set_ne (by omega), ← hp, List.getElem?_set_self (by omega), ← hx]
   congr 3; omega
  ·
   obtain rfl : j = k + 1 := by omega
   rw [← hq, List.getElem?_set_self (by simp; omega), ← hx, Nat.pow_succ, ← Nat.div_div_eq_div_mul]
   congr 3; omega
theorem Suf.one {cs : List Value} {n k U x : Nat} (h : Suf cs n k U) (hk : k + 1 = n) (hx : U / 10 ^ k = x) (hx1 : x < 10) : Suf (cs.set 0 (bv (dch x))) n n U := by
 refine ⟨by simp [h.1], fun j hj => ?_⟩
 have hl := h.1
 rcases Nat.lt_or_ge j k with h1 | h1
 ·
  rw [List.getElem?_set_ne (by omega)]
  exact h.2 j h1
 ·
  obtain rfl : j = k := by omega
  rw [show n - 1 - j = 0 from by omega, List.getElem?_set_self (by omega), hx, Nat.mod_eq_of_lt hx1]
theorem Suf.done {cs : List Value} {n U : Nat} (h : Suf cs n n U) : cs = (pd n U).map bv := by
 apply List.ext_getElem?
 intro i
 rcases Nat.lt_or_ge i n with hi | hi
 ·
  have := h.2 (n - 1 - i) (by omega)
  rw [show n - 1 - (n - 1 - i) = i from by omega] at this
  rw [this, List.getElem?_map]
  have e := pd_at n U (n - 1 - i) (by omega)
  rw [show n - 1 - (n - 1 - i) = i from by omega] at e
  rw [e]; rfl
 · rw [List.getElem?_eq_none (by rw [h.1]; exact hi), List.getElem?_eq_none (by simp [pd_len]; exact hi)]
section
variable {P : Program} {W : Nat → Prop} {q : Bool} {N : Nat} {k : List It} {ov : Ov} {df : List Nat} {h : AHeap} {Q : PQ} {id : Nat} {ops : Array Oper} {os : List Oper} {o : Oper} {d : Nat} {b₀ : Bool} {tr : List (Option LE)}
theorem GoL.indexQ {t tt : TypeId} {x y : Operand} {kk : IntKind} {i sz : Nat} {a : Option Addr} {len cap : Nat} {cs : List Value} (ho : o.op = .indexAddr t x y) (hd : o.dst = some d) (hN : dOk d N = true) (hgd : o.guard = none) (hx : evO ov x = some (.slice a len cap)) (hy : evO ov y = some (.int kk (i : Int))) [he : EL P t (none, 1)] (hS : Sv h tt sz a len cap cs) (h1 : i < len) (g : GoL P W q N ops (tr ++ [none]) os k ((d, ptA a i) :: ov) df h Q) : GoL P W q N ops tr (o :: os) k ov df h Q := by
 cases hS with
 | nil => omega
 | @mk b off _ _ _ _ _ _ _ _ =>
  have e : off + (i : Int).toNat * 1 = off + i := by simp
  exact GoL.indexS ho hd hN hgd hx hy (by omega) (by omega) (by rw [e]; exact g)
theorem GoR.indexQ {t tt : TypeId} {x y : Operand} {kk : IntKind} {i sz : Nat} {a : Option Addr} {len cap : Nat} {cs : List Value} (ho : o.op = .indexAddr t x y) (hd : o.dst = some d) (hN : dOk d N = true) (hgd : o.guard = none) (hx : evO ov x = some (.slice a len cap)) (hy : evO ov y = some (.int kk (i : Int))) [he : EL P t (none, 1)] (hS : Sv h tt sz a len cap cs) (h1 : i < len) (g : GoR P W q N ops b₀ os k ((d, ptA a i) :: ov) df h Q) : GoR P W q N ops b₀ (o :: os) k ov df h Q := by
 cases hS with
 | nil => omega
 | @mk b off _ _ _ _ _ _ _ _ =>
  have e : off + (i : Int).toNat * 1 = off + i := by simp
  exact GoR.indexS ho hd hN hgd hx hy (by omega) (by omega) (by rw [e]; exact g)
end
theorem keeps_tr {wr : List Nat} {h h' h₂ : AHeap} (k : Keeps wr h h') (k' : Keeps wr h' h₂) : Keeps wr h h₂ := ⟨Nat.le_trans k.1 k'.1, fun i hi hn => (k'.2 i (Nat.lt_of_lt_of_le hi k.1) hn).trans (k.2 i hi hn)⟩
set_option maxHeartbeats 4000000 in
theorem fb10_spec (U n : Nat) (hn : n ≤ 20) (hU : U < 10 ^ n) (hU64 : U < 18446744073709551616) (tt : TypeId) (a : Option Addr) (cap : Nat) (cs : List Value) (h : AHeap) (hS : Sv h tt 1 a n cap cs) : CallS Tryd.prog (blk a) 69 [.slice a n cap, .int .u64 (U : Nat)] h fun v h' => Sv h' tt 1 a n cap ((pd n U).map bv) := by
 have hW : ∀ i ∈ blk a, i ∈ blk a ∨ h.n ≤ i := fun i hi => .inl hi
 have hlen : cs.length = n := by
  cases hS with
  | nil => rfl
  | mk hg ho hl hc => rw [← hc, List.length_take, List.length_drop]; omega
 (refine CallS.of2 Tryd.func69 rfl Tryd.ntmps69 Tryd.results69 rfl ?_)
 (refine Go.run (g:=?_))
 refine Go.loop (α := Nat × Nat × Nat × List Value × AHeap) (fun s => [(4, .int .i64 (s.1 : Nat)), (1, .int .u64 (s.2.2.1 : Nat)), (0, .slice a n cap)]) (fun _ => []) (fun s => s.2.2.2.2) (fun s => s.1 + s.2.1 = n ∧ s.2.2.1 = U / 10 ^ s.2.1 ∧ s.2.2.1 < 10 ^ s.1 ∧ Suf s.2.2.2.1 n s.2.1 U ∧ Keeps (blk a) h s.2.2.2.2 ∧ Sv s.2.2.2.2 tt 1 a n cap s.2.2.2.1) (fun s => s.1) (n, 0, U, cs, h) ?_ ?_ rfl rfl ?_
 · exact ⟨rfl, by simp, hU, ⟨hlen, fun j hj => absurd hj (Nat.not_lt_zero j)⟩, ⟨Nat.le_refl _, fun _ _ _ => rfl⟩, hS⟩
 · exact ⟨rfl, rfl, rfl, trivial⟩
 rintro ⟨m, k, u, ds, H⟩ ⟨e1, e2, e3, f, kp, sv⟩
 simp only at e1 e2 e3 f kp sv ⊢
 have u64 : u < 18446744073709551616 := by rw [e2]; exact Nat.lt_of_le_of_lt (Nat.div_le_self _ _) hU64
 have m20 : m ≤ 20 := by omega
 rcases Nat.lt_or_ge m 8 with hm | hm
 ·
  have u32 : u < 10000000 := Nat.lt_of_lt_of_le e3 (Nat.le_trans (Nat.pow_le_pow_right (by decide) (show m ≤ 7 by omega)) (by decide))
  have q0 : U / 10 ^ k = u := e2.symm
  clear e2 hU
  (refine Go.run (g:=?_))
  refine Go.join1 (α := Nat × Nat × Nat × List Value × AHeap) (fun s => [(4, .int .i64 (s.1 : Nat)), (12, .int .u32 (s.2.2.1 : Nat)), (0, .slice a n cap)]) (fun _ => []) (fun s => s.2.2.2.2) (fun s => s.1 + s.2.1 = n ∧ U / 10 ^ s.2.1 = s.2.2.1 ∧ s.2.2.1 < 10 ^ s.1 ∧ s.1 < 4 ∧ Suf s.2.2.2.1 n s.2.1 U ∧ Keeps (blk a) h s.2.2.2.2 ∧ Sv s.2.2.2.2 tt 1 a n cap s.2.2.2.1) ?_ ?_
  ·
   rcases Nat.lt_or_ge m 4 with h4 | h4
   ·
    (refine Go.run (g:=?_))
    exact Go.joined (m, k, u, ds, H) ⟨e1, q0, e3, h4, f, kp, sv⟩ ⟨rfl, rfl, rfl, trivial⟩ rfl rfl
   ·
    have q2 : U / 10 ^ (k + 2) = u / 100 := by rw [Nat.pow_add, ← Nat.div_div_eq_div_mul, q0]
    have q4 : U / 10 ^ (k + 2 + 2) = u / 10000 := by rw [show k + 2 + 2 = k + 4 from rfl, Nat.pow_add, ← Nat.div_div_eq_div_mul, q0]
    have hnx : u / 10000 < 10 ^ (m - 4) := by
     rw [show m = (m - 4) + 4 from by omega, Nat.pow_add] at e3
     exact (Nat.div_lt_iff_lt_mul (by decide)).2 e3
    refine Go.runN (g:=?_)
    generalize g0 : u % 10000 % 100 = x0
    generalize g1 : u % 10000 / 100 = x1
    have l0 : x0 < 100 := by omega
    have l1 : x1 < 100 := by omega
    have f0 := f.two (x := x0) (p := m - 1) (q := m - 2) (by omega) (by rw [q0]; omega) (by omega) (by omega)
    have f1 := f0.two (x := x1) (p := m - 3) (q := m - 4) (by omega) (by rw [q2]; omega) (by omega) (by omega)
    have t3 : True → (U / 10 ^ (k + 2 + 2) = u / 10000 ∧ u / 10000 < 10 ^ (m - 4)) := fun _ => ⟨q4, hnx⟩
    clear g0 g1 q0 q2 q4 hnx f0 e3
    have dl : ds.length = n := f.1
    refine Go.loud (by kernel_rfl) rfl ?_
    (refine Go.runL (g:=?_))
    refine GoL.strAt (zs := smallsL) rfl rfl rfl rfl rfl rfl (smalls_lo l0) ?_
    (refine Go.runL (g:=?_))
    refine GoL.strAt (zs := smallsL) rfl rfl rfl rfl rfl rfl (smalls_hi l0) ?_
    (refine Go.runL (g:=?_))
    refine GoL.indexQ (i := m - 1) rfl rfl rfl rfl rfl rfl sv (by omega) ?_
    (refine Go.runL (g:=?_))
    refine GoL.store1' rfl rfl rfl rfl rfl rfl (hS := sv) (hw := hW) (g:=?_)
    intro Ha0 sva0 ka0 na0
    (refine Go.runL (g:=?_))
    refine GoL.indexQ (i := m - 2) rfl rfl rfl rfl rfl rfl sva0 (by omega) ?_
    (refine Go.runL (g:=?_))
    refine GoL.store1' rfl rfl rfl rfl rfl rfl (hS := sva0) (hw := hW) (g:=?_)
    intro Hb0 sv kb0 nb0
    (refine Go.runL (g:=?_))
    (refine GoL.end_ (g:=?_))
    refine Go.runN (g:=?_)
    refine Go.loud (by kernel_rfl) rfl ?_
    (refine Go.runL (g:=?_))
    refine GoL.strAt (zs := smallsL) rfl rfl rfl rfl rfl rfl (smalls_lo l1) ?_
    (refine Go.runL (g:=?_))
    refine GoL.strAt (zs := smallsL) rfl rfl rfl rfl rfl rfl (smalls_hi l1) ?_
    (refine Go.runL (g:=?_))
    refine GoL.indexQ (i := m - 3) rfl rfl rfl rfl rfl rfl sv (by omega) ?_
    (refine Go.runL (g:=?_))
    refine GoL.store1' rfl rfl rfl rfl rfl rfl (hS := sv) (hw := hW) (g:=?_)
    intro Ha1 sva1 ka1 na1
    (refine Go.runL (g:=?_))
    refine GoL.indexQ (i := m - 4) rfl rfl rfl rfl rfl rfl sva1 (by omega) ?_
    (refine Go.runL (g:=?_))
    refine GoL.store1' rfl rfl rfl rfl rfl rfl (hS := sva1) (hw := hW) (g:=?_)
    intro Hb1 sv kb1 nb1
    (refine Go.runL (g:=?_))
    (refine GoL.end_ (g:=?_))
    (refine Go.run (g:=?_))
    obtain ⟨t4, t5⟩ := t3 trivial
    exact Go.joined (m - 4, k + 2 + 2, u / 10000, _, Hb1) ⟨by simp only; omega, t4, t5, by simp only; omega, f1, keeps_tr (keeps_tr (keeps_tr (keeps_tr kp ka0) kb0) ka1) kb1, sv⟩ ⟨rfl, rfl, rfl, trivial⟩ rfl rfl
  clear hm u32 m20 u64 e3 q0 f kp sv e1
  clear m k u ds H
  rintro ⟨m, k, u, ds, H⟩ ⟨e1, q0, e3, h4, f, kp, sv⟩
  simp only at e1 q0 e3 h4 f kp sv ⊢
  have u32 : u < 10000 := Nat.lt_of_lt_of_le e3 (Nat.le_trans (Nat.pow_le_pow_right (by decide) (show m ≤ 4 by omega)) (by decide))
  (refine Go.run (g:=?_))
  refine Go.join1 (α := Nat × Nat × Nat × List Value × AHeap) (fun s => [(4, .int .i64 (s.1 : Nat)), (12, .int .u32 (s.2.2.1 : Nat)), (0, .slice a n cap)]) (fun _ => []) (fun s => s.2.2.2.2) (fun s => s.1 + s.2.1 = n ∧ U / 10 ^ s.2.1 = s.2.2.1 ∧ s.2.2.1 < 10 ^ s.1 ∧ s.1 < 2 ∧ Suf s.2.2.2.1 n s.2.1 U ∧ Keeps (blk a) h s.2.2.2.2 ∧ Sv s.2.2.2.2 tt 1 a n cap s.2.2.2.1) ?_ ?_
  ·
   rcases Nat.lt_or_ge m 2 with h2 | h2
   ·
    (refine Go.run (g:=?_))
    exact Go.joined (m, k, u, ds, H) ⟨e1, q0, e3, h2, f, kp, sv⟩ ⟨rfl, rfl, rfl, trivial⟩ rfl rfl
   ·
    have q2 : U / 10 ^ (k + 2) = u / 100 := by rw [Nat.pow_add, ← Nat.div_div_eq_div_mul, q0]
    have hnx : u / 100 < 10 ^ (m - 2) := by
     rw [show m = (m - 2) + 2 from by omega, Nat.pow_add] at e3
     exact (Nat.div_lt_iff_lt_mul (by decide)).2 e3
    refine Go.runN (g:=?_)
    generalize g0 : u % 100 = x0
    have l0 : x0 < 100 := by omega
    have f0 := f.two (x := x0) (p := m - 1) (q := m - 2) (by omega) (by rw [q0]; omega) (by omega) (by omega)
    have t3 : True → (U / 10 ^ (k + 2) = u / 100 ∧ u / 100 < 10 ^ (m - 2)) := fun _ => ⟨q2, hnx⟩
    clear g0 q0 q2 hnx e3
    have dl : ds.length = n := f.1
    refine Go.loud (by kernel_rfl) rfl ?_
    (refine Go.runL (g:=?_))
    refine GoL.strAt (zs := smallsL) rfl rfl rfl rfl rfl rfl (smalls_lo l0) ?_
    (refine Go.runL (g:=?_))
    refine GoL.strAt (zs := smallsL) rfl rfl rfl rfl rfl rfl (smalls_hi l0) ?_
    (refine Go.runL (g:=?_))
    refine GoL.indexQ (i := m - 1) rfl rfl rfl rfl rfl rfl sv (by omega) ?_
    (refine Go.runL (g:=?_))
    refine GoL.store1' rfl rfl rfl rfl rfl rfl (hS := sv) (hw := hW) (g:=?_)
    intro Ha0 sva0 ka0 na0
    (refine Go.runL (g:=?_))
    refine GoL.indexQ (i := m - 2) rfl rfl rfl rfl rfl rfl sva0 (by omega) ?_
    (refine Go.runL (g:=?_))
    refine GoL.store1' rfl rfl rfl rfl rfl rfl (hS := sva0) (hw := hW) (g:=?_)
    intro Hb0 sv kb0 nb0
    (refine Go.runL (g:=?_))
    (refine GoL.end_ (g:=?_))
    (refine Go.run (g:=?_))
    obtain ⟨t4, t5⟩ := t3 trivial
    exact Go.joined (m - 2, k + 2, u / 100, _, Hb0) ⟨by simp only; omega, t4, t5, by simp only; omega, f0, keeps_tr (keeps_tr kp ka0) kb0, sv⟩ ⟨rfl, rfl, rfl, trivial⟩ rfl rfl
  clear h4 u32 e3 q0 f kp sv e1
  clear m k u ds H
  rintro ⟨m, k, u, ds, H⟩ ⟨e1, q0, e3, h2, f, kp, sv⟩
  simp only at e1 q0 e3 h2 f kp sv ⊢
  rcases Nat.eq_zero_or_pos m with rfl | h0
  ·
   (refine Go.run (g:=?_))
   (first|refine Go.finA rfl ?_|refine Go.finB rfl (hq:=?_))
   obtain rfl : k = n := by omega
   rw [← f.done]
   exact sv
  ·
   obtain rfl : m = 1 := by omega
   have u10 : u < 10 := by simpa using e3
   have dl : ds.length = n := f.1
   have f1 := f.one (by omega) q0 u10
   clear e3 q0
   (refine Go.run (g:=?_))
   refine GoR.indexQ (i := 0) rfl rfl rfl rfl rfl rfl sv (by omega) ?_
   (refine Go.run (g:=?_))
   rw [show ((((48 + u) % 256 : Nat)) : Int) = ((dch u).toNat : Nat) from by rw [dch_nat u10]; omega]
   refine GoR.store1' rfl rfl rfl rfl rfl rfl (hS := sv) (hw := hW) (g:=?_)
   intro H3 sv3 k3 n3
   (refine Go.run (g:=?_))
   (first|refine Go.finA rfl ?_|refine Go.finB rfl (hq:=?_))
   rw [← f1.done]
   exact sv3
 ·
  have q2 : U / 10 ^ (k + 2) = u / 100 := by rw [Nat.pow_add, ← Nat.div_div_eq_div_mul, ← e2]
  have q4 : U / 10 ^ (k + 2 + 2) = u / 10000 := by rw [show k + 2 + 2 = k + 4 from rfl, Nat.pow_add, ← Nat.div_div_eq_div_mul, ← e2]
  have q6 : U / 10 ^ (k + 2 + 2 + 2) = u / 1000000 := by rw [show k + 2 + 2 + 2 = k + 6 from rfl, Nat.pow_add, ← Nat.div_div_eq_div_mul, ← e2]
  have q8 : U / 10 ^ (k + 8) = u / 100000000 := by rw [Nat.pow_add, ← Nat.div_div_eq_div_mul, ← e2]
  have hnx : u / 100000000 < 10 ^ (m - 8) := by
   rw [show m = (m - 8) + 8 from by omega, Nat.pow_add] at e3
   exact (Nat.div_lt_iff_lt_mul (by decide)).2 e3
  have q0 : U / 10 ^ k = u := e2.symm
  clear e3 e2 hU
  refine Go.runN (g:=?_)
  generalize g0 : u % 100000000 % 10000 % 100 = x0
  generalize g1 : u % 100000000 % 10000 / 100 = x1
  generalize g2 : u % 100000000 / 10000 % 100 = x2
  generalize g3 : u % 100000000 / 10000 / 100 = x3
  have l0 : x0 < 100 := by omega
  have l1 : x1 < 100 := by omega
  have l2 : x2 < 100 := by omega
  have l3 : x3 < 100 := by omega
  have f0 := f.two (x := x0) (p := m - 1) (q := m - 2) (by omega) (by rw [q0]; omega) (by omega) (by omega)
  have f1 := f0.two (x := x1) (p := m - 3) (q := m - 4) (by omega) (by rw [q2]; omega) (by omega) (by omega)
  have f2 := f1.two (x := x2) (p := m - 5) (q := m - 6) (by omega) (by rw [q4]; omega) (by omega) (by omega)
  have f3 := f2.two (x := x3) (p := m - 7) (q := m - 8) (by omega) (by rw [q6]; omega) (by omega) (by omega)
  have t3 : True → (u / 100000000 = U / 10 ^ (k + 8) ∧ u / 100000000 < 10 ^ (m - 8)) := fun _ => ⟨q8.symm, hnx⟩
  clear g0 g1 g2 g3 q0 q2 q4 q6 q8 hnx f0 f1 f2
  have dl : ds.length = n := f.1
  refine Go.loud (by kernel_rfl) rfl ?_
  (refine Go.runL (g:=?_))
  refine GoL.strAt (zs := smallsL) rfl rfl rfl rfl rfl rfl (smalls_lo l0) ?_
  (refine Go.runL (g:=?_))
  refine GoL.strAt (zs := smallsL) rfl rfl rfl rfl rfl rfl (smalls_hi l0) ?_
  (refine Go.runL (g:=?_))
  refine GoL.indexQ (i := m - 1) rfl rfl rfl rfl rfl rfl sv (by omega) ?_
  (refine Go.runL (g:=?_))
  refine GoL.store1' rfl rfl rfl rfl rfl rfl (hS := sv) (hw := hW) (g:=?_)
  intro Ha0 sva0 ka0 na0
  (refine Go.runL (g:=?_))
  refine GoL.indexQ (i := m - 2) rfl rfl rfl rfl rfl rfl sva0 (by omega) ?_
  (refine Go.runL (g:=?_))
  refine GoL.store1' rfl rfl rfl rfl rfl rfl (hS := sva0) (hw := hW) (g:=?_)
  intro Hb0 sv kb0 nb0
  (refine Go.runL (g:=?_))
  (refine GoL.end_ (g:=?_))
  refine Go.runN (g:=?_)
  refine Go.loud (by kernel_rfl) rfl ?_
  (refine Go.runL (g:=?_))
  refine GoL.strAt (zs := smallsL) rfl rfl rfl rfl rfl rfl (smalls_lo l1) ?_
  (refine Go.runL (g:=?_))
  refine GoL.strAt (zs := smallsL) rfl rfl rfl rfl rfl rfl (smalls_hi l1) ?_
  (refine Go.runL (g:=?_))
  refine GoL.indexQ (i := m - 3) rfl rfl rfl rfl rfl rfl sv (by omega) ?_
  (refine Go.runL (g:=?_))
  refine GoL.store1' rfl rfl rfl rfl rfl rfl (hS := sv) (hw := hW) (g:=?_)
  intro Ha1 sva1 ka1 na1
  (refine Go.runL (g:=?_))
  refine GoL.indexQ (i := m - 4) rfl rfl rfl rfl rfl rfl sva1 (by omega) ?_
  (refine Go.runL (g:=?_))
  refine GoL.store1' rfl rfl rfl rfl rfl rfl (hS := sva1) (hw := hW) (g:=?_)
  intro Hb1 sv kb1 nb1
  (refine Go.runL (g:=?_))
  (refine GoL.end_ (g:=?_))
  refine Go.runN (g:=?_)
  refine Go.loud (by kernel_rfl) rfl ?_
  (refine Go.runL (g:=?_))
  refine GoL.strAt (zs := smallsL) rfl rfl rfl rfl rfl rfl (smalls_lo l2) ?_
  (refine Go.runL (g:=?_))
  refine GoL.strAt (zs := smallsL) rfl rfl rfl rfl rfl rfl (smalls_hi l2) ?_
  (refine Go.runL (g:=?_))
  refine GoL.indexQ (i := m - 5) rfl rfl rfl rfl rfl rfl sv (by omega) ?_
  (refine Go.runL (g:=?_))
  refine GoL.store1' rfl rfl rfl rfl rfl rfl (hS := sv) (hw := hW) (g:=?_)
  intro Ha2 sva2 ka2 na2
  (refine Go.runL (g:=?_))
  refine GoL.indexQ (i := m - 6) rfl rfl rfl rfl rfl rfl sva2 (by omega) ?_
  (refine Go.runL (g:=?_))
  refine GoL.store1' rfl rfl rfl rfl rfl rfl (hS := sva2) (hw := hW) (g:=?_)
  intro Hb2 sv kb2 nb2
  (refine Go.runL (g:=?_))
  (refine GoL.end_ (g:=?_))
  refine Go.runN (g:=?_)
  refine Go.loud (by kernel_rfl) rfl ?_
  (refine Go.runL (g:=?_))
  refine GoL.strAt (zs := smallsL) rfl rfl rfl rfl rfl rfl (smalls_lo l3) ?_
  (refine Go.runL (g:=?_))
  refine GoL.strAt (zs := smallsL) rfl rfl rfl rfl rfl rfl (smalls_hi l3) ?_
  (refine Go.runL (g:=?_))
  refine GoL.indexQ (i := m - 7) rfl rfl rfl rfl rfl rfl sv (by omega) ?_
  (refine Go.runL (g:=?_))
  refine GoL.store1' rfl rfl rfl rfl rfl rfl (hS := sv) (hw := hW) (g:=?_)
  intro Ha3 sva3 ka3 na3
  (refine Go.runL (g:=?_))
  refine GoL.indexQ (i := m - 8) rfl rfl rfl rfl rfl rfl sva3 (by omega) ?_
  (refine Go.runL (g:=?_))
  refine GoL.store1' rfl rfl rfl rfl rfl rfl (hS := sva3) (hw := hW) (g:=?_)
  intro Hb3 sv kb3 nb3
  (refine Go.runL (g:=?_))
  (refine GoL.end_ (g:=?_))
  (refine Go.run (g:=?_))
  obtain ⟨t4, t5⟩ := t3 trivial
  have kz : Keeps (blk a) h Hb3 := keeps_tr (keeps_tr (keeps_tr (keeps_tr (keeps_tr (keeps_tr (keeps_tr (keeps_tr kp ka0) kb0) ka1) kb1) ka2) kb2) ka3) kb3
  refine Go.again (m - 8, k + 8, u / 100000000, _, Hb3) ⟨by simp only; omega, t4, t5, f3, kz, sv⟩ (by simp only; omega) ⟨rfl, rfl, rfl, trivial⟩ rfl rfl
end Go.Proofs.YtncbbeghkpjpbaaDoor
namespace Go.Proofs.YtncbbeghkpjpbaaDoor
open Go.RowKit
set_option maxRecDepth 100000
attribute [local irreducible] Go GoR GoL
theorem aStr_sv {P : Program} {h : AHeap} {t t₂ e tt : TypeId} (hu : P.underlying t = some (.slice e)) (hd : P.underlying t₂ = some .string) (he : P.underlying e = some (.int .u8)) {a : Option Addr} {len cap : Nat} {zs : List UInt8} (hS : Sv h tt 1 a len cap (zs.map bv)) : ∃ rd, aStr P h t t₂ (.slice a len cap) = some (⟨zs.toArray⟩, rd) ∧ ∀ i ∈ rd, i ∈ blk a := by
 generalize hz : zs.map bv = cs at hS
 cases hS with
 | nil =>
  obtain rfl : zs = [] := by simpa using hz
  exact ⟨[], by simp [aStr, hu, hd, he], fun i hi => by cases hi⟩
 | @mk b o _ _ c _ hg ho hl hc =>
  refine ⟨if len = 0 then [] else [b], ?_, fun i hi => by split at hi <;> simp at hi; simpa [blk] using hi⟩
  rw [Nat.mul_one] at ho hc
  simp only [aStr, hu, hd, he]
  by_cases h0 : len = 0
  ·
   subst h0
   rw [if_pos rfl]
   have : zs = [] := by rw [← hc] at hz; simpa using hz
   subst this
   simp
  ·
   rw [if_neg h0]
   simp only [hg, rowOf]
   rw [if_pos (by omega), hc, ← hz, u8s_bv, if_neg h0]
   simp [strOf_bv]
theorem aSlice_arr {P : Program} {h : AHeap} {t e : TypeId} {n l r b o : Nat} {lo hi : Option Value} (hu : P.underlying t = some (.array n e)) (hs : sizeT P e = some 1) (h1 : bnd 0 lo = some l) (h2 : bnd n hi = some r) (h3 : l ≤ r) (h4 : r ≤ n) : aSlice P h t lo hi none (.pointer (some ⟨b, o, none⟩)) = some (.slice (some ⟨b, o + l, none⟩) (r - l) (n - l)) := by
 have h5 : bnd n none = some n := rfl
 simp only [aSlice, hu, hs, h1, h2, h5]
 rw [if_pos ⟨h3, h4, Nat.le_refl _, fun e => by cases e⟩, Nat.mul_one]
section
variable {P : Program} {W : Nat → Prop} {q : Bool} {N : Nat} {k : List It} {ov : Ov} {df : List Nat} {h : AHeap} {Q : PQ} {id : Nat} {ops : Array Oper} {os : List Oper} {o : Oper} {d : Nat} {b₀ : Bool} {tr : List (Option LE)}
theorem GoR.strQ {t t₂ tt : TypeId} {x : Operand} {a : Option Addr} {len cap : Nat} {zs : List UInt8} (ho : o.op = .convert t t₂ x) (hd : o.dst = some d) (hN : dOk d N = true) (hgd : o.guard = none) (hx : evO ov x = some (.slice a len cap)) [hB : BY P t t₂] (hS : Sv h tt 1 a len cap (zs.map bv)) (g : GoR P W q N ops b₀ os k ((d, .string ⟨zs.toArray⟩) :: ov) df h Q) : GoR P W q N ops b₀ (o :: os) k ov df h Q := by
 obtain ⟨e, h1, h2⟩ := hB.h
 obtain ⟨rd, h3, h4⟩ := aStr_sv (P := P) (h := h) h1 hB.s h2 hS
 exact GoR.convStr ho hd hN hgd hx h3 g
end
theorem arr24 : Tryd.prog.underlying 112 = some (.array 24 5) := by kernel_rfl
theorem siz1 : sizeT Tryd.prog 5 = some 1 := by kernel_rfl
set_option maxHeartbeats 4000000 in
theorem fuint_spec (x : Nat) (hx : x < 18446744073709551616) (h : AHeap) (hG : Holds GH h) : CallS Tryd.prog [] 53 [.int .u64 (x : Nat), .int .i64 10] h fun v h' => v = .string ⟨(dg x).toArray⟩ := by
 (refine CallS.of2 Tryd.func53 rfl Tryd.ntmps53 Tryd.results53 rfl ?_)
 rcases Nat.lt_or_ge x 100 with h1 | h1
 ·
  (refine Go.run (g:=?_))
  refine GoR.call rfl rfl rfl rfl rfl rfl rfl (((small_spec x h1 _).argA).mono ?_)
  rintro _ h2 rfl s2
  (refine Go.run (g:=?_))
  (first|refine Go.finA rfl ?_|refine Go.finB rfl (hq:=?_))
  rfl
 ·
  (refine Go.run (g:=?_))
  refine GoR.name ?_
  intro H1 eH1
  have g1 : H1.get h.n = some (.cells (List.replicate 24 (.int .u8 0)) 112) := by rw [eH1]; exact AHeap.get_push_same _ _
  have s1 : Same h H1 := by rw [eH1]; exact (Same.refl h).push _
  have n1 : H1.n = h.n + 1 := by rw [eH1]; rfl
  clear eH1
  refine GoR.call rfl rfl rfl rfl rfl rfl rfl (((numDigits_spec x (by omega) hx _ (hG.same s1)).argA).mono ?_)
  rintro _ h2 ⟨k, rfl, k1, k3, k4⟩ s2
  have n2 := s2.1
  (refine Go.run (g:=?_))
  refine GoR.slice (u := .pointer (some ⟨h.n, 0, none⟩)) (lo' := none) (hi' := some (.int .i64 ((k + 1 : Nat) : Int))) (mx' := none) rfl rfl rfl rfl rfl rfl rfl rfl (aSlice_arr arr24 siz1 (l := 0) (r := k + 1) rfl (by simp [bnd]; omega) (Nat.zero_le _) (by omega)) ?_
  have v1 : Sv h2 112 1 (some ⟨h.n, 0 + 0, none⟩) (k + 1 - 0) (24 - 0) (List.replicate (k + 1) (.int .u8 0)) := .mk (s2.get g1) (by simp) (by omega) (by rw [Nat.add_zero, List.drop_zero, Nat.mul_one, Nat.sub_zero, List.take_replicate, Nat.min_eq_left (by omega)])
  (refine Go.run (g:=?_))
  refine GoR.callW rfl rfl rfl rfl rfl rfl rfl (((fb10_spec x (k + 1 - 0) (by omega) (by simpa using k4) hx _ _ _ _ _ v1).argA).mono ?_)
  rintro _ h3 v2 p3
  refine ⟨fun i hi => .inr (by simp [blk] at hi; omega), ?_⟩
  (refine Go.run (g:=?_))
  refine GoR.slice (u := .pointer (some ⟨h.n, 0, none⟩)) (lo' := none) (hi' := some (.int .i64 ((k + 1 : Nat) : Int))) (mx' := none) rfl rfl rfl rfl rfl rfl rfl rfl (aSlice_arr arr24 siz1 (l := 0) (r := k + 1) rfl (by simp [bnd]; omega) (Nat.zero_le _) (by omega)) ?_
  refine GoR.strQ (zs := pd (k + 1 - 0) x) rfl rfl rfl rfl rfl v2 ?_
  rw [Nat.sub_zero, pd_dg k x k3 k4]
  (refine Go.run (g:=?_))
  (first|refine Go.finA rfl ?_|refine Go.finB rfl (hq:=?_))
  rfl
theorem wrap_neg {n : Nat} (h0 : 0 < n) (h1 : n ≤ 9223372036854775808) : IntKind.u64.wrap (-(n : Int)) = ((18446744073709551616 - n : Nat) : Int) := by
 have : IntKind.u64.wrap (-(n : Int)) = (-(n : Int)) % 18446744073709551616 := rfl
 rw [this]; omega
theorem wrap_back {n : Nat} (h0 : 0 < n) (h1 : n ≤ 9223372036854775808) : IntKind.u64.wrap (0 - ((18446744073709551616 - n : Nat) : Int)) = (n : Int) := by
 have : IntKind.u64.wrap (0 - ((18446744073709551616 - n : Nat) : Int)) = (0 - ((18446744073709551616 - n : Nat) : Int)) % 18446744073709551616 := rfl
 rw [this]; omega
set_option maxHeartbeats 4000000 in
theorem fint_spec (x : Int) (hx0 : -9223372036854775808 ≤ x) (hx : x < 9223372036854775808) (h : AHeap) (hG : Holds GH h) : CallS Tryd.prog [] 52 [.int .i64 x, .int .i64 10] h fun v h' => v = .string ⟨(dgI x).toArray⟩ := by
 (refine CallS.of2 Tryd.func52 rfl Tryd.ntmps52 Tryd.results52 rfl ?_)
 rcases Int.lt_or_le x 0 with hn | hn
 case inr =>
  obtain ⟨n, rfl⟩ : ∃ k : Nat, x = k := ⟨x.toNat, by omega⟩
  rw [dgI_nat]
  rcases Nat.lt_or_ge n 100 with h1 | h1
  ·
   (refine Go.run (g:=?_))
   refine GoR.call rfl rfl rfl rfl rfl rfl rfl (((small_spec n h1 _).argA).mono ?_)
   rintro _ h2 rfl s2
   (refine Go.run (g:=?_))
   (first|refine Go.finA rfl ?_|refine Go.finB rfl (hq:=?_))
   rfl
  ·
   (refine Go.run (g:=?_))
   refine GoR.name ?_
   intro H1 eH1
   have g1 : H1.get h.n = some (.cells (List.replicate 24 (.int .u8 0)) 112) := by rw [eH1]; exact AHeap.get_push_same _ _
   have s1 : Same h H1 := by rw [eH1]; exact (Same.refl h).push _
   have n1 : H1.n = h.n + 1 := by rw [eH1]; rfl
   clear eH1
   refine GoR.call rfl rfl rfl rfl rfl rfl rfl (((numDigits_spec n (by omega) (by omega) _ (hG.same s1)).argA).mono ?_)
   rintro _ h2 ⟨k, rfl, k1, k3, k4⟩ s2
   have n2 := s2.1
   (refine Go.run (g:=?_))
   have v1 : Sv h2 112 1 (some ⟨h.n, 0 + 1, none⟩) (1 + (k + 1) - 1) (24 - 1) (List.replicate (k + 1) (.int .u8 0)) := .mk (s2.get g1) (by simp) (by omega) (by rw [List.drop_replicate, List.take_replicate]; congr 1; omega)
   refine GoR.slice (u := .pointer (some ⟨h.n, 0, none⟩)) (lo' := some (.int .i64 1)) (hi' := some (.int .i64 ((1 + (k + 1) : Nat) : Int))) (mx' := none) rfl rfl rfl rfl rfl rfl rfl rfl (aSlice_arr arr24 siz1 (l := 1) (r := 1 + (k + 1)) rfl (by simp [bnd]; omega) (by omega) (by omega)) ?_
   (refine Go.run (g:=?_))
   refine GoR.callW rfl rfl rfl rfl rfl rfl rfl (((fb10_spec n (1 + (k + 1) - 1) (by omega) (by rw [show 1 + (k + 1) - 1 = k + 1 from by omega]; exact k4) (by omega) _ _ _ _ _ v1).argA).mono ?_)
   rintro _ h3 v2 p3
   refine ⟨fun i hi => .inr (by simp [blk] at hi; omega), ?_⟩
   rw [show pd (1 + (k + 1) - 1) n = dg n from by rw [show 1 + (k + 1) - 1 = k + 1 from by omega]; exact pd_dg k n k3 k4] at v2
   (refine Go.run (g:=?_))
   refine GoR.slice (u := .pointer (some ⟨h.n, 0, none⟩)) (lo' := some (.int .i64 1)) (hi' := some (.int .i64 ((1 + (k + 1) : Nat) : Int))) (mx' := none) rfl rfl rfl rfl rfl rfl rfl rfl (aSlice_arr arr24 siz1 (l := 1) (r := 1 + (k + 1)) rfl (by simp [bnd]; omega) (by omega) (by omega)) ?_
   refine GoR.strQ (zs := dg n) rfl rfl rfl rfl rfl v2 ?_
   (refine Go.run (g:=?_))
   (first|refine Go.finA rfl ?_|refine Go.finB rfl (hq:=?_))
   rfl
 obtain ⟨n, h0, rfl⟩ : ∃ k : Nat, 0 < k ∧ x = -(k : Int) := ⟨(-x).toNat, by omega, by omega⟩
 rw [dgI_neg h0]
 (refine Go.run (g:=?_))
 refine GoR.convE _ rfl rfl rfl rfl rfl (wrap_neg h0 (by omega)) ?_
 (refine Go.run (g:=?_))
 refine GoR.neg rfl rfl rfl rfl rfl ?_
 rw [wrap_back h0 (by omega)]
 (refine Go.run (g:=?_))
 refine GoR.name ?_
 intro H1 eH1
 have g1 : H1.get h.n = some (.cells (List.replicate 24 (.int .u8 0)) 112) := by rw [eH1]; exact AHeap.get_push_same _ _
 have s1 : Same h H1 := by rw [eH1]; exact (Same.refl h).push _
 have n1 : H1.n = h.n + 1 := by rw [eH1]; rfl
 clear eH1
 refine GoR.call rfl rfl rfl rfl rfl rfl rfl (((numDigits_spec n (by omega) (by omega) _ (hG.same s1)).argA).mono ?_)
 rintro _ h2 ⟨k, rfl, k1, k3, k4⟩ s2
 have n2 := s2.1
 (refine Go.run (g:=?_))
 have v1 : Sv h2 112 1 (some ⟨h.n, 0 + 1, none⟩) (1 + (k + 1) - 1) (24 - 1) (List.replicate (k + 1) (.int .u8 0)) := .mk (s2.get g1) (by simp) (by omega) (by rw [List.drop_replicate, List.take_replicate]; congr 1; omega)
 refine GoR.slice (u := .pointer (some ⟨h.n, 0, none⟩)) (lo' := some (.int .i64 1)) (hi' := some (.int .i64 ((1 + (k + 1) : Nat) : Int))) (mx' := none) rfl rfl rfl rfl rfl rfl rfl rfl (aSlice_arr arr24 siz1 (l := 1) (r := 1 + (k + 1)) rfl (by simp [bnd]; omega) (by omega) (by omega)) ?_
 (refine Go.run (g:=?_))
 refine GoR.callW rfl rfl rfl rfl rfl rfl rfl (((fb10_spec n (1 + (k + 1) - 1) (by omega) (by rw [show 1 + (k + 1) - 1 = k + 1 from by omega]; exact k4) (by omega) _ _ _ _ _ v1).argA).mono ?_)
 rintro _ h3 v2 p3
 refine ⟨fun i hi => .inr (by simp [blk] at hi; omega), ?_⟩
 have n3 := p3.1
 rw [show pd (1 + (k + 1) - 1) n = dg n from by rw [show 1 + (k + 1) - 1 = k + 1 from by omega]; exact pd_dg k n k3 k4] at v2
 have v3 : ∃ r, h3.get h.n = some (.cells r 112) ∧ 24 ≤ r.length ∧ (r.drop 1).take (k + 1) = (dg n).map bv := by
  generalize hz : (dg n).map bv = cs at v2
  cases v2 with
  | mk hg ho hl hc => exact ⟨_, hg, by omega, by rw [← hc]; congr 1; omega⟩
 clear v2 v1
 obtain ⟨r, g3, l3, d3⟩ := v3
 (refine Go.run (g:=?_))
 refine GoR.name ?_
 intro H4 eH4
 have g4 : H4.get h.n = some (.cells (.int .u8 45 :: r.drop 1) 112) := by rw [eH4, AHeap.get_put_same _ (by omega)]; rfl
 have v4 : Sv H4 112 1 (some ⟨h.n, 0 + 0, none⟩) (1 + (k + 1) - 0) (24 - 0) ((45 :: dg n).map bv) := .mk g4 (by simp; omega) (by omega) (by
  rw [show (1 + (k + 1) - 0) * 1 = (k + 1) + 1 from by omega]
  show (Value.int .u8 45 :: r.drop 1).take ((k + 1) + 1) = _
  rw [List.take_succ_cons, d3]; rfl)
 clear eH4
 refine GoR.slice (u := .pointer (some ⟨h.n, 0, none⟩)) (lo' := none) (hi' := some (.int .i64 ((1 + (k + 1) : Nat) : Int))) (mx' := none) rfl rfl rfl rfl rfl rfl rfl rfl (aSlice_arr arr24 siz1 (l := 0) (r := 1 + (k + 1)) rfl (by simp [bnd]; omega) (by omega) (by omega)) ?_
 refine GoR.strQ (zs := 45 :: dg n) rfl rfl rfl rfl rfl v4 ?_
 (refine Go.run (g:=?_))
 (first|refine Go.finA rfl ?_|refine Go.finB rfl (hq:=?_))
 rfl
theorem itoa_spec (x : Int) (hx0 : -9223372036854775808 ≤ x) (hx : x < 9223372036854775808) (h : AHeap) (hG : Holds GH h) : CallS Tryd.prog [] 20 [.int .i64 x] h fun v h' => v = .string ⟨(dgI x).toArray⟩ := by
 have k : ∀ h : AHeap, Holds GH h → CallS Tryd.prog [] 39 [.int .i64 x] h fun v h' => v = .string ⟨(dgI x).toArray⟩ := by
  intro h hG
  (refine CallS.of1 Tryd.func39 rfl Tryd.ntmps39 Tryd.results39 rfl ?_)
  (refine Go.run (g:=?_))
  refine GoR.call rfl rfl rfl rfl rfl rfl rfl (((fint_spec x hx0 hx _ hG).argA).mono ?_)
  rintro _ h1 rfl s1
  (refine Go.run (g:=?_))
  (first|refine Go.finA rfl ?_|refine Go.finB rfl (hq:=?_))
  rfl
 (refine CallS.of1 Tryd.func20 rfl Tryd.ntmps20 Tryd.results20 rfl ?_)
 (refine Go.run (g:=?_))
 refine GoR.call rfl rfl rfl rfl rfl rfl rfl (((k _ hG).argA).mono ?_)
 rintro _ h1 rfl s1
 (refine Go.run (g:=?_))
 (first|refine Go.finA rfl ?_|refine Go.finB rfl (hq:=?_))
 rfl
theorem utoa_spec (x : Nat) (hx : x < 18446744073709551616) (h : AHeap) (hG : Holds GH h) : CallS Tryd.prog [] 40 [.int .u64 (x : Nat), .int .i64 10] h fun v h' => v = .string ⟨(dg x).toArray⟩ := by
 (refine CallS.of2 Tryd.func40 rfl Tryd.ntmps40 Tryd.results40 rfl ?_)
 (refine Go.run (g:=?_))
 refine GoR.call rfl rfl rfl rfl rfl rfl rfl (((fuint_spec x hx _ hG).argA).mono ?_)
 rintro _ h1 rfl s1
 (refine Go.run (g:=?_))
 (first|refine Go.finA rfl ?_|refine Go.finB rfl (hq:=?_))
 rfl
end Go.Proofs.YtncbbeghkpjpbaaDoor
namespace Go.Proofs.YtncbbeghkpjpbaaDoor
open Go.RowKit
set_option maxRecDepth 100000
attribute [local irreducible] Go GoR GoL
theorem bu_depth : Tryd.prog.depth = (2 * (Tryd.prog.types.size + Made.depth) + 1) + 1 := rfl
theorem bu_same : sameLayout Tryd.prog Tryd.prog.depth 103 103 = true := by rw [bu_depth]; simp [sameLayout]
theorem bu_size : sizeT Tryd.prog 103 = some 2 := by kernel_rfl
theorem bu_cells : Tryd.prog.cellsOf 103 = 2 := by kernel_rfl
theorem bu_ptr : Tryd.prog.underlying 101 = some (.pointer 103) := by kernel_rfl
theorem bu_uns : Tryd.prog.underlying 138 = some .unsafePointer := by kernel_rfl
theorem bu_zero : (Tryd.prog.info? 103).bind (·.zero) = some (.agg #[.pointer none, .slice none 0 0]) := by kernel_rfl
theorem aEq_pp {P : Program} {h : AHeap} {t e : TypeId} (hu : P.underlying t = some (.pointer e)) (a : Option Addr) : aEq P h t (.pointer none) (.pointer a) = some (a.isNone, []) := by
 unfold aEq
 rw [hu]
theorem aEq_pn {P : Program} {h : AHeap} {t e : TypeId} (hu : P.underlying t = some (.pointer e)) (a : Addr) : aEq P h t (.pointer (some a)) (.pointer none) = some (false, []) := by
 unfold aEq
 rw [hu]
theorem aEq_self {P : Program} {h : AHeap} {t e n b p : Nat} {o : AObj} (hu : P.underlying t = some (.pointer e)) (hs : sizeT P e = some (n + 1)) (hg : h.get b = some o) : aEq P h t (.pointer (some ⟨b, p, none⟩)) (.pointer (some ⟨b, p, none⟩)) = some (true, []) := by
 unfold aEq
 rw [hu]
 simp only [hs]
 rw [if_pos trivial, hg]
 simp
set_option maxHeartbeats 4000000 in
theorem copyCheck_spec (bb : Nat) (p : Option Addr) (hp : p = none ∨ p = some ⟨bb, 0, none⟩) (v : Value) (hv : v.oneCell' = true) (h : AHeap) (hg : h.get bb = some (.cells [.pointer p, v] 103)) : CallS Tryd.prog [bb] 71 [.pointer (some ⟨bb, 0, none⟩)] h fun _ h' => h'.get bb = some (.cells [.pointer (some ⟨bb, 0, none⟩), v] 103) := by
 (refine CallS.of1 Tryd.func71 rfl Tryd.ntmps71 Tryd.results71 rfl ?_)
 rcases hp with rfl | rfl
 ·
  (refine Go.run (g:=?_))
  refine GoR.eqRef rfl rfl rfl rfl (.inl rfl) rfl rfl (aEq_pp bu_ptr _) ?_
  (refine Go.run (g:=?_))
  refine GoR.toUnsafe rfl rfl rfl rfl bu_ptr bu_uns bu_size (by decide) rfl hg (by simp) ?_
  (refine Go.run (g:=?_))
  refine GoR.externI rfl rfl rfl rfl rfl rfl Tryd.func92 (by kernel_rfl) (by kernel_rfl) (by kernel_rfl) (e := Extern.AbiNoEscape.same) (by kernel_rfl) (fun _ => rfl) ?_
  refine GoR.fromUnsafe rfl rfl rfl rfl bu_uns bu_ptr bu_size bu_cells (by decide) bu_depth bu_same bu_zero rfl rfl hg rfl ?_
  (refine Go.run (g:=?_))
  (first|refine Go.finA rfl ?_|refine Go.finB rfl (hq:=?_))
  exact AHeap.get_put_same _ (AHeap.lt hg) _
 ·
  (refine Go.run (g:=?_))
  refine GoR.eqRef rfl rfl rfl rfl (.inl rfl) rfl rfl (aEq_pn bu_ptr _) ?_
  (refine Go.run (g:=?_))
  refine GoR.eqRef rfl rfl rfl rfl (.inr rfl) rfl rfl (aEq_self bu_ptr bu_size hg) ?_
  (refine Go.run (g:=?_))
  (first|refine Go.finA rfl ?_|refine Go.finB rfl (hq:=?_))
  exact hg
structure BU (h : AHeap) (bb : Nat) (p a : Option Addr) (cap : Nat) (zs : List UInt8) : Prop where
 g : h.get bb = some (.cells [.pointer p, .slice a zs.length cap] 103)
 p : p = none ∨ p = some ⟨bb, 0, none⟩
 v : Sv h 5 1 a zs.length cap (zs.map bv)
 o : bb ∉ blk a
theorem BU.same {h h' : AHeap} {bb : Nat} {p a : Option Addr} {cap : Nat} {zs : List UInt8} (k : BU h bb p a cap zs) (s : Same h h') : BU h' bb p a cap zs := ⟨s.get k.g, k.p, k.v.same s, k.o⟩
set_option maxHeartbeats 4000000 in
theorem writeByte_spec (bb : Nat) (p a : Option Addr) (cap : Nat) (zs : List UInt8) (c : UInt8) (hz : zs.length < 1000000000) (h : AHeap) (B : BU h bb p a cap zs) : CallS Tryd.prog (bb :: blk a) 54 [.pointer (some ⟨bb, 0, none⟩), .int .u8 (c.toNat : Nat)] h fun _ h' => ∃ p' a' cap', BU h' bb p' a' cap' (zs ++ [c]) ∧ ∀ i ∈ blk a', i ∈ blk a ∨ h.n ≤ i := by
 have hbn := AHeap.lt B.g
 (refine CallS.of2 Tryd.func54 rfl Tryd.ntmps54 Tryd.results54 rfl ?_)
 (refine Go.run (g:=?_))
 refine GoR.callW rfl rfl rfl rfl rfl rfl rfl (((copyCheck_spec bb p B.p _ rfl _ B.g).argA).mono ?_)
 rintro _ h1 g1 k1
 refine ⟨fun i hi => by simp at hi; subst hi; exact .inl (List.mem_cons_self ..), ?_⟩
 have n1 := k1.1
 have hv1 : Sv h1 5 1 a zs.length cap (zs.map bv) := B.v.keeps k1 fun i hi e => by
  simp at e; subst e; exact B.o hi
 have lt1 := hv1.lt
 have lt0 := B.v.lt
 (refine Go.run (g:=?_))
 refine GoR.buildRo (c := [c].map bv) rfl rfl rfl rfl rfl (by decide) (by rfl) (by rfl) ?_
 intro b2 h2 r2 ro2 ow2 s2 n2
 have m2 := s2.1
 refine GoR.appendV rfl rfl rfl rfl rfl rfl (hv1.same s2) r2 (fun i hi => .inl (List.mem_cons_of_mem _ hi)) (by omega) (by omega) (by simp [bv, Value.oneCell']) ?_
 intro b3 c3 h3 v3 k3 o3
 have m3 := k3.1
 have g3 := k3.get (s2.get g1) B.o
 rw [← List.map_append] at v3
 (refine Go.run (g:=?_))
 (first|refine Go.finA rfl ?_|refine Go.finB rfl (hq:=?_))
 have ho3 : bb ∉ blk b3 := fun e => by
  rcases o3 bb e with x | x
  · exact B.o x
  · omega
 refine ⟨some ⟨bb, 0, none⟩, b3, c3, ⟨?_, .inr rfl, ?_, ho3⟩, fun i hi => (o3 i hi).imp id fun x => by omega⟩
 ·
  rw [List.length_append]
  exact AHeap.get_put_same _ (by omega) _
 ·
  rw [List.length_append]
  exact v3.put ho3 _
set_option maxHeartbeats 4000000 in
theorem bstring_spec (bb : Nat) (p a : Option Addr) (cap : Nat) (zs : List UInt8) (h0 : 0 < zs.length) (hz : zs.length < 1000000000) (h : AHeap) (B : BU h bb p a cap zs) : CallS Tryd.prog (blk a) 55 [.pointer (some ⟨bb, 0, none⟩)] h fun v _ => v = .string ⟨zs.toArray⟩ := by
 have hbn := AHeap.lt B.g
 obtain ⟨b, o, c, rfl, hg, ho, hl, hc⟩ := B.v.some h0
 have g := B.g
 have hne : bb ≠ b := fun e => B.o (by simp [blk, e])
 rw [Nat.mul_one] at ho hc
 (refine CallS.of1 Tryd.func55 rfl Tryd.ntmps55 Tryd.results55 rfl ?_)
 refine Go.runN (g:=?_)
 refine Go.loud (by kernel_rfl) rfl ?_
 (refine Go.runL (g:=?_))
 refine GoL.sliceData rfl rfl rfl rfl rfl (by omega) ?_
 (refine Go.runL (g:=?_))
 refine GoL.unsafeStr (zs := zs) rfl rfl rfl rfl Tryd.underlying117 (by kernel_rfl) rfl rfl hg h0 (by omega) (by omega) hc (.inl (by simp [blk])) ?_
 (refine Go.runL (g:=?_))
 (refine GoL.end_ (g:=?_))
 (refine Go.run (g:=?_))
 (first|refine Go.finA rfl ?_|refine Go.finB rfl (hq:=?_))
 rfl
end Go.Proofs.YtncbbeghkpjpbaaDoor
namespace Go.Proofs.YtncbbeghkpjpbaaDoor
open Go.RowKit
set_option maxRecDepth 100000
attribute [local irreducible] Go GoR GoL
def halfL : List UInt8 := [48, 49, 50, 51, 52, 53, 54, 55, 56, 57, 97, 98, 99, 100, 101, 102]
def hxd (d : Nat) : UInt8 := halfL.getD d 0
theorem half_at {d : Nat} (h : d < 16) : halfL[d]? = some (hxd d) := by
 have hl : halfL.length = 16 := by decide +kernel
 unfold hxd
 rw [List.getD_eq_getElem?_getD, List.getElem?_eq_getElem (by omega)]
 rfl
def hx2 (zs : List UInt8) : List UInt8 := zs.flatMap fun z => [hxd (z.toNat / 16), hxd (z.toNat % 16)]
theorem hx2_len (zs : List UInt8) : (hx2 zs).length = 2 * zs.length := by
 induction zs with
 | nil => rfl
 | cons z zs ih => simp only [hx2, List.flatMap_cons, List.length_append, List.length_cons, List.length_nil] at *; omega
theorem hx2_snoc (zs : List UInt8) (z : UInt8) : hx2 (zs ++ [z]) = hx2 zs ++ [hxd (z.toNat / 16)] ++ [hxd (z.toNat % 16)] := by
 simp [hx2]
def hxL (zs : List UInt8) : List UInt8 := if zs.length = 0 then [45] else hx2 zs
theorem hxL_len (zs : List UInt8) : (hxL zs).length ≤ 2 * zs.length + 1 := by
 unfold hxL
 split
 · simp
 · rw [hx2_len]; omega
theorem take_snoc {α : Type} {zs : List α} {i : Nat} {z : α} (h : zs[i]? = some z) : zs.take (i + 1) = zs.take i ++ [z] := by
 rw [List.take_add_one, h]; rfl
theorem same_keeps {h H H2 : AHeap} {wr : List Nat} (s : Same h H) (k : Keeps wr H H2) (hw : ∀ i ∈ wr, h.n ≤ i) : Same h H2 := ⟨Nat.le_trans s.1 k.1, fun i hi => (k.2 i (Nat.lt_of_lt_of_le hi s.1) fun e => by have := hw i e; omega).trans (s.2 i hi)⟩
set_option maxHeartbeats 8000000 in
theorem hex_spec (a : Option Addr) (cap : Nat) (zs : List UInt8) (hl : zs.length ≤ 100000000) (h : AHeap) (hS : Rv Tryd.prog h 1 a zs.length cap (zs.map bv)) : CallS Tryd.prog [] 41 [.slice a zs.length cap] h fun v _ => v = .string ⟨(hxL zs).toArray⟩ := by
 (refine CallS.of1 Tryd.func41 rfl Tryd.ntmps41 Tryd.results41 rfl ?_)
 generalize hn : zs.length = n at *
 rcases Nat.eq_zero_or_pos n with h0 | h0
 ·
  subst h0
  (refine Go.run (g:=?_))
  (first|refine Go.finA rfl ?_|refine Go.finB rfl (hq:=?_))
  unfold hxL; rw [if_pos hn]; rfl
 ·
  (refine Go.run (g:=?_))
  refine Go.name ?_
  intro H1 eH1
  have s1 : Same h H1 := by rw [eH1]; exact (Same.refl h).push _
  have n1 : H1.n = h.n + 1 := by rw [eH1]; rfl
  have B1 : BU H1 h.n none none 0 (hx2 (zs.take 0)) := ⟨by rw [eH1]; exact AHeap.get_push_same _ _, .inl rfl, .nil, fun e => by cases e⟩
  clear eH1
  refine Go.loop (α := Nat × Option Addr × Option Addr × Nat × AHeap) (fun s => [(11, .int .i64 (s.1 : Nat)), (10, .int .i64 (n : Nat)), (9, .slice a n cap), (3, .pointer (some ⟨h.n, 0, none⟩))]) (fun _ => []) (fun s => s.2.2.2.2) (fun s => s.1 ≤ n ∧ Same h s.2.2.2.2 ∧ BU s.2.2.2.2 h.n s.2.1 s.2.2.1 s.2.2.2.1 (hx2 (zs.take s.1)) ∧ (∀ i ∈ blk s.2.2.1, h.n ≤ i) ∧ h.n < s.2.2.2.2.n) (fun s => n - s.1) (0, none, none, 0, H1) ?_ ?_ rfl rfl ?_
  · exact ⟨Nat.zero_le _, s1, B1, (fun i hi => by simp [blk] at hi), (by show h.n < H1.n; omega)⟩
  · exact ⟨rfl, rfl, rfl, rfl, trivial⟩
  rintro ⟨i, p, b, c, H⟩ ⟨e1, s, B, ow, m⟩
  simp only at e1 s B ow m ⊢
  have hln := hx2_len (zs.take i)
  rw [List.length_take, hn] at hln
  rcases Nat.lt_or_ge i n with hi | hi
  ·
   obtain ⟨z, hz⟩ : ∃ z, zs[i]? = some z := ⟨_, List.getElem?_eq_getElem (by omega)⟩
   have hz' : (zs.map bv)[i]? = some (.int .u8 (z.toNat : Nat)) := by rw [List.getElem?_map, hz]; rfl
   have hz8 : z.toNat < 256 := z.toNat_lt
   have hS' := hS.same s
   have et := hx2_snoc (zs.take i) z
   rw [← take_snoc hz] at et
   (refine Go.run (g:=?_))
   refine GoR.strAt (zs := halfL) rfl rfl rfl rfl rfl rfl (half_at (d := z.toNat / 2 ^ 4) (by omega)) ?_
   (refine Go.run (g:=?_))
   refine GoR.callW rfl rfl rfl rfl rfl rfl rfl (((writeByte_spec h.n p b c _ _ (by omega) _ B).argA).mono ?_)
   rintro _ H2 ⟨p2, b2, c2, B2, o2⟩ k2
   have w2 : ∀ i ∈ h.n :: blk b, h.n ≤ i := fun i hi => (List.mem_cons.1 hi).elim (fun e => by omega) (ow i)
   refine ⟨fun i hi => .inr (w2 i hi), ?_⟩
   have s2 := same_keeps s k2 w2
   have m2 := k2.1
   (refine Go.run (g:=?_))
   refine GoR.andN' rfl rfl rfl rfl rfl rfl (g := ?_)
   rw [show z.toNat &&& 15 = z.toNat % 16 from Nat.and_two_pow_sub_one_eq_mod _ 4]
   refine GoR.strAt (zs := halfL) rfl rfl rfl rfl rfl rfl (half_at (d := z.toNat % 16) (by omega)) ?_
   (refine Go.run (g:=?_))
   refine GoR.callW rfl rfl rfl rfl rfl rfl rfl (((writeByte_spec h.n p2 b2 c2 _ _ (by rw [List.length_append]; simp only [List.length_cons, List.length_nil]; omega) _ B2).argA).mono ?_)
   rintro _ H3 ⟨p3, b3, c3, B3, o3⟩ k3
   have ow2 : ∀ i ∈ blk b2, h.n ≤ i := fun i hi => (o2 i hi).elim (ow i) fun e => by omega
   have w3 : ∀ i ∈ h.n :: blk b2, h.n ≤ i := fun i hi => (List.mem_cons.1 hi).elim (fun e => by omega) (ow2 i)
   refine ⟨fun i hi => .inr (w3 i hi), ?_⟩
   have s3 := same_keeps s2 k3 w3
   have m3 := k3.1
   rw [show z.toNat / 2 ^ 4 = z.toNat / 16 from rfl, ← et] at B3
   (refine Go.run (g:=?_))
   refine Go.again (i + 1, p3, b3, c3, H3) ⟨(by show i + 1 ≤ n; omega), s3, B3, (fun j hj => (o3 j hj).elim (ow2 j) fun e => by omega), (by show h.n < H3.n; omega)⟩ (by show n - (i + 1) < n - i; omega) ⟨rfl, rfl, rfl, rfl, trivial⟩ rfl rfl
  ·
   obtain rfl : i = n := by omega
   rw [← hn, List.take_length] at B
   have hlz := hx2_len zs
   (refine Go.run (g:=?_))
   refine GoR.callW rfl rfl rfl rfl rfl rfl rfl (((bstring_spec h.n p b c _ (by omega) (by omega) _ B).argA).mono ?_)
   rintro _ H2 rfl k2
   refine ⟨fun i hi => .inr (ow i hi), ?_⟩
   (refine Go.run (g:=?_))
   (first|refine Go.finA rfl ?_|refine Go.finB rfl (hq:=?_))
   unfold hxL; rw [if_neg (by omega)]; rfl
set_option maxHeartbeats 8000000 in
theorem hexR_spec (a : Option Addr) (cap : Nat) (zs : List UInt8) (hl : zs.length ≤ 100000000) (h : AHeap) (hS : Rv Tryd.prog h 1 a zs.length cap (zs.map bv)) : CallS Tryd.prog [] 38 [.slice a zs.length cap] h fun v _ => v = .string ⟨(hxL zs).toArray⟩ := by
 (refine CallS.of1 Tryd.func38 rfl Tryd.ntmps38 Tryd.results38 rfl ?_)
 generalize hn : zs.length = n at *
 rcases Nat.eq_zero_or_pos n with h0 | h0
 ·
  subst h0
  (refine Go.run (g:=?_))
  (first|refine Go.finA rfl ?_|refine Go.finB rfl (hq:=?_))
  unfold hxL; rw [if_pos hn]; rfl
 ·
  (refine Go.run (g:=?_))
  refine Go.loop (α := Nat × Option Addr × Nat × AHeap) (fun s => [(5, .int .i64 (s.1 : Nat)), (4, .slice s.2.1 (2 * s.1) s.2.2.1), (3, .string ⟨halfL.toArray⟩), (0, .slice a n cap)]) (fun _ => []) (fun s => s.2.2.2) (fun s => s.1 ≤ n ∧ Same h s.2.2.2 ∧ Sv s.2.2.2 5 1 s.2.1 (2 * s.1) s.2.2.1 ((hx2 (zs.take s.1)).map bv) ∧ Own h.n s.2.1) (fun s => n - s.1) (0, none, 0, h) ?_ ?_ rfl rfl ?_
  · exact ⟨Nat.zero_le _, .refl h, .nil, .nil _⟩
  · exact ⟨rfl, rfl, rfl, rfl, trivial⟩
  rintro ⟨i, b, c, H⟩ ⟨e1, s, v, ow⟩
  simp only at e1 s v ow ⊢
  rcases Nat.lt_or_ge i n with hi | hi
  ·
   obtain ⟨z, hz⟩ : ∃ z, zs[i]? = some z := ⟨_, List.getElem?_eq_getElem (by omega)⟩
   have hz' : (zs.map bv)[i]? = some (.int .u8 (z.toNat : Nat)) := by rw [List.getElem?_map, hz]; rfl
   have hz8 : z.toNat < 256 := z.toNat_lt
   have hS' := hS.same s
   have et := hx2_snoc (zs.take i) z
   rw [← take_snoc hz] at et
   refine Go.runN (g:=?_)
   refine Go.loud (by kernel_rfl) rfl ?_
   (refine Go.runL (g:=?_))
   refine GoL.strAt (zs := halfL) rfl rfl rfl rfl rfl rfl (half_at (d := z.toNat / 16) (by omega)) ?_
   (refine Go.runL (g:=?_))
   refine GoL.strAt (zs := halfL) rfl rfl rfl rfl rfl rfl (half_at (d := z.toNat % 16) (by omega)) ?_
   (refine Go.runL (g:=?_))
   refine GoL.buildRo (c := [hxd (z.toNat / 16), hxd (z.toNat % 16)].map bv) rfl rfl rfl rfl rfl (by decide) (by rfl) (by rfl) ?_
   intro b2 h2 r2 ro2 ow2 s2 n2
   refine GoL.appendV rfl rfl rfl rfl rfl rfl (v.same s2) r2 (fun j hj => .inr (ow j hj)) (by omega) (by omega) (by simp [bv, Value.oneCell']) ?_
   intro b3 c3 h3 rd wr hwr hrd v3 k3 o3
   rw [← List.map_append, show hx2 (zs.take i) ++ [hxd (z.toNat / 16), hxd (z.toNat % 16)] = hx2 (zs.take (i + 1)) from by rw [et]; simp] at v3
   (refine Go.runL (g:=?_))
   (refine GoL.end_ (g:=?_))
   (refine Go.run (g:=?_))
   have ow3 : Own h.n b3 := fun j hj => (o3 j hj).elim (ow j) fun e => by have := s.1; have := s2.1; omega
   refine Go.again (i + 1, b3, c3, h3) ⟨(by show i + 1 ≤ n; omega), same_keeps (s.trans s2) k3 ow, v3, ow3⟩ (by show n - (i + 1) < n - i; omega) ⟨rfl, rfl, rfl, rfl, trivial⟩ rfl rfl
  ·
   obtain rfl : i = n := by omega
   rw [← hn, List.take_length] at v
   have v' := v.rv (P := Tryd.prog)
   rw [hn] at v'
   (refine Go.run (g:=?_))
   (first|refine Go.finA rfl ?_|refine Go.finB rfl (hq:=?_))
   unfold hxL; rw [if_neg (by omega)]; rfl
end Go.Proofs.YtncbbeghkpjpbaaDoor
namespace Go.Proofs.YtncbbeghkpjpbaaDoor
open Go.RowKit
set_option maxRecDepth 100000
attribute [local irreducible] Go GoR GoL
def unordL : List UInt8 := [32, 117, 110, 111, 114, 100, 101, 114, 101, 100]
def msgL (sid ppid : Nat) (u : Bool) (zs : List UInt8) : List UInt8 := dg sid ++ [32] ++ dg ppid ++ [32] ++ hxL zs ++ (if u then unordL else [])
theorem msg_lens {sid ppid : Nat} {zs : List UInt8} (h1 : sid < 65536) (h2 : ppid < 4294967296) (hl : zs.length ≤ 100000000) : (dg sid).length ≤ 20 ∧ (dg ppid).length ≤ 20 ∧ (hxL zs).length ≤ 200000001 := ⟨dg_len 19 sid (by omega), dg_len 19 ppid (by omega), by have := hxL_len zs; omega⟩
theorem msgL_len {sid ppid : Nat} {u : Bool} {zs : List UInt8} (h1 : sid < 65536) (h2 : ppid < 4294967296) (hl : zs.length ≤ 100000000) : (msgL sid ppid u zs).length ≤ 200000100 := by
 obtain ⟨a, b, c⟩ := msg_lens h1 h2 hl
 unfold msgL
 cases u <;> simp [unordL] <;> omega
set_option maxHeartbeats 8000000 in
theorem message_spec (sid ppid : Nat) (u : Bool) (a : Option Addr) (cap : Nat) (zs : List UInt8) (h1 : sid < 65536) (h2 : ppid < 4294967296) (hl : zs.length ≤ 100000000) (h : AHeap) (hG : Holds GH h) (hS : Rv Tryd.prog h 1 a zs.length cap (zs.map bv)) : CallS Tryd.prog [] 21 [.agg #[.int .u16 (sid : Nat), .bool u, .int .u32 (ppid : Nat), .slice a zs.length cap]] h fun v _ => v = .string ⟨(msgL sid ppid u zs).toArray⟩ := by
 obtain ⟨l1, l2, l3⟩ := msg_lens h1 h2 hl
 (refine CallS.of1 Tryd.func21 rfl Tryd.ntmps21 Tryd.results21 rfl ?_)
 (refine Go.run (g:=?_))
 have hG0 := hG.same ((Same.refl h).push (.cells [.int .u16 (sid : Nat), .bool u, .int .u32 (ppid : Nat), .slice a zs.length cap] 33))
 have hS0 := hS.same ((Same.refl h).push (.cells [.int .u16 (sid : Nat), .bool u, .int .u32 (ppid : Nat), .slice a zs.length cap] 33))
 refine GoR.call rfl rfl rfl rfl rfl rfl rfl (((itoa_spec (sid : Nat) (by omega) (by omega) _ hG0).argA).mono ?_)
 rintro _ H1 hv1 s1
 rw [dgI_nat] at hv1; subst hv1
 have g1 := s1.get (AHeap.get_push_same h (.cells [.int .u16 (sid : Nat), .bool u, .int .u32 (ppid : Nat), .slice a zs.length cap] 33))
 refine GoR.strAdd (b := [32]) rfl rfl rfl rfl rfl rfl (by simp only [List.length_cons, List.length_nil]; omega) ?_
 (refine Go.run (g:=?_))
 refine GoR.call rfl rfl rfl rfl rfl rfl rfl (((utoa_spec ppid (by omega) _ (hG0.same s1)).argA).mono ?_)
 rintro _ H2 hv2 s2
 subst hv2
 have g2 := s2.get g1
 refine GoR.strAdd rfl rfl rfl rfl rfl rfl (by simp only [List.length_append, List.length_cons, List.length_nil]; omega) ?_
 refine GoR.strAdd (b := [32]) rfl rfl rfl rfl rfl rfl (by simp only [List.length_append, List.length_cons, List.length_nil]; omega) ?_
 (refine Go.run (g:=?_))
 refine GoR.call rfl rfl rfl rfl rfl rfl rfl (((hex_spec a cap zs hl _ ((hS0.same s1).same s2)).argA).mono ?_)
 rintro _ H3 rfl s3
 have g3 := s3.get g2
 refine GoR.strAdd rfl rfl rfl rfl rfl rfl (by simp only [List.length_append, List.length_cons, List.length_nil]; omega) ?_
 cases u
 ·
  (refine Go.run (g:=?_))
  (first|refine Go.finA rfl ?_|refine Go.finB rfl (hq:=?_))
  unfold msgL; rw [if_neg (by decide), List.append_nil]; rfl
 ·
  (refine Go.run (g:=?_))
  refine GoR.strAdd (b := unordL) rfl rfl rfl rfl rfl rfl (by simp only [List.length_append, List.length_cons, List.length_nil, unordL]; omega) ?_
  (refine Go.run (g:=?_))
  (first|refine Go.finA rfl ?_|refine Go.finB rfl (hq:=?_))
  unfold msgL; rw [if_pos rfl]; rfl
set_option maxHeartbeats 8000000 in
theorem messageR_spec (sid ppid : Nat) (u : Bool) (a : Option Addr) (cap : Nat) (zs : List UInt8) (h1 : sid < 65536) (h2 : ppid < 4294967296) (hl : zs.length ≤ 100000000) (h : AHeap) (hS : Rv Tryd.prog h 1 a zs.length cap (zs.map bv)) : CallS Tryd.prog [] 19 [.agg #[.int .u16 (sid : Nat), .bool u, .int .u32 (ppid : Nat), .slice a zs.length cap]] h fun v _ => v = .string ⟨(msgL sid ppid u zs).toArray⟩ := by
 obtain ⟨l1, l2, l3⟩ := msg_lens h1 h2 hl
 (refine CallS.of1 Tryd.func19 rfl Tryd.ntmps19 Tryd.results19 rfl ?_)
 (refine Go.run (g:=?_))
 have hS0 := hS.same ((Same.refl h).push (.cells [.int .u16 (sid : Nat), .bool u, .int .u32 (ppid : Nat), .slice a zs.length cap] 33))
 refine GoR.call rfl rfl rfl rfl rfl rfl rfl (((digits_spec (sid : Nat) (by omega) (by omega) _).argA).mono ?_)
 rintro _ H1 hv1 s1
 rw [dgI_nat] at hv1; subst hv1
 have g1 := s1.get (AHeap.get_push_same h (.cells [.int .u16 (sid : Nat), .bool u, .int .u32 (ppid : Nat), .slice a zs.length cap] 33))
 refine GoR.strAdd (b := [32]) rfl rfl rfl rfl rfl rfl (by simp only [List.length_cons, List.length_nil]; omega) ?_
 (refine Go.run (g:=?_))
 refine GoR.call rfl rfl rfl rfl rfl rfl rfl (((digits_spec (ppid : Nat) (by omega) (by omega) _).argA).mono ?_)
 rintro _ H2 hv2 s2
 rw [dgI_nat] at hv2; subst hv2
 have g2 := s2.get g1
 refine GoR.strAdd rfl rfl rfl rfl rfl rfl (by simp only [List.length_append, List.length_cons, List.length_nil]; omega) ?_
 refine GoR.strAdd (b := [32]) rfl rfl rfl rfl rfl rfl (by simp only [List.length_append, List.length_cons, List.length_nil]; omega) ?_
 (refine Go.run (g:=?_))
 refine GoR.call rfl rfl rfl rfl rfl rfl rfl (((hexR_spec a cap zs hl _ ((hS0.same s1).same s2)).argA).mono ?_)
 rintro _ H3 rfl s3
 have g3 := s3.get g2
 refine GoR.strAdd rfl rfl rfl rfl rfl rfl (by simp only [List.length_append, List.length_cons, List.length_nil]; omega) ?_
 cases u
 ·
  (refine Go.run (g:=?_))
  (first|refine Go.finA rfl ?_|refine Go.finB rfl (hq:=?_))
  unfold msgL; rw [if_neg (by decide), List.append_nil]; rfl
 ·
  (refine Go.run (g:=?_))
  refine GoR.strAdd (b := unordL) rfl rfl rfl rfl rfl rfl (by simp only [List.length_append, List.length_cons, List.length_nil, unordL]; omega) ?_
  (refine Go.run (g:=?_))
  (first|refine Go.finA rfl ?_|refine Go.finB rfl (hq:=?_))
  unfold msgL; rw [if_pos rfl]; rfl
end Go.Proofs.YtncbbeghkpjpbaaDoor
namespace Go.Proofs.YtncbbeghkpjpbaaDoor
open Go.RowKit
set_option maxRecDepth 100000
attribute [local irreducible] Go GoR GoL
def okL : List UInt8 := [111, 107, 32]
def ansL (kind : Nat) (e id : Int) (sid ppid : Nat) (u : Bool) (zs : List UInt8) (nk : Nat) (nid : Int) : List UInt8 :=
 if e ≠ 0 then [101, 114, 114, 111, 114, 32] ++ dgI e
 else if kind = 1 then okL ++ dgI id
 else if kind = 3 then okL ++ msgL sid ppid u zs
 else if kind = 8 then okL ++ dg nk ++ [32] ++ dgI nid
 else [111, 107]
theorem dgI_len {x : Int} (h0 : -9223372036854775808 ≤ x) (h1 : x < 9223372036854775808) : (dgI x).length ≤ 21 := by
 unfold dgI
 split
 · have := dg_len 19 (-x).toNat (by omega); simp; omega
 · have := dg_len 19 x.toNat (by omega); omega
set_option maxHeartbeats 8000000 in
theorem answer_spec (kind : Nat) (hk : kind < 256) (e id : Int) (he0 : -9223372036854775808 ≤ e) (he1 : e < 9223372036854775808) (hi0 : -9223372036854775808 ≤ id) (hi1 : id < 9223372036854775808) (sid ppid : Nat) (u : Bool) (a : Option Addr) (cap : Nat) (zs : List UInt8) (h1 : sid < 65536) (h2 : ppid < 4294967296) (hl : zs.length ≤ 100000000) (nk : Nat) (hnk : nk < 256) (nid : Int) (hn0 : -9223372036854775808 ≤ nid) (hn1 : nid < 9223372036854775808) (h : AHeap) (hG : Holds GH h) (hS : Rv Tryd.prog h 1 a zs.length cap (zs.map bv)) : CallS Tryd.prog [] 9 [.int .u8 (kind : Nat), .agg #[.int .i64 e, .int .i64 id, .int .u16 (sid : Nat), .bool u, .int .u32 (ppid : Nat), .slice a zs.length cap, .int .u8 (nk : Nat), .int .i64 nid]] h fun v _ => v = .string ⟨(ansL kind e id sid ppid u zs nk nid).toArray⟩ := by
 have l1 := dgI_len he0 he1
 have l2 := dgI_len hi0 hi1
 have l3 := dgI_len hn0 hn1
 have l4 := msgL_len (u := u) h1 h2 hl
 have l5 := dg_len 19 nk (by omega)
 (refine CallS.of2 Tryd.func9 rfl Tryd.ntmps9 Tryd.results9 rfl ?_)
 by_cases hE : e = 0
 case neg =>
  have hG0 := hG.same ((Same.refl h).push (.cells [.int .i64 e, .int .i64 id, .int .u16 (sid : Nat), .bool u, .int .u32 (ppid : Nat), .slice a zs.length cap, .int .u8 (nk : Nat), .int .i64 nid] 37))
  (refine Go.run (g:=?_))
  refine GoR.call rfl rfl rfl rfl rfl rfl rfl (((itoa_spec e he0 he1 _ (hG0)).argA).mono ?_)
  rintro _ H1 rfl s1
  refine GoR.strAdd (a := [101, 114, 114, 111, 114, 32]) rfl rfl rfl rfl rfl rfl (by simp only [List.length_cons, List.length_nil]; omega) ?_
  (refine Go.run (g:=?_))
  (first|refine Go.finA rfl ?_|refine Go.finB rfl (hq:=?_))
  unfold ansL; rw [if_pos hE]; rfl
 subst hE
 have s0 := (Same.refl h).push (.cells [.int .i64 0, .int .i64 id, .int .u16 (sid : Nat), .bool u, .int .u32 (ppid : Nat), .slice a zs.length cap, .int .u8 (nk : Nat), .int .i64 nid] 37)
 have g0 := AHeap.get_push_same h (.cells [.int .i64 0, .int .i64 id, .int .u16 (sid : Nat), .bool u, .int .u32 (ppid : Nat), .slice a zs.length cap, .int .u8 (nk : Nat), .int .i64 nid] 37)
 have hG0 := hG.same s0
 have hS0 := hS.same s0
 by_cases k1 : kind = 1
 ·
  subst k1
  (refine Go.run (g:=?_))
  refine GoR.call rfl rfl rfl rfl rfl rfl rfl (((itoa_spec id hi0 hi1 _ (hG0)).argA).mono ?_)
  rintro _ H1 rfl s1
  refine GoR.strAdd (a := okL) rfl rfl rfl rfl rfl rfl (by simp only [List.length_cons, List.length_nil, okL]; omega) ?_
  (refine Go.run (g:=?_))
  (first|refine Go.finA rfl ?_|refine Go.finB rfl (hq:=?_))
  unfold ansL; rw [if_neg (by decide), if_pos rfl]; rfl
 ·
  by_cases k3 : kind = 3
  ·
   subst k3
   (refine Go.run (g:=?_))
   refine GoR.call rfl rfl rfl rfl rfl rfl rfl (((message_spec sid ppid u a cap zs h1 h2 hl _ hG0 hS0).argA).mono ?_)
   rintro _ H1 rfl s1
   refine GoR.strAdd (a := okL) rfl rfl rfl rfl rfl rfl (by simp only [List.length_cons, List.length_nil, okL]; omega) ?_
   (refine Go.run (g:=?_))
   (first|refine Go.finA rfl ?_|refine Go.finB rfl (hq:=?_))
   unfold ansL; rw [if_neg (by decide), if_neg (by decide), if_pos rfl]; rfl
  ·
   by_cases k8 : kind = 8
   ·
    subst k8
    (refine Go.run (g:=?_))
    refine GoR.call rfl rfl rfl rfl rfl rfl rfl (((itoa_spec (nk : Nat) (by omega) (by omega) _ (hG0)).argA).mono ?_)
    rintro _ H1 hv s1
    rw [dgI_nat] at hv; subst hv
    have g1 := s1.get g0
    refine GoR.strAdd (a := okL) rfl rfl rfl rfl rfl rfl (by simp only [List.length_cons, List.length_nil, okL]; omega) ?_
    refine GoR.strAdd (b := [32]) rfl rfl rfl rfl rfl rfl (by simp only [List.length_append, List.length_cons, List.length_nil, okL]; omega) ?_
    (refine Go.run (g:=?_))
    refine GoR.call rfl rfl rfl rfl rfl rfl rfl (((itoa_spec nid hn0 hn1 _ (hG0.same s1)).argA).mono ?_)
    rintro _ H2 rfl s2
    refine GoR.strAdd rfl rfl rfl rfl rfl rfl (by simp only [List.length_append, List.length_cons, List.length_nil, okL]; omega) ?_
    (refine Go.run (g:=?_))
    (first|refine Go.finA rfl ?_|refine Go.finB rfl (hq:=?_))
    unfold ansL; rw [if_neg (by decide), if_neg (by decide), if_neg (by decide), if_pos rfl]; rfl
   ·
    (refine Go.run (g:=?_))
    (first|refine Go.finA rfl ?_|refine Go.finB rfl (hq:=?_))
    unfold ansL; rw [if_neg (by decide), if_neg k1, if_neg k3, if_neg k8]; rfl
set_option maxHeartbeats 8000000 in
theorem answerR_spec (kind : Nat) (hk : kind < 256) (e id : Int) (he0 : -9223372036854775808 ≤ e) (he1 : e < 9223372036854775808) (hi0 : -9223372036854775808 ≤ id) (hi1 : id < 9223372036854775808) (sid ppid : Nat) (u : Bool) (a : Option Addr) (cap : Nat) (zs : List UInt8) (h1 : sid < 65536) (h2 : ppid < 4294967296) (hl : zs.length ≤ 100000000) (nk : Nat) (hnk : nk < 256) (nid : Int) (hn0 : -9223372036854775808 ≤ nid) (hn1 : nid < 9223372036854775808) (h : AHeap) (hS : Rv Tryd.prog h 1 a zs.length cap (zs.map bv)) : CallS Tryd.prog [] 10 [.int .u8 (kind : Nat), .agg #[.int .i64 e, .int .i64 id, .int .u16 (sid : Nat), .bool u, .int .u32 (ppid : Nat), .slice a zs.length cap, .int .u8 (nk : Nat), .int .i64 nid]] h fun v _ => v = .string ⟨(ansL kind e id sid ppid u zs nk nid).toArray⟩ := by
 have l1 := dgI_len he0 he1
 have l2 := dgI_len hi0 hi1
 have l3 := dgI_len hn0 hn1
 have l4 := msgL_len (u := u) h1 h2 hl
 have l5 := dg_len 19 nk (by omega)
 (refine CallS.of2 Tryd.func10 rfl Tryd.ntmps10 Tryd.results10 rfl ?_)
 by_cases hE : e = 0
 case neg =>
  (refine Go.run (g:=?_))
  refine GoR.call rfl rfl rfl rfl rfl rfl rfl (((digits_spec e he0 he1 _).argA).mono ?_)
  rintro _ H1 rfl s1
  refine GoR.strAdd (a := [101, 114, 114, 111, 114, 32]) rfl rfl rfl rfl rfl rfl (by simp only [List.length_cons, List.length_nil]; omega) ?_
  (refine Go.run (g:=?_))
  (first|refine Go.finA rfl ?_|refine Go.finB rfl (hq:=?_))
  unfold ansL; rw [if_pos hE]; rfl
 subst hE
 have s0 := (Same.refl h).push (.cells [.int .i64 0, .int .i64 id, .int .u16 (sid : Nat), .bool u, .int .u32 (ppid : Nat), .slice a zs.length cap, .int .u8 (nk : Nat), .int .i64 nid] 37)
 have g0 := AHeap.get_push_same h (.cells [.int .i64 0, .int .i64 id, .int .u16 (sid : Nat), .bool u, .int .u32 (ppid : Nat), .slice a zs.length cap, .int .u8 (nk : Nat), .int .i64 nid] 37)
 have hS0 := hS.same s0
 by_cases k1 : kind = 1
 ·
  subst k1
  (refine Go.run (g:=?_))
  refine GoR.call rfl rfl rfl rfl rfl rfl rfl (((digits_spec id hi0 hi1 _).argA).mono ?_)
  rintro _ H1 rfl s1
  refine GoR.strAdd (a := okL) rfl rfl rfl rfl rfl rfl (by simp only [List.length_cons, List.length_nil, okL]; omega) ?_
  (refine Go.run (g:=?_))
  (first|refine Go.finA rfl ?_|refine Go.finB rfl (hq:=?_))
  unfold ansL; rw [if_neg (by decide), if_pos rfl]; rfl
 ·
  by_cases k3 : kind = 3
  ·
   subst k3
   (refine Go.run (g:=?_))
   refine GoR.call rfl rfl rfl rfl rfl rfl rfl (((messageR_spec sid ppid u a cap zs h1 h2 hl _ hS0).argA).mono ?_)
   rintro _ H1 rfl s1
   refine GoR.strAdd (a := okL) rfl rfl rfl rfl rfl rfl (by simp only [List.length_cons, List.length_nil, okL]; omega) ?_
   (refine Go.run (g:=?_))
   (first|refine Go.finA rfl ?_|refine Go.finB rfl (hq:=?_))
   unfold ansL; rw [if_neg (by decide), if_neg (by decide), if_pos rfl]; rfl
  ·
   by_cases k8 : kind = 8
   ·
    subst k8
    (refine Go.run (g:=?_))
    refine GoR.call rfl rfl rfl rfl rfl rfl rfl (((digits_spec (nk : Nat) (by omega) (by omega) _).argA).mono ?_)
    rintro _ H1 hv s1
    rw [dgI_nat] at hv; subst hv
    have g1 := s1.get g0
    refine GoR.strAdd (a := okL) rfl rfl rfl rfl rfl rfl (by simp only [List.length_cons, List.length_nil, okL]; omega) ?_
    refine GoR.strAdd (b := [32]) rfl rfl rfl rfl rfl rfl (by simp only [List.length_append, List.length_cons, List.length_nil, okL]; omega) ?_
    (refine Go.run (g:=?_))
    refine GoR.call rfl rfl rfl rfl rfl rfl rfl (((digits_spec nid hn0 hn1 _).argA).mono ?_)
    rintro _ H2 rfl s2
    refine GoR.strAdd rfl rfl rfl rfl rfl rfl (by simp only [List.length_append, List.length_cons, List.length_nil, okL]; omega) ?_
    (refine Go.run (g:=?_))
    (first|refine Go.finA rfl ?_|refine Go.finB rfl (hq:=?_))
    unfold ansL; rw [if_neg (by decide), if_neg (by decide), if_neg (by decide), if_pos rfl]; rfl
   ·
    (refine Go.run (g:=?_))
    (first|refine Go.finA rfl ?_|refine Go.finB rfl (hq:=?_))
    unfold ansL; rw [if_neg (by decide), if_neg k1, if_neg k3, if_neg k8]; rfl
set_option maxHeartbeats 8000000 in
theorem scriptAnswers_spec (kind : Nat) (hk : kind < 256) (e id : Int) (he0 : -9223372036854775808 ≤ e) (he1 : e < 9223372036854775808) (hi0 : -9223372036854775808 ≤ id) (hi1 : id < 9223372036854775808) (sid ppid : Nat) (u : Bool) (a : Option Addr) (cap : Nat) (zs : List UInt8) (h1 : sid < 65536) (h2 : ppid < 4294967296) (hcap : zs.length < 9223372036854775808) (nk : Nat) (hnk : nk < 256) (nid : Int) (hn0 : -9223372036854775808 ≤ nid) (hn1 : nid < 9223372036854775808) (h : AHeap) (hG : Holds GH h) (hS : Rv Tryd.prog h 1 a zs.length cap (zs.map bv)) : CallS Tryd.prog [] 4 [.int .u8 (kind : Nat), .agg #[.int .i64 e, .int .i64 id, .int .u16 (sid : Nat), .bool u, .int .u32 (ppid : Nat), .slice a zs.length cap, .int .u8 (nk : Nat), .int .i64 nid]] h fun v _ => v = .bool true := by
 have s0 := (Same.refl h).push (.cells [.int .i64 e, .int .i64 id, .int .u16 (sid : Nat), .bool u, .int .u32 (ppid : Nat), .slice a zs.length cap, .int .u8 (nk : Nat), .int .i64 nid] 37)
 have g0 := AHeap.get_push_same h (.cells [.int .i64 e, .int .i64 id, .int .u16 (sid : Nat), .bool u, .int .u32 (ppid : Nat), .slice a zs.length cap, .int .u8 (nk : Nat), .int .i64 nid] 37)
 have hG0 := hG.same s0
 have hS0 := hS.same s0
 (refine CallS.of2 Tryd.func4 rfl Tryd.ntmps4 Tryd.results4 rfl ?_)
 (refine Go.run (g:=?_))
 refine GoR.call rfl rfl rfl rfl rfl rfl rfl (((known32 _ hG0).argA).mono ?_)
 rintro _ H1 ⟨rfl, rfl⟩ s1
 clear s1
 rcases Nat.lt_or_ge 5000 zs.length with hl | hl
 ·
  (refine Go.run (g:=?_))
  (first|refine Go.finA rfl ?_|refine Go.finB rfl (hq:=?_))
  rfl
 ·
  (refine Go.run (g:=?_))
  refine GoR.call rfl rfl rfl rfl rfl rfl rfl (((answer_spec kind hk e id he0 he1 hi0 hi1 sid ppid u a cap zs h1 h2 (by omega) nk hnk nid hn0 hn1 _ hG0 hS0).argA).mono ?_)
  rintro _ H2 rfl s2
  have g2 := s2.get g0
  (refine Go.run (g:=?_))
  refine GoR.call rfl rfl rfl rfl rfl rfl rfl (((answerR_spec kind hk e id he0 he1 hi0 hi1 sid ppid u a cap zs h1 h2 (by omega) nk hnk nid hn0 hn1 _ (hS0.same s2)).argA).mono ?_)
  rintro _ H3 rfl s3
  generalize ansL kind e id sid ppid u zs nk nid = L
  (refine Go.run (g:=?_))
  (first|refine Go.finA rfl ?_|refine Go.finB rfl (hq:=?_))
  show Value.bool (decide (L = L)) = _
  rw [decide_eq_true rfl]
end Go.Proofs.YtncbbeghkpjpbaaDoor
namespace Go.Proofs.YtncbbeghkpjpbaaDoor
open Go.ChangeShapes Go.WideShapes Go.ChangeAt Go.RowKit
set_option maxRecDepth 100000
def pow10Z : List Int := [1, 10, 100, 1000, 10000, 100000, 1000000, 10000000, 100000000, 1000000000, 10000000000, 100000000000, 1000000000000, 10000000000000, 100000000000000, 1000000000000000, 10000000000000000, 100000000000000000, 1000000000000000000, 10000000000000000000]
theorem pow10Z_eq : pow10L = pow10Z.map fun z => Value.int .u64 z := by rfl
theorem gPow : Tryd.prog.globalNamed "internal/strconv.uint64pow10" = some 1 := by kernel_rfl
theorem gPowT : (Tryd.prog.globals[1]?).map (·.type) = some 134 := by kernel_rfl
theorem uPow : Tryd.prog.underlying 134 = some (.array 20 87) := by kernel_rfl
theorem uU64 : Tryd.prog.underlying 87 = some (.int .u64) := by kernel_rfl
theorem cU64 : Tryd.prog.cellsOf 87 = 1 := by kernel_rfl
theorem cPow : Tryd.prog.cellsOf 134 = 20 := by kernel_rfl
def laid32 : List (String × DataW Unit) := [("math/bits.deBruijn32tab", Rows.laid_math_bits_deBruijn32tab), ("math/bits.deBruijn64tab", Rows.laid_math_bits_deBruijn64tab), ("internal/strconv.uint64pow10", Rows.laid_internal_strconv_uint64pow10), ("unicode/utf8.acceptRanges", Rows.laid_unicode_utf8_acceptRanges), ("strconv.ErrRange", Rows.laid_strconv_ErrRange), ("strconv.ErrSyntax", Rows.laid_strconv_ErrSyntax), ("unicode/utf8.first", Rows.laid_unicode_utf8_first)]
theorem laid_plain {W : World} (h : laidMetH Tryd.prog laid32 W) : laidMet Tryd.prog laid32 W := by
 rwa [MakeChecks.laidMetH_plain _ _ _ (by kernel_rfl)] at h
theorem laid_lt {P : Program} {W : World} : ∀ (l : List (String × DataW Unit)), laidMet P l W → ∀ x ∈ l, ∃ g, P.globalNamed x.1 = some g ∧ g < W.heap.size
 | [], _, x, hx => by cases hx
 | y :: l, h, x, hx => by
  rcases List.mem_cons.1 hx with rfl | hx
  ·
   obtain ⟨ps, ⟨g, t, cs, fuel, p, q, hg, ht, hv, hd, _⟩, _⟩ := h
   refine ⟨g, hg, ?_⟩
   simp only [World.var?, hg, Option.bind_some] at hv
   cases hq : W.heap[g]? with
   | none => rw [hq] at hv; cases hv
   | some o => exact (Array.getElem?_eq_some_iff.1 hq).1
  · exact laid_lt l h.tail x hx
theorem has7 : (laid32.any fun x => Tryd.prog.globalNamed x.1 == some 7) = true := by kernel_rfl
theorem heap8 {W : World} (h : laidMet Tryd.prog laid32 W) : 8 ≤ W.heap.size := by
 obtain ⟨x, hx, e⟩ := List.any_eq_true.1 has7
 obtain ⟨g, hg, hl⟩ := laid_lt _ h x hx
 rw [hg] at e
 have : g = 7 := by simpa using e
 omega
theorem pow_tab {W : World} (h : laidMet Tryd.prog laid32 W) : Lib.TabIs Tryd.prog W "internal/strconv.uint64pow10" .u64 pow10Z :=
 Lib.tabIs_of_head (rest := _) gPow gPowT uPow uU64 cU64 cPow (h.tail.tail : laidMet Tryd.prog (("internal/strconv.uint64pow10", Lib.tabData .u64 pow10Z) :: _) W)
theorem imGH {W : World} (h : laidMetH Tryd.prog laid32 W) : Im Tryd.prog W (mG GH.n) GH := by
 have hp := laid_plain h
 refine imG GH_flat (heap8 hp) fun i c e => ?_
 obtain ⟨rfl, e2⟩ := GH_get i _ e
 cases e2
 have ht := pow_tab hp
 unfold Lib.TabIs at ht
 rw [← pow10Z_eq] at ht
 simp only [World.var?, gPow, Option.bind_some] at ht
 cases hq : W.heap[1]? with
 | none => rw [hq] at ht; cases ht
 | some o =>
  rw [hq] at ht
  cases o with
  | cells c' t fz =>
   simp only [Option.some.injEq] at ht
   subst ht
   exact ⟨_, t, fz, rfl, fun j v hv => by simpa using hv⟩
  | _ => cases ht
theorem mG_main : MOk Tryd.prog (mG GH.n) := mG_ok GH_size
end Go.Proofs.YtncbbeghkpjpbaaDoor
namespace Go.Proofs.YtncbbeghkpjpbaaDoor
open Go.ChangeShapes Go.WideShapes Go.ChangeAt Go.RowKit
set_option maxRecDepth 100000
theorem plainAns : plainB Tryd.prog 8 37 = true := by kernel_rfl
theorem i64_of {x : Int} (h : (Lit.int .i64 x).wf = true) : -9223372036854775808 ≤ x ∧ x < 9223372036854775808 := by
 have hb : -(2 : Int) ^ 63 ≤ x ∧ x ≤ 2 ^ 63 - 1 := by simpa [Lit.wf, IntKind.min, IntKind.max, IntKind.signed, IntKind.bits] using h
 omega
theorem intU5 : Tryd.prog.underlying 3 = some (.int .i64) := by kernel_rfl
theorem errU5 : Tryd.prog.underlying 24 = some (.int .i64) := by kernel_rfl
theorem u8U5 : Tryd.prog.underlying 5 = some (.int .u8) := by kernel_rfl
theorem u16U5 : Tryd.prog.underlying 29 = some (.int .u16) := by kernel_rfl
theorem u32U5 : Tryd.prog.underlying 30 = some (.int .u32) := by kernel_rfl
theorem boolU5 : Tryd.prog.underlying 4 = some .bool := by kernel_rfl
theorem bytesU5 : Tryd.prog.underlying 31 = some (.slice 5) := by kernel_rfl
theorem ans_of {h : AHeap} {H : Type} {cs : List Value} {d : DataW H} (r : ARd Tryd.prog h 37 cs d) : ∃ (e id : Int) (sid ppid : Nat) (u : Bool) (a : Option Addr) (cap : Nat) (zs : List UInt8) (nk : Nat) (nid : Int), cs = [.int .i64 e, .int .i64 id, .int .u16 (sid : Nat), .bool u, .int .u32 (ppid : Nat), .slice a zs.length cap, .int .u8 (nk : Nat), .int .i64 nid] ∧ (-9223372036854775808 ≤ e ∧ e < 9223372036854775808) ∧ (-9223372036854775808 ≤ id ∧ id < 9223372036854775808) ∧ sid < 65536 ∧ ppid < 4294967296 ∧ nk < 256 ∧ (-9223372036854775808 ≤ nid ∧ nid < 9223372036854775808) ∧ Rv Tryd.prog h 1 a zs.length cap (zs.map bv) ∧ zs.length ≤ maxLen := by
 obtain ⟨hl, hf⟩ := r.field Tryd.underlying37
 rw [show Tryd.prog.cellsOf 37 = 8 from by kernel_rfl] at hl
 match cs, hl with
 | [c0, c1, c2, c3, c4, c5, c6, c7], _ =>
  obtain ⟨d0, r0⟩ := hf 0 24 0 1 rfl (by kernel_rfl)
  obtain ⟨d1, r1⟩ := hf 1 3 1 1 rfl (by kernel_rfl)
  obtain ⟨d2, r2⟩ := hf 2 33 2 4 rfl (by kernel_rfl)
  obtain ⟨d3, r3⟩ := hf 3 35 6 2 rfl (by kernel_rfl)
  obtain ⟨hl2, hf2⟩ := r2.field Tryd.underlying33
  obtain ⟨hl3, hf3⟩ := r3.field Tryd.underlying35
  obtain ⟨m0, s0⟩ := hf2 0 29 0 1 rfl (by kernel_rfl)
  obtain ⟨m1, s1⟩ := hf2 1 4 1 1 rfl (by kernel_rfl)
  obtain ⟨m2, s2⟩ := hf2 2 30 2 1 rfl (by kernel_rfl)
  obtain ⟨m3, s3⟩ := hf2 3 31 3 1 rfl (by kernel_rfl)
  obtain ⟨n0, t0⟩ := hf3 0 5 0 1 rfl (by kernel_rfl)
  obtain ⟨n1, t1⟩ := hf3 1 3 1 1 rfl (by kernel_rfl)
  obtain ⟨e, e0, b0⟩ := r0.int_inv errU5
  obtain ⟨id, e1, b1⟩ := r1.int_inv intU5
  obtain ⟨sid, e2, b2⟩ := s0.u_inv rfl u16U5
  obtain ⟨u, e3⟩ := s1.bool_inv boolU5
  obtain ⟨ppid, e4, b4⟩ := s2.u_inv rfl u32U5
  obtain ⟨a, cap, zs, e5, hR, hm⟩ := s3.bytes bytesU5 u8U5 (by kernel_rfl)
  obtain ⟨nk, e6, b6⟩ := t0.u_inv rfl u8U5
  obtain ⟨nid, e7, b7⟩ := t1.int_inv intU5
  simp at e0 e1 e2 e3 e4 e5 e6 e7
  subst e0 e1 e2 e3 e4 e5 e6 e7
  exact ⟨e, id, sid, ppid, u, a, cap, zs, nk, nid, rfl, i64_of b0, i64_of b1, b2, b4, b6, i64_of b7, hR, Nat.le_trans hR.le hm⟩
theorem scriptAnswersWalk {H : Type} {enc : TypeId × Value → H} {base : Nat} {d1 : DataW H} {p1 : List MemPlace} (a0 : Int) (v1 : Value) (W : World) (hL : laidMetH Tryd.prog laid32 W) (w0 : (Lit.int .u8 a0).wf = true) (o1 : Value.okWide Tryd.prog W .any base 37 v1) (h1 : DataW.Trod enc Tryd.prog W 0 (fun _ => true) true 37 v1 d1 p1) : Calls Tryd.prog 4 #[.int .u8 a0, v1] W fun e w' => e = .returned (.bool true) ∧ Below W.heap.size W w' := by
 obtain ⟨c1, rfl, hsz1⟩ := okWide_struct Tryd.underlying37 o1
 obtain ⟨m, h, cs, I, hm, hs, hA, hR, hl⟩ := imp_val plainAns h1 (imGH hL)
 have hv := vrel_agg hA
 obtain ⟨e, id, sid, ppid, u, a, cap, zs, nk, nid, rfl, b1, b2, b3, b4, b5, b6, hz, hz2⟩ := ans_of hR
 have hb : 0 ≤ a0 ∧ a0 ≤ 255 := by simpa [Lit.wf, IntKind.min, IntKind.max, IntKind.signed, IntKind.bits] using w0
 obtain ⟨k, rfl⟩ : ∃ k : Nat, a0 = k := ⟨a0.toNat, by omega⟩
 refine calls_impG (mG_main.mono hm) I rfl (scriptAnswers_spec k (by omega) e id b1.1 b1.2 b2.1 b2.2 sid ppid u a cap zs b3 b4 (by have : maxLen = 9223372036854775807 := rfl; omega) nk b5 nid b6.1 b6.2 h ((Holds.refl GH).same hs) hz) ?_
 exact (ARel.single (.int _ _)).push hv
end Go.Proofs.YtncbbeghkpjpbaaDoor